/-
  The law IsaNames, walked. Condition: the tables lie as the program's text, and the library's, lay them.
-/
import Derived.Test.YtkodeoocebimkaaDoorIsG
namespace Go.Proofs.YtkodeoocebimkaaDoor
open Go.RowKit Go.Shelf
set_option linter.unusedVariables false
set_option linter.unusedSimpArgs false
attribute [local go_sem] Oper.semAt_some

set_option maxRecDepth 100000 in
set_option maxHeartbeats 8000000 in
theorem namesLaw_any {w : World} (hG : Ground w) : Calls Tryd.prog 6 #[] w fun e w' => e = .returned (.bool true) ∧ Below w.heap.size w w' := by
  have D1 := Lib.hid (fun W (hW : Below w.heap.size w W) => decC_any (hG.below hW) 402653185 (by unfold RangeW; decide) x0 30 (by decide +kernel) (by decide +kernel))
  have A1 := Lib.hid (fun W (hW : Below w.heap.size w W) => show Calls Tryd.prog 23 #[.string ⟨#[106, 109, 112, 32, 120, 10]⟩] W fun e w' => ∃ A c, e = .returned (.tuple #[.slice A 0 c, .int .i64 1, .int .i64 31]) ∧ WordsAt w' A [] ∧ 0 ≤ c ∧ Below W.heap.size W w' from
    asm_any (hG.below hW) ⟨#[106, 109, 112, 32, 120, 10]⟩ (by decide) (show asmP [106, 109, 112, 32, 120, 10] = ([], 1, 31) from by decide +kernel))
  have A2 := Lib.hid (fun W (hW : Below w.heap.size w W) => show Calls Tryd.prog 23 #[.string ⟨#[97, 58, 10, 97, 58, 10]⟩] W fun e w' => ∃ A c, e = .returned (.tuple #[.slice A 0 c, .int .i64 2, .int .i64 31]) ∧ WordsAt w' A [] ∧ 0 ≤ c ∧ Below W.heap.size W w' from
    asm_any (hG.below hW) ⟨#[97, 58, 10, 97, 58, 10]⟩ (by decide) (show asmP [97, 58, 10, 97, 58, 10] = ([], 2, 31) from by decide +kernel))
  have A3 := Lib.hid (fun W (hW : Below w.heap.size w W) => show Calls Tryd.prog 23 #[.string ⟨#[115, 121, 115]⟩] W fun e w' => ∃ A c, e = .returned (.tuple #[.slice A 0 c, .int .i64 1, .int .i64 31]) ∧ WordsAt w' A [] ∧ 0 ≤ c ∧ Below W.heap.size W w' from
    asm_any (hG.below hW) ⟨#[115, 121, 115]⟩ (by decide) (show asmP [115, 121, 115] = ([], 1, 31) from by decide +kernel))
  have A4 := Lib.hid (fun W (hW : Below w.heap.size w W) => show Calls Tryd.prog 23 #[.string ⟨#[108, 105, 32, 49, 32, 97, 10]⟩] W fun e w' => ∃ A c, e = .returned (.tuple #[.slice A 0 c, .int .i64 1, .int .i64 31]) ∧ WordsAt w' A [] ∧ 0 ≤ c ∧ Below W.heap.size W w' from
    asm_any (hG.below hW) ⟨#[108, 105, 32, 49, 32, 97, 10]⟩ (by decide) (show asmP [108, 105, 32, 49, 32, 97, 10] = ([], 1, 31) from by decide +kernel))
  have A5 := Lib.hid (fun W (hW : Below w.heap.size w W) => show Calls Tryd.prog 23 #[.string ⟨#[119, 111, 114, 100, 32, 52, 50, 57, 52, 57, 54, 55, 50, 57, 53, 10]⟩] W fun e w' => ∃ A c, e = .returned (.tuple #[.slice A 1 c, .int .i64 0, .int .i64 0]) ∧ WordsAt w' A [4294967295] ∧ 1 ≤ c ∧ Below W.heap.size W w' from
    asm_any (hG.below hW) ⟨#[119, 111, 114, 100, 32, 52, 50, 57, 52, 57, 54, 55, 50, 57, 53, 10]⟩ (by decide) (show asmP [119, 111, 114, 100, 32, 52, 50, 57, 52, 57, 54, 55, 50, 57, 53, 10] = ([4294967295], 0, 0) from by decide +kernel))
  have R1 := Lib.hid (fun W (hW : Below w.heap.size w W) => readC_any (hG.below hW) ⟨#[122, 115, 101, 116, 32, 49, 32, 55]⟩ (by decide) x0 30 (show readX [122, 115, 101, 116, 32, 49, 32, 55] = x0 from by decide +kernel) (show readE [122, 115, 101, 116, 32, 49, 32, 55] = 30 from by decide +kernel))
  have R2 := Lib.hid (fun W (hW : Below w.heap.size w W) => readC_any (hG.below hW) ⟨#[106, 109, 112, 32, 97]⟩ (by decide) x0 30 (show readX [106, 109, 112, 32, 97] = x0 from by decide +kernel) (show readE [106, 109, 112, 32, 97] = 30 from by decide +kernel))
  have D2 := Lib.hid (fun W (hW : Below w.heap.size w W) => decC_any (hG.below hW) 503316480 (by unfold RangeW; decide) x0 30 (by decide +kernel) (by decide +kernel))
  have L1 := Lib.hid (fun W (hW : Below w.heap.size w W) => show Calls Tryd.prog 16 #[.agg #[.int .i64 15, .int .i64 2, .int .i64 3, .int .i64 (-4)]] W fun e w' => e = .returned (.tuple #[.string ⟨#[108, 119, 32, 50, 32, 51, 32, 45, 52]⟩, .int .i64 0]) ∧ Below W.heap.size W w' from by
    have h := lineI_yes (hG.below hW) 15 2 3 (-4) (by decide +kernel)
    rw [lineI_is] at h
    unfold addW at h
    rw [show Lib.itoa (Ins.mk 15 2 3 (-4)).imm = [45, 52] from (itoaF_eq (by decide) (by decide)).symm.trans (by decide +kernel), show Lib.itoa (Ins.mk 15 2 3 (-4)).b = [51] from (itoaF_eq (by decide) (by decide)).symm.trans (by decide +kernel), show Lib.itoa (Ins.mk 15 2 3 (-4)).a = [50] from (itoaF_eq (by decide) (by decide)).symm.trans (by decide +kernel)] at h
    exact h)
  have A6 := Lib.hid (fun W (hW : Below w.heap.size w W) => show Calls Tryd.prog 23 #[.string ⟨#[]⟩] W fun e w' => ∃ A c, e = .returned (.tuple #[.slice A 0 c, .int .i64 0, .int .i64 0]) ∧ WordsAt w' A [] ∧ 0 ≤ c ∧ Below W.heap.size W w' from
    asm_any (hG.below hW) ⟨#[]⟩ (by decide) (show asmP [] = ([], 0, 0) from by decide +kernel))
  have AL := Lib.hid (fun W (hW : Below w.heap.size w W) => alive_any (hG.below hW))
  have N1 := Lib.hid (fun W (hW : Below w.heap.size w W) => show Calls Tryd.prog 20 #[.int .i64 30] W fun e w' => e = .returned (.string ⟨#[]⟩) ∧ Below W.heap.size W w' from name_any (hG.below hW).laid 30)
  have N2 := Lib.hid (fun W (hW : Below w.heap.size w W) => show Calls Tryd.prog 20 #[.int .i64 (-1)] W fun e w' => e = .returned (.string ⟨#[]⟩) ∧ Below W.heap.size W w' from name_any (hG.below hW).laid (-1))
  have hB := Below.refl w.heap.size w
  simp only [x0] at D1 D2 R1 R2
  have HB := Lib.hid hB
  clear hG hB
  go_enter Tryd.func6, Tryd.ntmps6
  go_wp2_with fail
  refine (D1.out _ HB.out).mono ?_
  rintro e V ⟨rfl, hb⟩
  have hbn := bl_new (bl_step HB.out hb) (.cells #[.int .i64 0, .int .i64 0, .int .i64 0, .int .i64 0] 23)
  clear hb HB
  have HB := Lib.hid hbn
  clear hbn
  go_wp2_with fail
  refine (A1.out _ HB.out).mono ?_
  rintro e V ⟨_, _, rfl, _, _, hb⟩
  have hbn := bl_step HB.out hb
  clear hb HB
  have HB := Lib.hid hbn
  clear hbn
  go_wp2_with fail
  refine (A2.out _ HB.out).mono ?_
  rintro e V ⟨_, _, rfl, _, _, hb⟩
  have hbn := bl_step HB.out hb
  clear hb HB
  have HB := Lib.hid hbn
  clear hbn
  go_wp2_with fail
  refine (A3.out _ HB.out).mono ?_
  rintro e V ⟨_, _, rfl, _, _, hb⟩
  have hbn := bl_step HB.out hb
  clear hb HB
  have HB := Lib.hid hbn
  clear hbn
  go_wp2_with fail
  refine (A4.out _ HB.out).mono ?_
  rintro e V ⟨_, _, rfl, _, _, hb⟩
  have hbn := bl_step HB.out hb
  clear hb HB
  have HB := Lib.hid hbn
  clear hbn
  go_wp2_with fail
  refine (A5.out _ HB.out).mono ?_
  rintro e V ⟨Aw, cw, rfl, hw, hc, hb⟩
  have hbn := bl_step HB.out hb
  clear hb HB
  have HB := Lib.hid hbn
  clear hbn
  have HW := Lib.hid hw
  clear hw
  have hc1 : (1 : Int) ≤ (cw : Int) := by omega
  go_wp2_with fail
  refine (R1.out _ HB.out).mono ?_
  rintro e V ⟨rfl, hb⟩
  have hbn := bl_new (bl_step HB.out hb) (.cells #[.int .i64 0, .int .i64 0, .int .i64 0, .int .i64 0] 23)
  have hwn := (HW.out.below hb).below (below_alloc1 V (.cells #[.int .i64 0, .int .i64 0, .int .i64 0, .int .i64 0] 23))
  clear hb HB HW
  have HB := Lib.hid hbn
  have HW := Lib.hid hwn
  clear hbn hwn
  go_wp2_with fail
  refine (R2.out _ HB.out).mono ?_
  rintro e V ⟨rfl, hb⟩
  have hbn := bl_new (bl_step HB.out hb) (.cells #[.int .i64 0, .int .i64 0, .int .i64 0, .int .i64 0] 23)
  have hwn := (HW.out.below hb).below (below_alloc1 V (.cells #[.int .i64 0, .int .i64 0, .int .i64 0, .int .i64 0] 23))
  clear hb HB HW
  have HB := Lib.hid hbn
  have HW := Lib.hid hwn
  clear hbn hwn
  go_wp2_with fail
  refine (D2.out _ HB.out).mono ?_
  rintro e V ⟨rfl, hb⟩
  have hbn := bl_new (bl_step HB.out hb) (.cells #[.int .i64 0, .int .i64 0, .int .i64 0, .int .i64 0] 23)
  have hwn := (HW.out.below hb).below (below_alloc1 V (.cells #[.int .i64 0, .int .i64 0, .int .i64 0, .int .i64 0] 23))
  clear hb HB HW
  have HB := Lib.hid hbn
  have HW := Lib.hid hwn
  clear hbn hwn
  go_wp2_with fail
  refine (L1.out _ HB.out).mono ?_
  rintro e V ⟨rfl, hb⟩
  have hbn := bl_step HB.out hb
  have hwn := HW.out.below hb
  clear hb HB HW
  have HB := Lib.hid hbn
  have HW := Lib.hid hwn
  clear hbn hwn
  go_wp2_with fail
  refine (A6.out _ HB.out).mono ?_
  rintro e V ⟨_, _, rfl, _, _, hb⟩
  have hbn := bl_step HB.out hb
  have hwn := HW.out.below hb
  clear hb HB HW
  have HB := Lib.hid hbn
  have HW := Lib.hid hwn
  clear hbn hwn
  obtain ⟨g, o, rfl, hgl, hcell⟩ := wordsAt_cell (k := 0) HW.out rfl
  go_wp2_with fail
  refine (AL.out _ HB.out).mono ?_
  rintro e V ⟨rfl, hb⟩
  obtain ⟨g', o', e', hgl', hcell'⟩ := wordsAt_cell (k := 0) (HW.out.below hb) rfl
  injection e' with e'
  injection e' with e1 e2 _
  subst e1 e2
  have HB' := Lib.hid (bl_step HB.out hb)
  simp only [Nat.add_zero] at hcell'
  clear hb hcell hgl
  go_wp2_with fail
  refine (N1.out _ HB'.out).mono ?_
  rintro e V2 ⟨rfl, hb⟩
  have HB2 := Lib.hid (bl_step HB'.out hb)
  clear hb
  go_wp2_with fail
  refine (N2.out _ HB2.out).mono ?_
  rintro e V3 ⟨rfl, hb⟩
  have HB3 := Lib.hid (bl_step HB2.out hb)
  clear hb
  go_wp2
  go_ret
  exact ⟨by first | rfl | simp, HB3.out⟩
end Go.Proofs.YtkodeoocebimkaaDoor
