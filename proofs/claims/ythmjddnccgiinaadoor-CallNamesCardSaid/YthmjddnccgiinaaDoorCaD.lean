/-
  CallNames, walked. Condition: the tables lie as the program's text, and the library's, lay them.
-/
import Derived.Test.YthmjddnccgiinaaDoorCaB
namespace Go.Proofs.YthmjddnccgiinaaDoor
open Go.RowKit
set_option linter.unusedVariables false
set_option linter.unusedSimpArgs false

theorem read_no {s : List UInt8} {x : Cl} (hc : candC s = x) (hr : RangeC x) (hl : lineF x ≠ s) : readC s = none := readC_none (fun h => hl (by
  have h2 := h.2.2
  rw [hc, ← lineF_eq hr] at h2
  exact h2))

set_option maxRecDepth 100000 in
set_option maxHeartbeats 8000000 in
theorem namesLaw_any {w : World} (hG : GroundR w) (hC : Codes w) : Calls Tryd.prog 7 #[] w fun e w' => e = .returned (.bool true) ∧ Below w.heap.size w w' := by
  have H0 := Lib.hid (fun W (hW : Below w.heap.size w W) => show Calls Tryd.prog 23 #[.agg #[.int .i64 2, .int .u32 1, .int .u32 0, .int .u32 0]] W fun e w' => e = .returned (.tuple #[.string ⟨#[]⟩, .int .i64 160]) ∧ Below W.heap.size W w' from by
    exact line_no (hG.below hW).g 2 1 0 0 (by decide +kernel))
  have H1 := Lib.hid (fun W (hW : Below w.heap.size w W) => show Calls Tryd.prog 23 #[.agg #[.int .i64 0, .int .u32 0, .int .u32 0, .int .u32 0]] W fun e w' => e = .returned (.tuple #[.string ⟨#[]⟩, .int .i64 160]) ∧ Below W.heap.size W w' from by
    exact line_no (hG.below hW).g 0 0 0 0 (by decide +kernel))
  have H2 := Lib.hid (fun W (hW : Below w.heap.size w W) => show Calls Tryd.prog 28 #[.string ⟨#[114, 101, 97, 100, 32, 51, 32, 54, 52]⟩] W fun e w' => e = .returned (.tuple #[.agg #[.int .i64 0, .int .u32 0, .int .u32 0, .int .u32 0], .int .i64 160]) ∧ Below W.heap.size W w' from by
    have h := read_any (hG.below hW) ⟨#[114, 101, 97, 100, 32, 51, 32, 54, 52]⟩ (by decide)
    rw [show readC (⟨#[114, 101, 97, 100, 32, 51, 32, 54, 52]⟩ : ByteArray).data.toList = none from readC_none (fun h => absurd h.1 (by decide +kernel))] at h
    exact h)
  have H3 := Lib.hid (fun W (hW : Below w.heap.size w W) => show Calls Tryd.prog 28 #[.string ⟨#[101, 120, 105, 116, 32, 48, 49]⟩] W fun e w' => e = .returned (.tuple #[.agg #[.int .i64 0, .int .u32 0, .int .u32 0, .int .u32 0], .int .i64 160]) ∧ Below W.heap.size W w' from by
    have h := read_any (hG.below hW) ⟨#[101, 120, 105, 116, 32, 48, 49]⟩ (by decide)
    rw [show readC (⟨#[101, 120, 105, 116, 32, 48, 49]⟩ : ByteArray).data.toList = none from read_no (x := ⟨1, 1, 0, 0⟩) (by decide +kernel) (by unfold RangeC; decide) (by decide +kernel)] at h
    exact h)
  have H4 := Lib.hid (fun W (hW : Below w.heap.size w W) => show Calls Tryd.prog 28 #[.string ⟨#[101, 120, 105, 116, 32, 52, 50, 57, 52, 57, 54, 55, 50, 57, 54]⟩] W fun e w' => e = .returned (.tuple #[.agg #[.int .i64 0, .int .u32 0, .int .u32 0, .int .u32 0], .int .i64 160]) ∧ Below W.heap.size W w' from by
    have h := read_any (hG.below hW) ⟨#[101, 120, 105, 116, 32, 52, 50, 57, 52, 57, 54, 55, 50, 57, 54]⟩ (by decide)
    rw [show readC (⟨#[101, 120, 105, 116, 32, 52, 50, 57, 52, 57, 54, 55, 50, 57, 54]⟩ : ByteArray).data.toList = none from read_no (x := ⟨1, 4294967295, 0, 0⟩) (by decide +kernel) (by unfold RangeC; decide) (by decide +kernel)] at h
    exact h)
  have H5 := Lib.hid (fun W b t (hW : Below w.heap.size w W) (hx : Blk W b t #[.int .i64 22, .int .u32 32768, .int .u32 0, .int .u32 0]) => show Calls Tryd.prog 24 #[.slice (some ⟨b, 0, none⟩) 1 1] W fun e w' => e = .returned (.tuple #[.string ⟨#[]⟩, .int .i64 160]) ∧ Below W.heap.size W w' from by
    have h := program_any (hG.below hW).g _ 1 [⟨22, 32768, 0, 0⟩] (callsAt_one hx) (by decide) (by intro y hy; simp at hy; rw [hy]; unfold RangeC; decide)
    rw [show progO [⟨22, 32768, 0, 0⟩] = none from if_neg (fun h => absurd (h _ (List.mem_cons_self ..)) (by decide +kernel))] at h
    exact h)
  have H6 := Lib.hid (fun W (hW : Below w.heap.size w W) => show Calls Tryd.prog 10 #[.agg #[.int .u32 23, .int .u32 0, .int .u32 0, .int .u32 0, .int .u32 0, .int .u32 0, .int .u32 0, .int .u32 0]] W fun e w' => e = .returned (.tuple #[.agg #[.int .i64 0, .int .u32 0, .int .u32 0, .int .u32 0], .bool false]) ∧ Below W.heap.size W w' from by
    have h := of_regs (hG.below hW).g.laid (fun k => [23, 0, 0, 0, 0, 0, 0, 0].getD k 0) (by decide)
    rw [rg_none (by decide)] at h
    exact h)
  have H7 := Lib.hid (fun W (hW : Below w.heap.size w W) => alive_any (hG.below hW).g (hC.below hW))
  have H8 := Lib.hid (fun W (hW : Below w.heap.size w W) => show Calls Tryd.prog 12 #[.int .i64 0] W fun e w' => e = .returned (.string ⟨#[]⟩) ∧ Below W.heap.size W w' from by
    exact name_any (hG.below hW).g.laid 0)
  have H9 := Lib.hid (fun W (hW : Below w.heap.size w W) => show Calls Tryd.prog 12 #[.int .i64 23] W fun e w' => e = .returned (.string ⟨#[]⟩) ∧ Below W.heap.size W w' from by
    exact name_any (hG.below hW).g.laid 23)
  have H10 := Lib.hid (fun W (hW : Below w.heap.size w W) => show Calls Tryd.prog 13 #[.int .i64 0] W fun e w' => e = .returned (.int .i64 (-1)) ∧ Below W.heap.size W w' from by
    exact many_any (hG.below hW).g.laid 0)
  have H11 := Lib.hid (fun W (hW : Below w.heap.size w W) => show Calls Tryd.prog 15 #[.string ⟨#[]⟩] W fun e w' => e = .returned (.int .i64 0) ∧ Below W.heap.size W w' from by
    refine (byName_any (hG.below hW).g.laid ⟨#[]⟩).mono fun e w' h => ?_
    obtain ⟨r, h1, h2, h3⟩ := h
    have h4 := byN_of h2
    rw [show byN (⟨#[]⟩ : ByteArray).data.toList = 0 by decide +kernel] at h4
    rw [h4] at h1
    exact ⟨h1, h3⟩)
  have H12 := Lib.hid (fun W (hW : Below w.heap.size w W) => show Calls Tryd.prog 18 #[.int .i64 2] W fun e w' => e = .returned (.int .u32 0) ∧ Below W.heap.size W w' from by
    have h := answer_any (hC.below hW) 2
    rw [show ansOf 2 = 0 by decide +kernel] at h
    exact h)
  have H13 := Lib.hid (fun W (hW : Below w.heap.size w W) => show Calls Tryd.prog 20 #[.int .u32 0] W fun e w' => e = .returned (.int .i64 0) ∧ Below W.heap.size W w' from by
    have h := failed_any (hC.below hW) 0 (by decide) (by decide)
    rw [show failOf 0 = 0 by decide +kernel] at h
    exact h)
  have H14 := Lib.hid (fun W (hW : Below w.heap.size w W) => show Calls Tryd.prog 20 #[.int .u32 4294967294] W fun e w' => e = .returned (.int .i64 0) ∧ Below W.heap.size W w' from by
    have h := failed_any (hC.below hW) 4294967294 (by decide) (by decide)
    rw [show failOf 4294967294 = 0 by decide +kernel] at h
    exact h)
  clear hG hC
  go_enter Tryd.func7, Tryd.ntmps7
  have hB0 := Below.refl w.heap.size w
  go_wp2_with fail
  refine (H0.out _ hB0).mono ?_
  rintro e W1 ⟨rfl, hb⟩
  have hB1 := bl_step hB0 hb
  clear hb
  go_wp2_with fail
  refine (H1.out _ hB1).mono ?_
  rintro e W2 ⟨rfl, hb⟩
  have hB2 := bl_step hB1 hb
  clear hb hB1
  go_wp2_with fail
  refine (H2.out _ hB2).mono ?_
  rintro e W3 ⟨rfl, hb⟩
  have hB3 := bl_new (bl_step hB2 hb) (.cells #[.int .i64 0, .int .u32 0, .int .u32 0, .int .u32 0] 27)
  clear hb hB2
  go_wp2_with fail
  refine (H3.out _ hB3).mono ?_
  rintro e W4 ⟨rfl, hb⟩
  have hB4 := bl_new (bl_step hB3 hb) (.cells #[.int .i64 0, .int .u32 0, .int .u32 0, .int .u32 0] 27)
  clear hb hB3
  go_wp2_with fail
  refine (H4.out _ hB4).mono ?_
  rintro e W5 ⟨rfl, hb⟩
  have hy := Blk.new (W5.alloc (.cells #[.int .i64 0, .int .u32 0, .int .u32 0, .int .u32 0] 27)) 27 #[.int .i64 22, .int .u32 32768, .int .u32 0, .int .u32 0]
  simp only [World.size_alloc] at hy
  have hB5 := bl_new (bl_new (bl_step hB4 hb) (.cells #[.int .i64 0, .int .u32 0, .int .u32 0, .int .u32 0] 27)) (.cells #[.int .i64 22, .int .u32 32768, .int .u32 0, .int .u32 0] 27)
  clear hb hB4
  go_wp2_with fail
  refine (H5.out _ _ _ hB5 hy).mono ?_
  rintro e W6 ⟨rfl, hb⟩
  have hB6 := bl_step hB5 hb
  clear hb hy hB5
  go_wp2_with fail
  refine (H6.out _ hB6).mono ?_
  rintro e W7 ⟨rfl, hb⟩
  have hB7 := bl_new (bl_step hB6 hb) (.cells #[.int .i64 0, .int .u32 0, .int .u32 0, .int .u32 0] 27)
  clear hb hB6
  go_wp2_with fail
  refine (H7.out _ hB7).mono ?_
  rintro e W8 ⟨rfl, hb⟩
  have hB8 := bl_step hB7 hb
  clear hb hB7
  go_wp2_with fail
  refine (H8.out _ hB8).mono ?_
  rintro e W9 ⟨rfl, hb⟩
  have hB9 := bl_step hB8 hb
  clear hb hB8
  go_wp2_with fail
  refine (H9.out _ hB9).mono ?_
  rintro e W10 ⟨rfl, hb⟩
  have hB10 := bl_step hB9 hb
  clear hb hB9
  go_wp2_with fail
  refine (H10.out _ hB10).mono ?_
  rintro e W11 ⟨rfl, hb⟩
  have hB11 := bl_step hB10 hb
  clear hb hB10
  go_wp2_with fail
  refine (H11.out _ hB11).mono ?_
  rintro e W12 ⟨rfl, hb⟩
  have hB12 := bl_step hB11 hb
  clear hb hB11
  go_wp2_with fail
  refine (H12.out _ hB12).mono ?_
  rintro e W13 ⟨rfl, hb⟩
  have hB13 := bl_step hB12 hb
  clear hb hB12
  go_wp2_with fail
  refine (H13.out _ hB13).mono ?_
  rintro e W14 ⟨rfl, hb⟩
  have hB14 := bl_step hB13 hb
  clear hb hB13
  go_wp2_with fail
  refine (H14.out _ hB14).mono ?_
  rintro e W15 ⟨rfl, hb⟩
  have hB15 := bl_step hB14 hb
  clear hb hB14
  have HB := Lib.hid hB15
  clear hB15
  go_wp2
  go_ret
  exact ⟨by first | rfl | simp, HB.out⟩
end Go.Proofs.YthmjddnccgiinaaDoor
