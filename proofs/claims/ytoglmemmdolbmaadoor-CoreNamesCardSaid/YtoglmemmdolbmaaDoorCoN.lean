/-
  The examples of chapter 07, walked (CoreNames). Condition: the tables lie as the program's text lays them.
-/
import Derived.Test.YtoglmemmdolbmaaDoorCoC
import Derived.Test.YtoglmemmdolbmaaDoorCoV
namespace Go.Proofs.YtoglmemmdolbmaaDoor
open Go.RowKit Go.Shelf
set_option linter.unusedVariables false
set_option linter.unusedSimpArgs false
attribute [local go_sem] Oper.semAt_some
attribute [local go_sem] run_store_complex
attribute [local irreducible] floatOfInt wz

def cpuPc (k : Int) : Cp := ⟨fun _ => 0, fun _ => (0, 0), k⟩
theorem cpuPc_ok {k : Int} (h : 0 ≤ k ∧ k ≤ 4294967295) : (cpuPc k).Ok := ⟨fun _ => ⟨Int.le_refl 0, by show (0 : Int) ≤ 4294967295; decide⟩, h.1, h.2⟩

def s3 : List UInt8 := [108, 119, 32, 49, 32, 50, 32, 49, 10]
def s4 : List UInt8 := [110, 111, 112, 10, 110, 111, 112, 10]
def s5 : List UInt8 := [110, 111, 112, 10]
def s6 : List UInt8 := [106, 97, 108, 32, 50, 32, 45, 49, 10]
theorem f_ff : fetchAt 0 [255, 255, 255, 255] = (I.x0, 3) := by decide +kernel
theorem f3 : fetchAt 0 (memOf s3) = (⟨15, 1, 2, 1⟩, 0) := by decide +kernel
theorem f4 : fetchAt 2 (memOf s4) = (I.x0, 2) := by decide +kernel
theorem f5 : fetchAt 4 (memOf s5) = (I.x0, 2) := by decide +kernel
theorem f6 : fetchAt 0 (memOf s6) = (⟨22, 2, 0, -1⟩, 0) := by decide +kernel
theorem n1 : stepP cpu0 [255, 255, 255, 255] = (cpu0, 3, [255, 255, 255, 255]) := step_fail rfl f_ff (by decide)
theorem exec_lw_odd (c : Cp) (m : List Int) {a b : Nat} {im : Int} (h : atP c b im % 4 ≠ 0) : execP c m 15 a b im = (c, 2, m) := by
  unfold execP
  rw [if_neg (by decide), if_pos rfl, if_neg h]
theorem n2 : stepP cpu0 (memOf s3) = (cpu0, 2, memOf s3) := (step_lit (c := cpu0) rfl f3).trans (exec_lw_odd cpu0 (memOf s3) (by decide))
theorem n3 : stepP (cpuPc 2) (memOf s4) = (cpuPc 2, 2, memOf s4) := step_fail rfl f4 (by decide)
theorem n5 : stepP (cpuPc 4) (memOf s5) = (cpuPc 4, 2, memOf s5) := step_fail rfl f5 (by decide)
theorem n7 : stepP cpu0 (memOf s6) = ((cpu0.setR 2 4).setPc 0, 0, memOf s6) := (step_lit (c := cpu0) rfl f6).trans ((exec_jump cpu0 (memOf s6) (by decide) (by decide)).trans rfl)

set_option maxRecDepth 100000 in
set_option maxHeartbeats 16000000 in
theorem namesLaw_any {w : World} (hG : I.Ground w) : Calls Tryd.prog 6 #[] w fun e w' => e = .returned (.bool true) ∧ Below w.heap.size w w' := by
  have Hs3 := Lib.hid (fun W (hW : Below w.heap.size w W) => show Calls Tryd.prog 10 #[.string ⟨#[108, 119, 32, 49, 32, 50, 32, 49, 10]⟩] W fun e w' => NewRam W.heap.size (memOf s3) e w' ∧ Below W.heap.size W w' from
    ramText (hG.below hW) _ (by decide) (by decide +kernel) (by decide +kernel) (by decide +kernel))
  have Hs4 := Lib.hid (fun W (hW : Below w.heap.size w W) => show Calls Tryd.prog 10 #[.string ⟨#[110, 111, 112, 10, 110, 111, 112, 10]⟩] W fun e w' => NewRam W.heap.size (memOf s4) e w' ∧ Below W.heap.size W w' from
    ramText (hG.below hW) _ (by decide) (by decide +kernel) (by decide +kernel) (by decide +kernel))
  have Hs5 := Lib.hid (fun W (hW : Below w.heap.size w W) => show Calls Tryd.prog 10 #[.string ⟨#[110, 111, 112, 10]⟩] W fun e w' => NewRam W.heap.size (memOf s5) e w' ∧ Below W.heap.size W w' from
    ramText (hG.below hW) _ (by decide) (by decide +kernel) (by decide +kernel) (by decide +kernel))
  have Hs6 := Lib.hid (fun W (hW : Below w.heap.size w W) => show Calls Tryd.prog 10 #[.string ⟨#[106, 97, 108, 32, 50, 32, 45, 49, 10]⟩] W fun e w' => NewRam W.heap.size (memOf s6) e w' ∧ Below W.heap.size W w' from
    ramText (hG.below hW) _ (by decide) (by decide +kernel) (by decide +kernel) (by decide +kernel))
  have HS := Lib.hid (fun W (hW : Below w.heap.size w W) g A B cap m (hM : RamAt W g A B cap m) (hB : B < W.heap.size) (hw : w.heap.size ≤ B) (c : Cp) (hc : c.Ok) =>
    step_any (hG.laid.below hW) hM hc hB)
  have HR := Lib.hid (fun W (hW : Below w.heap.size w W) g A B cap m (hM : RamAt W g A B cap m) (hB : B < W.heap.size) (hw : w.heap.size ≤ B) (c : Cp) (hc : c.Ok) most (hm : most ≤ 9223372036854775807) =>
    run_any (hG.laid.below hW) hM hB (by have := hG.laid.klt; omega) c hc most hm)
  have HA := Lib.hid (fun W (hW : Below w.heap.size w W) => alive_any (hG.below hW))
  have HN := Lib.hid (fun W => step_nil (w := W) cpu0)
  have HWN := Lib.hid (fun W => word_nil (w := W) 0)
  have HSN := Lib.hid (fun W => setByte_nil (w := W) 0 1)
  clear hG
  go_enter Tryd.func6, Tryd.ntmps6
  go_wp2_with (fail)
  have hr1 := Blk.new w 5 #[.int .u8 255, .int .u8 255, .int .u8 255, .int .u8 255]
  have hb2 := bl_new (bl_new (Below.refl w.heap.size w) (.cells #[.int .u8 255, .int .u8 255, .int .u8 255, .int .u8 255] 5)) (.cells #[.slice (some ⟨w.heap.size, 0, none⟩) 4 4] 46)
  have hg2 := Blk.new (w.alloc (.cells #[.int .u8 255, .int .u8 255, .int .u8 255, .int .u8 255] 5)) 46 #[.slice (some ⟨w.heap.size, 0, none⟩) 4 4]
  have hr2 := hr1.alloc (.cells #[.slice (some ⟨w.heap.size, 0, none⟩) 4 4] 46)
  simp only [World.size_alloc] at hg2
  have hm2 : RamAt _ (w.heap.size + 1) (some ⟨w.heap.size, 0, none⟩) w.heap.size 4 [255, 255, 255, 255] := ⟨hg2, fun _ => ⟨rfl, _, hr2, by decide, fun i x hx => by
    have hi : i < 4 := (List.getElem?_eq_some_iff.1 hx).1
    rcases (show i = 0 ∨ i = 1 ∨ i = 2 ∨ i = 3 by omega) with rfl | rfl | rfl | rfl <;> (cases hx; rfl)⟩, by decide, by omega, fun x hx => by
    simp only [List.mem_cons, List.not_mem_nil, or_false, or_self] at hx
    omega, by decide⟩
  have hz2 : w.heap.size < ((w.alloc (.cells #[.int .u8 255, .int .u8 255, .int .u8 255, .int .u8 255] 5)).alloc (.cells #[.slice (some ⟨w.heap.size, 0, none⟩) 4 4] 46)).heap.size := by simp; omega
  generalize (w.alloc (.cells #[.int .u8 255, .int .u8 255, .int .u8 255, .int .u8 255] 5)).alloc (.cells #[.slice (some ⟨w.heap.size, 0, none⟩) 4 4] 46) = V1 at *
  have hrun := HS.out V1 hb2 _ _ _ _ _ hm2 hz2 (Nat.le_refl _) cpu0 cpu0_ok
  rw [n1] at hrun
  have HRUN := Lib.hid (show Calls Tryd.prog 15 #[.agg #[.int .u32 0, .int .u32 0, .int .u32 0, .int .u32 0, .int .u32 0, .int .u32 0, .int .u32 0, .int .u32 0, .complex .f64 0 0, .complex .f64 0 0, .int .u32 0], .iface 31 (.pointer (some ⟨w.heap.size + 1, 0, none⟩))] V1 fun e w' => e = .returned (.tuple #[.agg #[.int .u32 0, .int .u32 0, .int .u32 0, .int .u32 0, .int .u32 0, .int .u32 0, .int .u32 0, .int .u32 0, .complex .f64 0 0, .complex .f64 0 0, .int .u32 0], .int .i64 3]) ∧ RamAt w' (w.heap.size + 1) (some ⟨w.heap.size, 0, none⟩) w.heap.size 4 [255, 255, 255, 255] ∧ But (fun k => k = w.heap.size) V1 w' from hrun)
  have HB0 := Lib.hid hb2
  clear hrun hr1 hr2 hg2 hm2 hz2 hb2
  refine HRUN.out.mono ?_
  rintro e U1 ⟨rfl, hm, hb⟩
  have HB1 := Lib.hid (bl_new (HB0.out.trans (hb.below (B := w.heap.size) (fun k hk => by omega) HB0.out.size)) (.cells #[.int .u32 0, .int .u32 0, .int .u32 0, .int .u32 0, .int .u32 0, .int .u32 0, .int .u32 0, .int .u32 0, .complex .f64 0 0, .complex .f64 0 0, .int .u32 0] 28))
  clear hm hb HRUN HB0
  go_wp2_with (fail)
  generalize U1.alloc (.cells #[.int .u32 0, .int .u32 0, .int .u32 0, .int .u32 0, .int .u32 0, .int .u32 0, .int .u32 0, .int .u32 0, .complex .f64 0 0, .complex .f64 0 0, .int .u32 0] 28) = V2 at *
  refine (Hs3.out _ HB1.out).mono ?_
  rintro e W2 ⟨⟨g, A, B, cap, rfl, hM, hg, hB, hBl⟩, hb⟩
  have HBa := Lib.hid (bl_step HB1.out hb)
  have hsz := HB1.out.size
  have hrun := HS.out W2 HBa.out g A B cap _ hM hBl (by omega) cpu0 cpu0_ok
  rw [n2] at hrun
  have HRUN := Lib.hid (show Calls Tryd.prog 15 #[.agg #[.int .u32 0, .int .u32 0, .int .u32 0, .int .u32 0, .int .u32 0, .int .u32 0, .int .u32 0, .int .u32 0, .complex .f64 0 0, .complex .f64 0 0, .int .u32 0], .iface 31 (.pointer (some ⟨g, 0, none⟩))] W2 fun e w' => e = .returned (.tuple #[.agg #[.int .u32 0, .int .u32 0, .int .u32 0, .int .u32 0, .int .u32 0, .int .u32 0, .int .u32 0, .int .u32 0, .complex .f64 0 0, .complex .f64 0 0, .int .u32 0], .int .i64 2]) ∧ RamAt w' g A B cap (memOf s3) ∧ But (fun k => k = B) W2 w' from hrun)
  have HGB := Lib.hid (show w.heap.size ≤ B from by omega)
  clear hrun hb hM hg hB hBl hsz
  go_wp2_with (fail)
  refine HRUN.out.mono ?_
  rintro e U2 ⟨rfl, hm, hb⟩
  have HBb := Lib.hid (HBa.out.trans (hb.below (B := w.heap.size) (fun k hk => by have := HGB.out; omega) HBa.out.size))
  have HB2 := Lib.hid (bl_new HBb.out (.cells #[.int .u32 0, .int .u32 0, .int .u32 0, .int .u32 0, .int .u32 0, .int .u32 0, .int .u32 0, .int .u32 0, .complex .f64 0 0, .complex .f64 0 0, .int .u32 0] 28))
  clear hm hb HRUN HBa HBb
  go_wp2_with (fail)
  generalize U2.alloc (.cells #[.int .u32 0, .int .u32 0, .int .u32 0, .int .u32 0, .int .u32 0, .int .u32 0, .int .u32 0, .int .u32 0, .complex .f64 0 0, .complex .f64 0 0, .int .u32 0] 28) = V3 at *
  refine (Hs4.out _ HB2.out).mono ?_
  rintro e W3 ⟨⟨g, A, B, cap, rfl, hM, hg, hB, hBl⟩, hb⟩
  have HBa := Lib.hid (bl_step HB2.out hb)
  have hsz := HB2.out.size
  have hrun := HS.out W3 HBa.out g A B cap _ hM hBl (by omega) (cpuPc 2) (cpuPc_ok (by decide))
  rw [n3] at hrun
  have HRUN := Lib.hid (show Calls Tryd.prog 15 #[.agg #[.int .u32 0, .int .u32 0, .int .u32 0, .int .u32 0, .int .u32 0, .int .u32 0, .int .u32 0, .int .u32 0, .complex .f64 0 0, .complex .f64 0 0, .int .u32 2], .iface 31 (.pointer (some ⟨g, 0, none⟩))] W3 fun e w' => e = .returned (.tuple #[.agg #[.int .u32 0, .int .u32 0, .int .u32 0, .int .u32 0, .int .u32 0, .int .u32 0, .int .u32 0, .int .u32 0, .complex .f64 0 0, .complex .f64 0 0, .int .u32 2], .int .i64 2]) ∧ RamAt w' g A B cap (memOf s4) ∧ But (fun k => k = B) W3 w' from hrun)
  have HGB := Lib.hid (show w.heap.size ≤ B from by omega)
  clear hrun hb hM hg hB hBl hsz
  go_wp2_with (fail)
  refine HRUN.out.mono ?_
  rintro e U3 ⟨rfl, hm, hb⟩
  have HBb := Lib.hid (HBa.out.trans (hb.below (B := w.heap.size) (fun k hk => by have := HGB.out; omega) HBa.out.size))
  have HB3 := Lib.hid (bl_new HBb.out (.cells #[.int .u32 0, .int .u32 0, .int .u32 0, .int .u32 0, .int .u32 0, .int .u32 0, .int .u32 0, .int .u32 0, .complex .f64 0 0, .complex .f64 0 0, .int .u32 2] 28))
  clear hm hb HRUN HBa HBb
  go_wp2_with (fail)
  generalize U3.alloc (.cells #[.int .u32 0, .int .u32 0, .int .u32 0, .int .u32 0, .int .u32 0, .int .u32 0, .int .u32 0, .int .u32 0, .complex .f64 0 0, .complex .f64 0 0, .int .u32 2] 28) = V4 at *
  have hnil := show Calls Tryd.prog 15 #[.agg #[.int .u32 0, .int .u32 0, .int .u32 0, .int .u32 0, .int .u32 0, .int .u32 0, .int .u32 0, .int .u32 0, .complex .f64 0 0, .complex .f64 0 0, .int .u32 0], .nilIface] V4 fun e w' => e = .returned (.tuple #[.agg #[.int .u32 0, .int .u32 0, .int .u32 0, .int .u32 0, .int .u32 0, .int .u32 0, .int .u32 0, .int .u32 0, .complex .f64 0 0, .complex .f64 0 0, .int .u32 0], .int .i64 2]) ∧ Below V4.heap.size V4 w' from HN.out V4
  refine hnil.mono ?_
  clear hnil
  rintro e U4 ⟨rfl, hb⟩
  have HB4 := Lib.hid (bl_new (bl_step HB3.out hb) (.cells #[.int .u32 0, .int .u32 0, .int .u32 0, .int .u32 0, .int .u32 0, .int .u32 0, .int .u32 0, .int .u32 0, .complex .f64 0 0, .complex .f64 0 0, .int .u32 0] 28))
  clear hb
  go_wp2_with (fail)
  generalize U4.alloc (.cells #[.int .u32 0, .int .u32 0, .int .u32 0, .int .u32 0, .int .u32 0, .int .u32 0, .int .u32 0, .int .u32 0, .complex .f64 0 0, .complex .f64 0 0, .int .u32 0] 28) = V5 at *
  refine (Hs5.out _ HB4.out).mono ?_
  rintro e W5 ⟨⟨g, A, B, cap, rfl, hM, hg, hB, hBl⟩, hb⟩
  have HBa := Lib.hid (bl_step HB4.out hb)
  have hsz := HB4.out.size
  have hrun := HS.out W5 HBa.out g A B cap _ hM hBl (by omega) (cpuPc 4) (cpuPc_ok (by decide))
  rw [n5] at hrun
  have HRUN := Lib.hid (show Calls Tryd.prog 15 #[.agg #[.int .u32 0, .int .u32 0, .int .u32 0, .int .u32 0, .int .u32 0, .int .u32 0, .int .u32 0, .int .u32 0, .complex .f64 0 0, .complex .f64 0 0, .int .u32 4], .iface 31 (.pointer (some ⟨g, 0, none⟩))] W5 fun e w' => e = .returned (.tuple #[.agg #[.int .u32 0, .int .u32 0, .int .u32 0, .int .u32 0, .int .u32 0, .int .u32 0, .int .u32 0, .int .u32 0, .complex .f64 0 0, .complex .f64 0 0, .int .u32 4], .int .i64 2]) ∧ RamAt w' g A B cap (memOf s5) ∧ But (fun k => k = B) W5 w' from hrun)
  have HGB := Lib.hid (show w.heap.size ≤ B from by omega)
  clear hrun hb hM hg hB hBl hsz
  go_wp2_with (fail)
  refine HRUN.out.mono ?_
  rintro e U5 ⟨rfl, hm, hb⟩
  have HBb := Lib.hid (HBa.out.trans (hb.below (B := w.heap.size) (fun k hk => by have := HGB.out; omega) HBa.out.size))
  have HB5 := Lib.hid (bl_new HBb.out (.cells #[.int .u32 0, .int .u32 0, .int .u32 0, .int .u32 0, .int .u32 0, .int .u32 0, .int .u32 0, .int .u32 0, .complex .f64 0 0, .complex .f64 0 0, .int .u32 4] 28))
  clear hm hb HRUN HBa HBb
  go_wp2_with (fail)
  generalize U5.alloc (.cells #[.int .u32 0, .int .u32 0, .int .u32 0, .int .u32 0, .int .u32 0, .int .u32 0, .int .u32 0, .int .u32 0, .complex .f64 0 0, .complex .f64 0 0, .int .u32 4] 28) = V6 at *
  refine (Hs5.out _ HB5.out).mono ?_
  rintro e W6 ⟨⟨g, A, B, cap, rfl, hM, hg, hB, hBl⟩, hb⟩
  have HBa := Lib.hid (bl_step HB5.out hb)
  have hsz := HB5.out.size
  have hrun := HR.out W6 HBa.out g A B cap _ hM hBl (by omega) cpu0 cpu0_ok 0 (by decide)
  have HRUN := Lib.hid (show Calls Tryd.prog 9 #[.agg #[.int .u32 0, .int .u32 0, .int .u32 0, .int .u32 0, .int .u32 0, .int .u32 0, .int .u32 0, .int .u32 0, .complex .f64 0 0, .complex .f64 0 0, .int .u32 0], .iface 31 (.pointer (some ⟨g, 0, none⟩)), .int .i64 0] W6 fun e w' => e = .returned (.tuple #[.agg #[.int .u32 0, .int .u32 0, .int .u32 0, .int .u32 0, .int .u32 0, .int .u32 0, .int .u32 0, .int .u32 0, .complex .f64 0 0, .complex .f64 0 0, .int .u32 0], .int .i64 0, .int .i64 0]) ∧ RamAt w' g A B cap (memOf s5) ∧ But (fun k => k = B) W6 w' from hrun)
  have HGB := Lib.hid (show w.heap.size ≤ B from by omega)
  clear hrun hb hM hg hB hBl hsz
  go_wp2_with (fail)
  refine HRUN.out.mono ?_
  rintro e U6 ⟨rfl, hm, hb⟩
  have HBb := Lib.hid (HBa.out.trans (hb.below (B := w.heap.size) (fun k hk => by have := HGB.out; omega) HBa.out.size))
  have HXc := Lib.hid (Blk.new U6 28 #[.int .u32 0, .int .u32 0, .int .u32 0, .int .u32 0, .int .u32 0, .int .u32 0, .int .u32 0, .int .u32 0, .complex .f64 0 0, .complex .f64 0 0, .int .u32 0])
  have HXclt : U6.heap.size < (U6.alloc (.cells #[.int .u32 0, .int .u32 0, .int .u32 0, .int .u32 0, .int .u32 0, .int .u32 0, .int .u32 0, .int .u32 0, .complex .f64 0 0, .complex .f64 0 0, .int .u32 0] 28)).heap.size := by simp
  have HB6 := Lib.hid (bl_new HBb.out (.cells #[.int .u32 0, .int .u32 0, .int .u32 0, .int .u32 0, .int .u32 0, .int .u32 0, .int .u32 0, .int .u32 0, .complex .f64 0 0, .complex .f64 0 0, .int .u32 0] 28))
  clear hm hb HRUN HBa HBb
  go_wp2_with (fail)
  generalize U6.alloc (.cells #[.int .u32 0, .int .u32 0, .int .u32 0, .int .u32 0, .int .u32 0, .int .u32 0, .int .u32 0, .int .u32 0, .complex .f64 0 0, .complex .f64 0 0, .int .u32 0] 28) = V7 at *
  refine (Hs6.out _ HB6.out).mono ?_
  rintro e W7 ⟨⟨g, A, B, cap, rfl, hM, hg, hB, hBl⟩, hb⟩
  have HBa := Lib.hid (bl_step HB6.out hb)
  have hsz := HB6.out.size
  have HXc := Lib.hid (HXc.out.below hb HXc.out.lt)
  have hne_HXc : _ ≠ B := Nat.ne_of_lt (Nat.lt_of_lt_of_le (HXclt) hB)
  have hrun := HS.out W7 HBa.out g A B cap _ hM hBl (by omega) cpu0 cpu0_ok
  rw [n7] at hrun
  have HRUN := Lib.hid (show Calls Tryd.prog 15 #[.agg #[.int .u32 0, .int .u32 0, .int .u32 0, .int .u32 0, .int .u32 0, .int .u32 0, .int .u32 0, .int .u32 0, .complex .f64 0 0, .complex .f64 0 0, .int .u32 0], .iface 31 (.pointer (some ⟨g, 0, none⟩))] W7 fun e w' => e = .returned (.tuple #[.agg #[.int .u32 0, .int .u32 0, .int .u32 4, .int .u32 0, .int .u32 0, .int .u32 0, .int .u32 0, .int .u32 0, .complex .f64 0 0, .complex .f64 0 0, .int .u32 0], .int .i64 0]) ∧ RamAt w' g A B cap (memOf s6) ∧ But (fun k => k = B) W7 w' from hrun)
  have HGB := Lib.hid (show w.heap.size ≤ B from by omega)
  clear hrun hb hM hg hB hBl hsz
  go_wp2_with (fail)
  refine HRUN.out.mono ?_
  rintro e U7 ⟨rfl, hm, hb⟩
  have HBb := Lib.hid (HBa.out.trans (hb.below (B := w.heap.size) (fun k hk => by have := HGB.out; omega) HBa.out.size))
  have HXc := Lib.hid ((HXc.out.but hb (fun h => hne_HXc h)).alloc (.cells #[.int .u32 0, .int .u32 0, .int .u32 4, .int .u32 0, .int .u32 0, .int .u32 0, .int .u32 0, .int .u32 0, .complex .f64 0 0, .complex .f64 0 0, .int .u32 0] 28))
  have HXd := Lib.hid (Blk.new U7 28 #[.int .u32 0, .int .u32 0, .int .u32 4, .int .u32 0, .int .u32 0, .int .u32 0, .int .u32 0, .int .u32 0, .complex .f64 0 0, .complex .f64 0 0, .int .u32 0])
  have HXdlt : U7.heap.size < (U7.alloc (.cells #[.int .u32 0, .int .u32 0, .int .u32 4, .int .u32 0, .int .u32 0, .int .u32 0, .int .u32 0, .int .u32 0, .complex .f64 0 0, .complex .f64 0 0, .int .u32 0] 28)).heap.size := by simp
  have HB7 := Lib.hid (bl_new HBb.out (.cells #[.int .u32 0, .int .u32 0, .int .u32 4, .int .u32 0, .int .u32 0, .int .u32 0, .int .u32 0, .int .u32 0, .complex .f64 0 0, .complex .f64 0 0, .int .u32 0] 28))
  clear hm hb HRUN HBa HBb
  go_wp2_with (fail)
  generalize U7.alloc (.cells #[.int .u32 0, .int .u32 0, .int .u32 4, .int .u32 0, .int .u32 0, .int .u32 0, .int .u32 0, .int .u32 0, .complex .f64 0 0, .complex .f64 0 0, .int .u32 0] 28) = V8 at *
  refine (HWN.out _).mono ?_
  rintro e _ ⟨rfl, rfl⟩
  go_wp2_with (fail)
  refine (HA.out _ HB7.out).mono ?_
  rintro e W8 ⟨rfl, hb8⟩
  obtain ⟨x0, x1, x2, x3, x4, x5, x6, x7, x8, x9, x10, xlt⟩ := row11 (HXc.out.below hb8 HXc.out.lt)
  obtain ⟨y0, y1, y2, y3, y4, y5, y6, y7, y8, y9, y10, ylt⟩ := row11 (HXd.out.below hb8 HXd.out.lt)
  have HB8 := Lib.hid (bl_step HB7.out hb8)
  clear hb8
  go_wp2_with (fail)
  refine (HSN.out _).mono ?_
  rintro e _ ⟨rfl, rfl⟩
  go_wp2
  go_ret
  exact ⟨rfl, HB8.out⟩
end Go.Proofs.YtoglmemmdolbmaaDoor
