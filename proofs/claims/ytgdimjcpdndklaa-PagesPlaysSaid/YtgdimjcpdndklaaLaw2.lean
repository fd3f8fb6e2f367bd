/-
  Walks over package carryalllaw05: some and alive. Walks over the lists' comparisons.
-/
import Derived.Test.YtgdimjcpdndklaaLaw1
namespace Go.Proofs.Ytgdimjcpdndklaa
open Go.RowKit
set_option linter.unusedVariables false

section
variable {w : World} {base bt : Nat} {m : M}
theorem hole_new (h : TabNew w base bt m) (n : Int) (hlo : -9223372036854775808 ≤ n) (hhi : n ≤ 9223372036854775807) : Calls Try.prog 12 #[.pointer (some ⟨bt, 0, none⟩), .int .i64 n] w
    fun e w' => e = .returned (.tuple #[.int .i64 (hole m n).1, .bool (hole m n).2]) ∧ Below w.heap.size w w' := by
  obtain ⟨q, ht, ho⟩ := h
  exact hole_any ht n hlo hhi
theorem len_new (h : TabNew w base bt m) : Calls Try.prog 21 #[.pointer (some ⟨bt, 0, none⟩)] w fun e w' => e = .returned (.int .i64 (list m).length) ∧ Below w.heap.size w w' := by
  obtain ⟨q, ht, ho⟩ := h
  exact len_any ht
theorem parts_new (h : TabNew w base bt m) : Calls Try.prog 15 #[.pointer (some ⟨bt, 0, none⟩)] w fun e w' => e = .returned (.int .i64 (cntM m 8)) ∧ w = w' := by
  obtain ⟨q, ht, ho⟩ := h
  exact parts_any ht
theorem list_new (h : TabNew w base bt m) : Calls Try.prog 14 #[.pointer (some ⟨bt, 0, none⟩)] w fun e W' => ∃ v, e = .returned v ∧ W'.ownsRow w.heap.size 42 6 v (list m).length ((list m).flatMap mapCells) ∧ (v = .slice none 0 0 ↔ list m = []) ∧ Below w.heap.size w W' := by
  obtain ⟨q, ht, ho⟩ := h
  exact list_any ht
theorem dirty_new (h : TabNew w base bt m) : Calls Try.prog 22 #[.pointer (some ⟨bt, 0, none⟩)] w fun e W' => ∃ v, e = .returned v ∧ W'.ownsRow w.heap.size 3 1 v (filt E.d (list m)).length ((filt E.d (list m)).map (Value.int .i64)) ∧ (v = .slice none 0 0 ↔ filt E.d (list m) = []) ∧ Below w.heap.size w W' := by
  obtain ⟨q, ht, ho⟩ := h
  exact dirty_any ht
end

def mS : M := setM (setM (fun _ => none) 9 ⟨3, true, false, false, false⟩) 63 E.zero
theorem some_fn {w : World} : Calls Try.prog 29 #[] w
    fun e w' => e = .returned (.pointer (some ⟨w.heap.size, 0, none⟩)) ∧ TabNew w' w.heap.size w.heap.size mS ∧ Below w.heap.size w w' := by
  have hT0 := tabNew_empty w
  have H1 := Lib.hid (fun W (h : TabNew W w.heap.size w.heap.size (fun _ => none)) (hb : w.heap.size ≤ W.heap.size) => set_new h hb ⟨3, true, false, false, false⟩ 9)
  have H2 := Lib.hid (fun W (h : TabNew W w.heap.size w.heap.size (setM (fun _ => none) 9 ⟨3, true, false, false, false⟩)) (hb : w.heap.size ≤ W.heap.size) => set_new h hb E.zero 63)
  simp only [E.val, E.arr, E.zero] at H1 H2
  go_enter Try.func29, Try.ntmps29
  go_wp2_with fail
  refine (H1.out _ hT0 (by simp)).mono ?_
  rintro e w1 ⟨rfl, hT1, hb1⟩
  have hs1 := hb1.size
  rw [World.size_alloc] at hs1
  go_wp2_with fail
  refine (H2.out _ hT1 (by omega)).mono ?_
  rintro e w2 ⟨rfl, hT2, hb2⟩
  go_wp2_with fail
  go_ret
  exact ⟨rfl, hT2, (((Below.refl _ _).alloc (Nat.le_refl _) _).trans hb1).trans hb2⟩

set_option maxRecDepth 100000 in
theorem mS_facts : hole mS 9 = (0, true) ∧ hole mS 53 = (10, true) ∧ (hole mS 54).2 = false ∧ (list mS).length = 2 ∧ cntM mS 8 = 2 := by decide +kernel

theorem alive_fn {w : World} : Calls Try.prog 10 #[] w fun e w' => e = .returned (.bool true) ∧ Below w.heap.size w w' := by
  obtain ⟨f1, f2, f3, f4, f5⟩ := mS_facts
  have H9 := fun W (h : TabNew W w.heap.size w.heap.size mS) => hole_new h 9 (by omega) (by omega)
  have H53 := fun W (h : TabNew W w.heap.size w.heap.size mS) => hole_new h 53 (by omega) (by omega)
  have H54 := fun W (h : TabNew W w.heap.size w.heap.size mS) => hole_new h 54 (by omega) (by omega)
  have HL := fun W (h : TabNew W w.heap.size w.heap.size mS) => len_new h
  have HP := fun W (h : TabNew W w.heap.size w.heap.size mS) => parts_new h
  rw [f1] at H9
  rw [f2] at H53
  rw [f3] at H54
  rw [f4] at HL
  rw [f5] at HP
  generalize (hole mS 54).1 = z at H54
  clear f1 f2 f3 f4 f5
  have H9 := Lib.hid H9
  have H53 := Lib.hid H53
  have H54 := Lib.hid H54
  have HL := Lib.hid HL
  have HP := Lib.hid HP
  go_enter Try.func10, Try.ntmps10
  go_wp2_with fail
  refine some_fn.mono ?_
  rintro e w0 ⟨rfl, hT0, hb0⟩
  go_wp2_with fail
  refine (H9.out _ hT0).mono ?_
  rintro e w1 ⟨rfl, hb1⟩
  have hT1 := hT0.below hb1
  go_wp2_with fail
  refine (H53.out _ hT1).mono ?_
  rintro e w2 ⟨rfl, hb2⟩
  have hT2 := hT1.below hb2
  go_wp2_with fail
  refine (H54.out _ hT2).mono ?_
  rintro e w3 ⟨rfl, hb3⟩
  have hT3 := hT2.below hb3
  go_wp2_with fail
  refine (HL.out _ hT3).mono ?_
  rintro e w4 ⟨rfl, hb4⟩
  have hT4 := hT3.below hb4
  go_wp2_with fail
  refine (HP.out _ hT4).mono ?_
  rintro e w5 ⟨rfl, rfl⟩
  go_wp2_with fail
  go_ret
  have s0 := hb0.size; have s1 := hb1.size; have s2 := hb2.size; have s3 := hb3.size
  exact ⟨rfl, (((hb0.trans (hb1.mono (by omega))).trans (hb2.mono (by omega))).trans (hb3.mono (by omega))).trans (hb4.mono (by omega))⟩
end Go.Proofs.Ytgdimjcpdndklaa
