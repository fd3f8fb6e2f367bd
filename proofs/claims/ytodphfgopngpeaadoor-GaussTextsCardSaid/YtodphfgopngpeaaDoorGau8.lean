/-
  Numbers that were made, told again; the text of the chapter's number. No condition.
-/
import Derived.Test.YtodphfgopngpeaaDoorGau5
namespace Go.Proofs.YtodphfgopngpeaaDoor
open Go.RowKit Go.Shelf
set_option linter.unusedVariables false
set_option linter.unusedSimpArgs false

theorem made_whole (p : Int) : Whole (floatOfInt .f64 (wz p)) (wz p) := ⟨flo_int (by have := wz_range p; omega), (wz_range p).1, (wz_range p).2⟩
theorem made_isP (p q : Int) : isP (floatOfInt .f64 (wz p)) (floatOfInt .f64 (wz q)) = true := (isP_iff _ _).2 ⟨⟨_, made_whole p⟩, ⟨_, made_whole q⟩⟩
theorem made_re (p q : Int) : re (floatOfInt .f64 (wz p)) (floatOfInt .f64 (wz q)) = wz p := by unfold re; rw [made_isP, if_pos rfl, prt_eq (made_whole p)]
theorem made_im (p q : Int) : im (floatOfInt .f64 (wz p)) (floatOfInt .f64 (wz q)) = wz q := by unfold im; rw [made_isP, if_pos rfl, prt_eq (made_whole q)]
attribute [local irreducible] floatOfInt wz
/-- The operations at numbers that were made. -/
theorem addMk {w : World} (p q r s : Int) : Calls Tryd.prog 10 #[mk p q, mk r s] w fun e w' => e = .returned (mk (wz p + wz r) (wz q + wz s)) ∧ Below w.heap.size w w' := by
  have h := gAdd_any (w := w) (floatOfInt .f64 (wz p)) (floatOfInt .f64 (wz q)) (floatOfInt .f64 (wz r)) (floatOfInt .f64 (wz s))
  rw [made_re, made_im, made_re, made_im] at h
  exact h
theorem mulMk {w : World} (p q r s : Int) : Calls Tryd.prog 11 #[mk p q, mk r s] w fun e w' => e = .returned (mk (wz p * wz r - wz q * wz s) (wz p * wz s + wz q * wz r)) ∧ Below w.heap.size w w' := by
  have h := gMul_any (w := w) (floatOfInt .f64 (wz p)) (floatOfInt .f64 (wz q)) (floatOfInt .f64 (wz r)) (floatOfInt .f64 (wz s))
  rw [made_re, made_im, made_re, made_im] at h
  exact h
theorem conjMk {w : World} (p q : Int) : Calls Tryd.prog 12 #[mk p q] w fun e w' => e = .returned (mk (wz p) (-wz q)) ∧ Below w.heap.size w w' := by
  have h := gConj_any (w := w) (floatOfInt .f64 (wz p)) (floatOfInt .f64 (wz q))
  rw [made_re, made_im] at h
  exact h
theorem partsMk {w : World} (p q : Int) : Calls Tryd.prog 13 #[mk p q] w fun e w' => e = .returned (.tuple #[.int .i64 (wz p), .int .i64 (wz q)]) ∧ Below w.heap.size w w' := by
  have h := gParts_any (w := w) (floatOfInt .f64 (wz p)) (floatOfInt .f64 (wz q))
  rw [made_re, made_im] at h
  exact h
theorem normMk {w : World} (p q : Int) : Calls Tryd.prog 14 #[mk p q] w fun e w' => e = .returned (.int .u64 (wz p * wz p + wz q * wz q)) ∧ Below w.heap.size w w' := by
  have h := gNorm_any (w := w) (floatOfInt .f64 (wz p)) (floatOfInt .f64 (wz q))
  rw [made_re, made_im] at h
  exact h
theorem mayMk {w : World} (p q : Int) : Calls Tryd.prog 23 #[mk p q] w fun e w' => e = .returned (.bool true) ∧ Below w.heap.size w w' := by
  have h := may_any (w := w) (floatOfInt .f64 (wz p)) (floatOfInt .f64 (wz q))
  rw [made_isP] at h
  exact h
theorem mk_eql (p q : Int) (w : World) : (binOp .eql 23 (mk p q) (mk p q)).run Tryd.prog w = .ok (.bool true) w := by
  have h : ∀ n : Int, FloatKind.f64.format.order (floatOfInt .f64 (wz n)) (floatOfInt .f64 (wz n)) = some .eq := fun n => by
    have hf := flo_int (n := wz n) (by have := wz_range n; omega)
    rw [flo_order hf hf, compare_eq.2 rfl]
  unfold mk
  rw [run_eql_complex, h, h]
  rfl
theorem mk_guard (p q : Int) (x y : Operand) (w : World) : (eqGuard .eql 23 x y (mk p q) (mk p q)).run Tryd.prog w = .ok () w := by
  unfold mk
  simp [eqGuard, go_sem]
theorem mk_same {p q r s : Int} (h1 : wz p = wz r) (h2 : wz q = wz s) : mk p q = mk r s := by unfold mk; rw [h1, h2]

/-! ## the text of 11+10i -/
set_option maxRecDepth 100000 in
theorem small_any {w : World} (n : Int) (hn : n = 11 ∨ n = 10) : Calls Tryd.prog 62 #[.int .i64 n] w fun e w' => e = .returned (.string (if n = 11 then ⟨#[49, 49]⟩ else ⟨#[49, 48]⟩)) ∧ w = w' := by
  rcases hn with rfl | rfl
  · go_enter Tryd.func62, Tryd.ntmps62
    go_wp2
    go_ret
    exact ⟨rfl, rfl⟩
  · go_enter Tryd.func62, Tryd.ntmps62
    go_wp2
    go_ret
    exact ⟨rfl, rfl⟩
end Go.Proofs.YtodphfgopngpeaaDoor
