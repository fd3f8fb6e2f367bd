/-
  Package script: an operation is given a number. No condition.
-/
import Derived.Test.YtgefnicpkfcghaaDoorSc2
namespace Go.Proofs.YtgefnicpkfcghaaDoor
open Go.RowKit
set_option linter.unusedVariables false
set_option linter.unusedSimpArgs false

set_option maxHeartbeats 4000000 in
theorem put_any {w : World} (bx : Nat) (x : O) (hX : Blk w bx 24 x.cells.toArray) (b : Nat) (v : Int) (hv : -9223372036854775808 ≤ v ∧ v ≤ 9223372036854775807) :
    Calls Tryd.prog 34 #[.pointer (some ⟨bx, 0, none⟩), .int .u8 (b : Int), .int .i64 v] w fun e w' => e = .returned (.bool (fineP b v)) ∧ Blk w' bx 24 (putO x b v).cells.toArray ∧ ∃ (i : Nat) (u : Value), w' = w.setCell ⟨bx, i, none⟩ u := by
  obtain ⟨k, co, n, p, s, m, nm⟩ := x
  have hx0 := hX.cell 0
  have hx1 := hX.cell 1
  have hx2 := hX.cell 2
  have hx3 := hX.cell 3
  have hx4 := hX.cell 4
  have hx5 := hX.cell 5
  have hf1 := hX.frozen 1
  have hf2 := hX.frozen 2
  have hf3 := hX.frozen 3
  have hf4 := hX.frozen 4
  have hf5 := hX.frozen 5
  simp only [O.cells, List.getElem?_toArray, List.getElem?_cons_zero, List.getElem?_cons_succ] at hx0 hx1 hx2 hx3 hx4 hx5
  have HX := Lib.hid hX
  clear hX
  rcases isPart_cases b with rfl | rfl | rfl | rfl | ⟨h1, h2, h3, h4⟩
  case inr.inr.inr.inr =>
    have e1 : ∀ x : O, putO x b v = { x with m := v % 4294967296 } := fun x => by unfold putO; rw [if_neg h1, if_neg h2, if_neg h3, if_neg h4]
    have e2 : fineP b v = (decide (0 ≤ v) && decide (v ≤ 255)) := by unfold fineP; rw [if_neg h1, if_neg h2, if_neg h3, if_neg h4]
    rw [e1, e2]
    have i1 : ¬ (b : Int) = 99 := by omega
    have i2 : ¬ (b : Int) = 110 := by omega
    have i3 : ¬ (b : Int) = 112 := by omega
    have i4 : ¬ (b : Int) = 115 := by omega
    clear e1 e2 h1 h2 h3 h4
    go_enter Tryd.func34, Tryd.ntmps34
    go_wp2
    all_goals
      go_ret
      refine ⟨?_, ?_, _, _, rfl⟩
      · first | (simp_all; done) | (simp_all; omega)
      · have h := HX.out.set_ 5 (.int .u32 (v % 4294967296))
        simpa [O.cells] using h
  all_goals
    go_enter Tryd.func34, Tryd.ntmps34
    go_wp2
  all_goals
    go_ret
    refine ⟨?_, ?_, _, _, rfl⟩
    · first | (simp_all [fineP]; done) | (simp_all [fineP]; omega)
    · first
      | (have h := HX.out.set_ 1 (.int .i64 v); simpa [O.cells, putO] using h)
      | (have h := HX.out.set_ 2 (.int .i64 v); simpa [O.cells, putO] using h)
      | (have h := HX.out.set_ 3 (.int .i64 v); simpa [O.cells, putO] using h)
      | (have h := HX.out.set_ 4 (.int .i64 v); simpa [O.cells, putO] using h)
      | (have h := HX.out.set_ 5 (.int .u32 (v % 4294967296)); simpa [O.cells, putO] using h)
end Go.Proofs.YtgefnicpkfcghaaDoor
