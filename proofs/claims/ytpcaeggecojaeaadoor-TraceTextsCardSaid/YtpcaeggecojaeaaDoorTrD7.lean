/-
  trace.Check: may it be observed? No condition.
-/
import Derived.Test.YtpcaeggecojaeaaDoorTrD6
import Derived.Test.YtpcaeggecojaeaaDoorStr2
import Derived.Test.YtpcaeggecojaeaaDoorStr4
namespace Go.Proofs.YtpcaeggecojaeaaDoor
open Go.RowKit
set_option linter.unusedVariables false
set_option linter.unusedSimpArgs false

/-- What may be observed. -/
def May (x : S) : Prop := 1 ≤ x.p ∧ x.p ≤ 65535 ∧ 1 ≤ x.k ∧ x.k ≤ 4 ∧ (x.k = 1 → 0 ≤ x.c ∧ x.c ≤ 22) ∧ (x.k ≠ 1 → x.c = 0) ∧ (x.k = 3 → 1 ≤ x.v ∧ x.v ≤ 15)
instance (x : S) : Decidable (May x) := by unfold May; infer_instance
def mayN (x : S) : Int := if May x then 0 else 210
theorem mayN_yes {x : S} (h : May x) : mayN x = 0 := if_pos h
theorem mayN_no {x : S} (h : ¬ May x) : mayN x = 210 := if_neg h

set_option maxHeartbeats 4000000 in
theorem check_any {w : World} (p k c v : Int) (hv : 0 ≤ v) :
    Calls Tryd.prog 15 #[.agg #[.int .i64 p, .int .i64 k, .int .i64 c, .int .u32 v]] w fun e w' => e = .returned (.int .i64 (mayN ⟨p, k, c, v⟩)) ∧ Below w.heap.size w w' := by
  obtain ⟨r, hr⟩ : ∃ r, r = mayN ⟨p, k, c, v⟩ := ⟨_, rfl⟩
  rw [← hr]
  have HR : Hid ((May ⟨p, k, c, v⟩ → r = 0) ∧ (¬ May ⟨p, k, c, v⟩ → r = 210)) := ⟨fun h => hr.trans (mayN_yes h), fun h => hr.trans (mayN_no h)⟩
  clear hr
  have hcase : ¬ 1 ≤ p ∨ (1 ≤ p ∧ ¬ p ≤ 65535) ∨ (1 ≤ p ∧ p ≤ 65535 ∧ ¬ 1 ≤ k) ∨ (1 ≤ p ∧ p ≤ 65535 ∧ 1 ≤ k ∧ ¬ k ≤ 4) ∨ (1 ≤ p ∧ p ≤ 65535 ∧ 1 ≤ k ∧ k ≤ 4) := by omega
  rcases hcase with h1 | ⟨h1, h2⟩ | ⟨h1, h2, h3⟩ | ⟨h1, h2, h3, h4⟩ | ⟨h1, h2, h3, h4⟩
  all_goals
    go_enter Tryd.func15, Tryd.ntmps15
    go_wp2
  all_goals
    go_ret
    refine ⟨?_, (Below.refl _ _).alloc (Nat.le_refl _) _⟩
    try simp only [beq_iff_eq, beq_eq_false_iff_ne, bne_iff_ne, ne_eq, bne_eq_false_iff_eq, Bool.not_eq_true', Bool.not_eq_false', decide_eq_true_eq, decide_eq_false_iff_not] at *
    first
    | (rw [HR.out.1 (by unfold May; simp only; omega)]; rfl)
    | (rw [HR.out.2 (by unfold May; simp only; omega)]; rfl)
end Go.Proofs.YtpcaeggecojaeaaDoor
