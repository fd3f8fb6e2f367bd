/-
  May an operation be? The document's answer. No condition but the name's length.
-/
import Derived.BigQuiet
import Derived.Test.YtgefnicpkfcghaaDoorSfM
namespace Go.Proofs.YtgefnicpkfcghaaDoor
open Go.RowKit
set_option linter.unusedVariables false
set_option linter.unusedSimpArgs false
attribute [local go_sem] Oper.semAt_some

set_option maxRecDepth 100000 in
set_option maxHeartbeats 1000000 in
theorem may_k1 (co n p s m : Int) (w : ByteArray) (hm : 0 ≤ m) : MayO ⟨1, co, n, p, s, m, w⟩ ↔ (0 ≤ co ∧ co < 8) ∧ 0 ≤ n ∧ p = 0 ∧ s = 0 ∧ m = 0 ∧ w = ⟨#[]⟩ := by
  have hP : partsL 1 = [99, 110] := by decide
  have hk : kindW 1 ≠ [] := by decide
  unfold MayO
  simp only [hP, projO, List.foldl_cons, List.foldl_nil, List.mem_cons, List.not_mem_nil, or_false, forall_eq_or_imp, forall_eq, stepO, zeroO, okO, putO, getO, fineP, O.mk.injEq, Bool.and_eq_true, decide_eq_true_eq, ne_eq, hk, not_false_eq_true, true_and, and_true, implies_true, Nat.reduceEqDiff, if_true, if_false, reduceIte]
  all_goals
    constructor
    all_goals
      intro h
      repeat' apply And.intro
      all_goals first | omega | exact h.1 | exact h.2.1 | exact h.1.1 | exact h.1.2 | exact h.2 | exact h.2.2 | exact h.2.2.1 | exact h.2.2.2.1 | exact h.2.2.2.2.1 | exact h.2.2.2.2.2 | exact h.2.2.2.2.2.1 | (simp_all; done)
set_option maxRecDepth 100000 in
set_option maxHeartbeats 1000000 in
theorem may_k2 (co n p s m : Int) (w : ByteArray) (hm : 0 ≤ m) : MayO ⟨2, co, n, p, s, m, w⟩ ↔ (0 ≤ co ∧ co < 8) ∧ (1 ≤ p ∧ p ≤ 65535) ∧ n = 0 ∧ s = 0 ∧ m = 0 ∧ w = ⟨#[]⟩ := by
  have hP : partsL 2 = [99, 112] := by decide
  have hk : kindW 2 ≠ [] := by decide
  unfold MayO
  simp only [hP, projO, List.foldl_cons, List.foldl_nil, List.mem_cons, List.not_mem_nil, or_false, forall_eq_or_imp, forall_eq, stepO, zeroO, okO, putO, getO, fineP, O.mk.injEq, Bool.and_eq_true, decide_eq_true_eq, ne_eq, hk, not_false_eq_true, true_and, and_true, implies_true, Nat.reduceEqDiff, if_true, if_false, reduceIte]
  all_goals
    constructor
    all_goals
      intro h
      repeat' apply And.intro
      all_goals first | omega | exact h.1 | exact h.2.1 | exact h.1.1 | exact h.1.2 | exact h.2 | exact h.2.2 | exact h.2.2.1 | exact h.2.2.2.1 | exact h.2.2.2.2.1 | exact h.2.2.2.2.2 | exact h.2.2.2.2.2.1 | (simp_all; done)
set_option maxRecDepth 100000 in
set_option maxHeartbeats 1000000 in
theorem may_k3 (co n p s m : Int) (w : ByteArray) (hm : 0 ≤ m) : MayO ⟨3, co, n, p, s, m, w⟩ ↔ co = 0 ∧ n = 0 ∧ p = 0 ∧ s = 0 ∧ m = 0 ∧ w = ⟨#[]⟩ := by
  have hP : partsL 3 = [] := by decide
  have hk : kindW 3 ≠ [] := by decide
  unfold MayO
  simp only [hP, projO, List.foldl_cons, List.foldl_nil, List.mem_cons, List.not_mem_nil, or_false, forall_eq_or_imp, forall_eq, stepO, zeroO, okO, putO, getO, fineP, O.mk.injEq, Bool.and_eq_true, decide_eq_true_eq, ne_eq, hk, not_false_eq_true, true_and, and_true, implies_true, Nat.reduceEqDiff, if_true, if_false, reduceIte]
  all_goals
    constructor
    all_goals
      intro h
      repeat' apply And.intro
      all_goals first | omega | exact h.1 | exact h.2.1 | exact h.1.1 | exact h.1.2 | exact h.2 | exact h.2.2 | exact h.2.2.1 | exact h.2.2.2.1 | exact h.2.2.2.2.1 | exact h.2.2.2.2.2 | exact h.2.2.2.2.2.1 | (simp_all; done)
set_option maxRecDepth 100000 in
set_option maxHeartbeats 1000000 in
theorem may_k4 (co n p s m : Int) (w : ByteArray) (hm : 0 ≤ m) : MayO ⟨4, co, n, p, s, m, w⟩ ↔ (0 ≤ co ∧ co < 8) ∧ n = 0 ∧ p = 0 ∧ s = 0 ∧ m = 0 ∧ w = ⟨#[]⟩ := by
  have hP : partsL 4 = [99] := by decide
  have hk : kindW 4 ≠ [] := by decide
  unfold MayO
  simp only [hP, projO, List.foldl_cons, List.foldl_nil, List.mem_cons, List.not_mem_nil, or_false, forall_eq_or_imp, forall_eq, stepO, zeroO, okO, putO, getO, fineP, O.mk.injEq, Bool.and_eq_true, decide_eq_true_eq, ne_eq, hk, not_false_eq_true, true_and, and_true, implies_true, Nat.reduceEqDiff, if_true, if_false, reduceIte]
  all_goals
    constructor
    all_goals
      intro h
      repeat' apply And.intro
      all_goals first | omega | exact h.1 | exact h.2.1 | exact h.1.1 | exact h.1.2 | exact h.2 | exact h.2.2 | exact h.2.2.1 | exact h.2.2.2.1 | exact h.2.2.2.2.1 | exact h.2.2.2.2.2 | exact h.2.2.2.2.2.1 | (simp_all; done)
set_option maxRecDepth 100000 in
set_option maxHeartbeats 1000000 in
theorem may_k5 (co n p s m : Int) (w : ByteArray) (hm : 0 ≤ m) : MayO ⟨5, co, n, p, s, m, w⟩ ↔ (1 ≤ p ∧ p ≤ 65535) ∧ 1 ≤ s ∧ s ≤ 15 ∧ co = 0 ∧ n = 0 ∧ m = 0 ∧ w = ⟨#[]⟩ := by
  have hP : partsL 5 = [112, 115] := by decide
  have hk : kindW 5 ≠ [] := by decide
  unfold MayO
  simp only [hP, projO, List.foldl_cons, List.foldl_nil, List.mem_cons, List.not_mem_nil, or_false, forall_eq_or_imp, forall_eq, stepO, zeroO, okO, putO, getO, fineP, O.mk.injEq, Bool.and_eq_true, decide_eq_true_eq, ne_eq, hk, not_false_eq_true, true_and, and_true, implies_true, Nat.reduceEqDiff, if_true, if_false, reduceIte]
  all_goals
    constructor
    all_goals
      intro h
      repeat' apply And.intro
      all_goals first | omega | exact h.1 | exact h.2.1 | exact h.1.1 | exact h.1.2 | exact h.2 | exact h.2.2 | exact h.2.2.1 | exact h.2.2.2.1 | exact h.2.2.2.2.1 | exact h.2.2.2.2.2 | exact h.2.2.2.2.2.1 | (simp_all; done)
set_option maxRecDepth 100000 in
set_option maxHeartbeats 1000000 in
theorem may_k6 (co n p s m : Int) (w : ByteArray) (hm : 0 ≤ m) : MayO ⟨6, co, n, p, s, m, w⟩ ↔ (1 ≤ p ∧ p ≤ 65535) ∧ nameB w.data.toList = true ∧ co = 0 ∧ n = 0 ∧ s = 0 ∧ m = 0 := by
  have hP : partsL 6 = [112, 119] := by decide
  have hk : kindW 6 ≠ [] := by decide
  unfold MayO
  simp only [hP, projO, List.foldl_cons, List.foldl_nil, List.mem_cons, List.not_mem_nil, or_false, forall_eq_or_imp, forall_eq, stepO, zeroO, okO, putO, getO, fineP, O.mk.injEq, Bool.and_eq_true, decide_eq_true_eq, ne_eq, hk, not_false_eq_true, true_and, and_true, implies_true, Nat.reduceEqDiff, if_true, if_false, reduceIte]
  all_goals
    constructor
    all_goals
      intro h
      repeat' apply And.intro
      all_goals first | omega | exact h.1 | exact h.2.1 | exact h.1.1 | exact h.1.2 | exact h.2 | exact h.2.2 | exact h.2.2.1 | exact h.2.2.2.1 | exact h.2.2.2.2.1 | exact h.2.2.2.2.2 | exact h.2.2.2.2.2.1 | (simp_all; done)
set_option maxRecDepth 100000 in
set_option maxHeartbeats 1000000 in
theorem may_k7 (co n p s m : Int) (w : ByteArray) (hm : 0 ≤ m) : MayO ⟨7, co, n, p, s, m, w⟩ ↔ (1 ≤ p ∧ p ≤ 65535) ∧ co = 0 ∧ n = 0 ∧ s = 0 ∧ m = 0 ∧ w = ⟨#[]⟩ := by
  have hP : partsL 7 = [112] := by decide
  have hk : kindW 7 ≠ [] := by decide
  unfold MayO
  simp only [hP, projO, List.foldl_cons, List.foldl_nil, List.mem_cons, List.not_mem_nil, or_false, forall_eq_or_imp, forall_eq, stepO, zeroO, okO, putO, getO, fineP, O.mk.injEq, Bool.and_eq_true, decide_eq_true_eq, ne_eq, hk, not_false_eq_true, true_and, and_true, implies_true, Nat.reduceEqDiff, if_true, if_false, reduceIte]
  all_goals
    constructor
    all_goals
      intro h
      repeat' apply And.intro
      all_goals first | omega | exact h.1 | exact h.2.1 | exact h.1.1 | exact h.1.2 | exact h.2 | exact h.2.2 | exact h.2.2.1 | exact h.2.2.2.1 | exact h.2.2.2.2.1 | exact h.2.2.2.2.2 | exact h.2.2.2.2.2.1 | (simp_all; done)
set_option maxRecDepth 100000 in
set_option maxHeartbeats 1000000 in
theorem may_k8 (co n p s m : Int) (w : ByteArray) (hm : 0 ≤ m) : MayO ⟨8, co, n, p, s, m, w⟩ ↔ nameB w.data.toList = true ∧ m < 256 ∧ co = 0 ∧ n = 0 ∧ p = 0 ∧ s = 0 := by
  have hP : partsL 8 = [119, 109] := by decide
  have hk : kindW 8 ≠ [] := by decide
  unfold MayO
  simp only [hP, projO, List.foldl_cons, List.foldl_nil, List.mem_cons, List.not_mem_nil, or_false, forall_eq_or_imp, forall_eq, stepO, zeroO, okO, putO, getO, fineP, O.mk.injEq, Bool.and_eq_true, decide_eq_true_eq, ne_eq, hk, not_false_eq_true, true_and, and_true, implies_true, Nat.reduceEqDiff, if_true, if_false, reduceIte]
  all_goals
    constructor
    all_goals
      intro h
      repeat' apply And.intro
      all_goals first | omega | exact h.1 | exact h.2.1 | exact h.1.1 | exact h.1.2 | exact h.2 | exact h.2.2 | exact h.2.2.1 | exact h.2.2.2.1 | exact h.2.2.2.2.1 | exact h.2.2.2.2.2 | exact h.2.2.2.2.2.1 | (simp_all; done)
set_option maxRecDepth 100000 in
set_option maxHeartbeats 1000000 in
theorem may_k9 (co n p s m : Int) (w : ByteArray) (hm : 0 ≤ m) : MayO ⟨9, co, n, p, s, m, w⟩ ↔ (1 ≤ p ∧ p ≤ 65535) ∧ m < 256 ∧ co = 0 ∧ n = 0 ∧ s = 0 ∧ w = ⟨#[]⟩ := by
  have hP : partsL 9 = [112, 109] := by decide
  have hk : kindW 9 ≠ [] := by decide
  unfold MayO
  simp only [hP, projO, List.foldl_cons, List.foldl_nil, List.mem_cons, List.not_mem_nil, or_false, forall_eq_or_imp, forall_eq, stepO, zeroO, okO, putO, getO, fineP, O.mk.injEq, Bool.and_eq_true, decide_eq_true_eq, ne_eq, hk, not_false_eq_true, true_and, and_true, implies_true, Nat.reduceEqDiff, if_true, if_false, reduceIte]
  all_goals
    constructor
    all_goals
      intro h
      repeat' apply And.intro
      all_goals first | omega | exact h.1 | exact h.2.1 | exact h.1.1 | exact h.1.2 | exact h.2 | exact h.2.2 | exact h.2.2.1 | exact h.2.2.2.1 | exact h.2.2.2.2.1 | exact h.2.2.2.2.2 | exact h.2.2.2.2.2.1 | (simp_all; done)
set_option maxRecDepth 100000 in
set_option maxHeartbeats 1000000 in
theorem may_k10 (co n p s m : Int) (w : ByteArray) (hm : 0 ≤ m) : MayO ⟨10, co, n, p, s, m, w⟩ ↔ co = 0 ∧ n = 0 ∧ p = 0 ∧ s = 0 ∧ m = 0 ∧ w = ⟨#[]⟩ := by
  have hP : partsL 10 = [] := by decide
  have hk : kindW 10 ≠ [] := by decide
  unfold MayO
  simp only [hP, projO, List.foldl_cons, List.foldl_nil, List.mem_cons, List.not_mem_nil, or_false, forall_eq_or_imp, forall_eq, stepO, zeroO, okO, putO, getO, fineP, O.mk.injEq, Bool.and_eq_true, decide_eq_true_eq, ne_eq, hk, not_false_eq_true, true_and, and_true, implies_true, Nat.reduceEqDiff, if_true, if_false, reduceIte]
  all_goals
    constructor
    all_goals
      intro h
      repeat' apply And.intro
      all_goals first | omega | exact h.1 | exact h.2.1 | exact h.1.1 | exact h.1.2 | exact h.2 | exact h.2.2 | exact h.2.2.1 | exact h.2.2.2.1 | exact h.2.2.2.2.1 | exact h.2.2.2.2.2 | exact h.2.2.2.2.2.1 | (simp_all; done)
set_option maxRecDepth 100000 in
set_option maxHeartbeats 1000000 in
theorem may_k11 (co n p s m : Int) (w : ByteArray) (hm : 0 ≤ m) : MayO ⟨11, co, n, p, s, m, w⟩ ↔ co = 0 ∧ n = 0 ∧ p = 0 ∧ s = 0 ∧ m = 0 ∧ w = ⟨#[]⟩ := by
  have hP : partsL 11 = [] := by decide
  have hk : kindW 11 ≠ [] := by decide
  unfold MayO
  simp only [hP, projO, List.foldl_cons, List.foldl_nil, List.mem_cons, List.not_mem_nil, or_false, forall_eq_or_imp, forall_eq, stepO, zeroO, okO, putO, getO, fineP, O.mk.injEq, Bool.and_eq_true, decide_eq_true_eq, ne_eq, hk, not_false_eq_true, true_and, and_true, implies_true, Nat.reduceEqDiff, if_true, if_false, reduceIte]
  all_goals
    constructor
    all_goals
      intro h
      repeat' apply And.intro
      all_goals first | omega | exact h.1 | exact h.2.1 | exact h.1.1 | exact h.1.2 | exact h.2 | exact h.2.2 | exact h.2.2.1 | exact h.2.2.2.1 | exact h.2.2.2.2.1 | exact h.2.2.2.2.2 | exact h.2.2.2.2.2.1 | (simp_all; done)
set_option maxRecDepth 100000 in
set_option maxHeartbeats 1000000 in
theorem may_k12 (co n p s m : Int) (w : ByteArray) (hm : 0 ≤ m) : MayO ⟨12, co, n, p, s, m, w⟩ ↔ co = 0 ∧ n = 0 ∧ p = 0 ∧ s = 0 ∧ m = 0 ∧ w = ⟨#[]⟩ := by
  have hP : partsL 12 = [] := by decide
  have hk : kindW 12 ≠ [] := by decide
  unfold MayO
  simp only [hP, projO, List.foldl_cons, List.foldl_nil, List.mem_cons, List.not_mem_nil, or_false, forall_eq_or_imp, forall_eq, stepO, zeroO, okO, putO, getO, fineP, O.mk.injEq, Bool.and_eq_true, decide_eq_true_eq, ne_eq, hk, not_false_eq_true, true_and, and_true, implies_true, Nat.reduceEqDiff, if_true, if_false, reduceIte]
  all_goals
    constructor
    all_goals
      intro h
      repeat' apply And.intro
      all_goals first | omega | exact h.1 | exact h.2.1 | exact h.1.1 | exact h.1.2 | exact h.2 | exact h.2.2 | exact h.2.2.1 | exact h.2.2.2.1 | exact h.2.2.2.2.1 | exact h.2.2.2.2.2 | exact h.2.2.2.2.2.1 | (simp_all; done)
end Go.Proofs.YtgefnicpkfcghaaDoor
