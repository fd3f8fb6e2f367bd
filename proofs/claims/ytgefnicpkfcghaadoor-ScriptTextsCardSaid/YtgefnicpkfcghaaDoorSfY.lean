/-
  May an operation be? The document's answer. No condition but the name's length.
-/
import Derived.Deep.QuietTactic
import Derived.BigQuiet
import Derived.Test.YtgefnicpkfcghaaDoorScPl
namespace Go.Proofs.YtgefnicpkfcghaaDoor
section
open Go.RowKit
set_option linter.unusedVariables false
set_option linter.unusedSimpArgs false
attribute [local go_sem] Oper.semAt_some

set_option maxRecDepth 100000 in
set_option maxHeartbeats 4000000 in
theorem refKind_any {w : World} (k : Int) : Calls Tryd.prog 16 #[.int .i64 k] w fun e w' => e = .returned (strV (kindW k)) ∧ Below w.heap.size w w' := by
  by_cases h : 1 ≤ k ∧ k ≤ 12
  · have hk : k = 1 ∨ k = 2 ∨ k = 3 ∨ k = 4 ∨ k = 5 ∨ k = 6 ∨ k = 7 ∨ k = 8 ∨ k = 9 ∨ k = 10 ∨ k = 11 ∨ k = 12 := by omega
    clear h
    have HB := Lib.hid (fun o => (Below.refl w.heap.size w).alloc (Nat.le_refl _) o)
    rcases hk with rfl | rfl | rfl | rfl | rfl | rfl | rfl | rfl | rfl | rfl | rfl | rfl
    all_goals
      go_enter Tryd.func16, Tryd.ntmps16
      go_wp2
      go_ret
      exact ⟨rfl, HB.out _⟩
  · have hn : kindW k = [] := by
      unfold kindW
      by_cases h0 : k = 0
      · subst h0; rfl
      · rw [if_neg (by omega)]
    rw [hn]
    have hc : k < 1 ∨ (¬ k < 1 ∧ (12 : Int) < k) := by omega
    clear h hn
    rcases hc with h1 | ⟨h1, h2⟩
    all_goals
      go_enter Tryd.func16, Tryd.ntmps16
      go_wp2
      go_ret
      exact ⟨rfl, Below.refl _ _⟩

theorem nameB_iff (l : List UInt8) : nameB l = true ↔ 1 ≤ l.length ∧ l.length ≤ 16 ∧ ∀ (j : Nat) (c : UInt8), l[j]? = some c → okB c.toNat = true := by
  unfold nameB
  simp only [Bool.and_eq_true, decide_eq_true_eq, List.all_eq_true]
  constructor
  · rintro ⟨⟨h1, h2⟩, h3⟩
    exact ⟨h1, h2, fun j c hc => h3 c (List.mem_of_getElem? hc)⟩
  · rintro ⟨h1, h2, h3⟩
    exact ⟨⟨h1, h2⟩, fun c hc => by
      obtain ⟨j, hj⟩ := List.mem_iff_getElem?.1 hc
      exact h3 j c hj⟩

set_option maxRecDepth 100000 in
set_option maxHeartbeats 4000000 in
theorem refNamed_any {w : World} (s : ByteArray) : Calls Tryd.prog 52 #[.string s] w fun e w' => e = .returned (.bool (nameB s.data.toList)) ∧ w' = w := by
  obtain ⟨R, hR⟩ : ∃ R, nameB s.data.toList = R := ⟨_, rfl⟩
  rw [hR]
  have hsl : s.data.toList.length = s.size := Array.length_toList
  have hiff := nameB_iff s.data.toList
  rw [hR, hsl] at hiff
  by_cases hsz : s.size < 1 ∨ 16 < s.size
  · have hr : R = false := by
      cases R
      · rfl
      · have := hiff.1 rfl
        omega
    subst hr
    have hc : (s.size : Int) < 1 ∨ (¬ (s.size : Int) < 1 ∧ (16 : Int) < (s.size : Int)) := by omega
    clear hiff hsz hR
    rcases hc with h1 | ⟨h1, h2⟩
    all_goals
      go_enter Tryd.func52, Tryd.ntmps52
      go_wp2
      go_ret
      exact ⟨rfl, rfl⟩
  have h1 : ¬ (s.size : Int) < 1 := by omega
  have h2 : ¬ (16 : Int) < (s.size : Int) := by omega
  have HAT := Lib.hid (fun (k : Nat) (hk : k < s.size) => show s.data.toList[k]? = some s[k] from by
    rw [List.getElem?_eq_getElem (by omega), Array.getElem_toList]; rfl)
  have HNO := Lib.hid (fun (k : Nat) (c : UInt8) (hk : s.data.toList[k]? = some c) (hb : okB c.toNat = false) => show R = false from by
    cases R
    · rfl
    · have := (hiff.1 rfl).2.2 k c hk
      rw [hb] at this
      cases this)
  have HYES := Lib.hid (fun (h : ∀ (j : Nat), j < s.size → ∀ c, s.data.toList[j]? = some c → okB c.toNat = true) => show R = true from hiff.2 ⟨by omega, by omega, fun j c hc => h j (by
    have := (List.getElem?_eq_some_iff.1 hc).1
    omega) c hc⟩)
  have HOK := Lib.hid (fun (c : Nat) => show okB c = true ↔ (97 ≤ c ∧ c ≤ 122) ∨ (48 ≤ c ∧ c ≤ 57) from by unfold okB; simp; try omega)
  clear hiff hsz hR hsl
  go_enter Tryd.func52, Tryd.ntmps52
  go_wp2
  go_loopw [3] (fun i wr => wr = w ∧ ∃ k : Nat, i = .int .i64 (k : Int) ∧ k ≤ s.size ∧ Hid (∀ (j : Nat), j < k → ∀ c, s.data.toList[j]? = some c → okB c.toNat = true)) (fun i _ => s.size - (intOf i).toNat)
  case atStart => exact ⟨rfl, 0, rfl, Nat.zero_le _, fun j hj => absurd hj (Nat.not_lt_zero j)⟩
  case round =>
    obtain ⟨rfl, k, rfl, hk, HP⟩ := hrel
    by_cases hks : k < s.size
    · have hka : (k : Int) < (s.size : Int) := by omega
      have hk0 : (0 : Int) ≤ (k : Int) := by omega
      have HC := Lib.hid (HAT.out k hks)
      have HN := Lib.hid (HNO.out k s[k] (HAT.out k hks))
      have HO := Lib.hid (HOK.out s[k].toNat)
      obtain ⟨c, hc⟩ : ∃ c : Nat, s[k].toNat = c := ⟨_, rfl⟩
      rw [hc] at HN HO
      have HCC := Lib.hid hc
      clear HAT HNO HYES HOK
      by_cases hok : okB c = true
      · have hr := HO.out.1 hok
        have hcc : ((97 : Int) ≤ (c : Int) ∧ ¬ (c : Int) < 97 ∧ ¬ (122 : Int) < (c : Int)) ∨ ((c : Int) < 97 ∧ ¬ (c : Int) < 48 ∧ ¬ (57 : Int) < (c : Int)) := by omega
        have HX := Lib.hid hok
        clear hr hok
        rcases hcc with ⟨h3, h4, h5⟩ | ⟨h3, h4, h5⟩
        all_goals
          go_wp2
          go_roundw
          case rel => exact ⟨by first | trivial | rfl, k + 1, by go_num, by omega, fun j hj d hd => by
              rcases Nat.lt_or_ge j k with h | h
              · exact HP.out j h d hd
              · have e : j = k := by omega
                subst e
                rw [HC.out] at hd
                injection hd with hd
                rw [← hd, HCC.out]
                exact HX.out⟩
          case measure => simp [intOf]; omega
      · have hr := fun h => hok (HO.out.2 h)
        have hn := HN.out (by simpa using hok)
        subst hn
        have hcc : ((c : Int) < 97 ∧ (c : Int) < 48) ∨ ((c : Int) < 97 ∧ ¬ (c : Int) < 48 ∧ (57 : Int) < (c : Int)) ∨ (¬ (c : Int) < 97 ∧ (122 : Int) < (c : Int) ∧ ¬ (c : Int) < 48 ∧ (57 : Int) < (c : Int)) := by
          have e1 : ¬ (97 ≤ c ∧ c ≤ 122) := fun h => hr (.inl h)
          have e2 : ¬ (48 ≤ c ∧ c ≤ 57) := fun h => hr (.inr h)
          omega
        clear hr hok
        rcases hcc with ⟨h3, h4⟩ | ⟨h3, h4, h5⟩ | ⟨h3, h4, h5, h6⟩
        all_goals
          go_wp2
          go_ret
          exact ⟨rfl, rfl⟩
    · have hkk : k = s.size := by omega
      subst hkk
      have hr := HYES.out HP.out
      subst hr
      clear HAT HNO HYES HOK
      go_wp2
      go_ret
      exact ⟨rfl, rfl⟩
end
end Go.Proofs.YtgefnicpkfcghaaDoor
namespace Go.Proofs.YtgefnicpkfcghaaDoor
section
open Go.RowKit
set_option linter.unusedVariables false
set_option linter.unusedSimpArgs false
attribute [local go_sem] Oper.semAt_some

set_option maxRecDepth 100000 in
set_option maxHeartbeats 1000000 in
theorem may_k1 (co n p s m : Int) (w : ByteArray) (hm : 0 ≤ m) : MayO ⟨1, co, n, p, s, m, w⟩ ↔ (0 ≤ co ∧ co < 8) ∧ 0 ≤ n ∧ p = 0 ∧ s = 0 ∧ m = 0 ∧ w = ⟨#[]⟩ := by
  have hP : partsL 1 = [99, 110] := by decide
  have hk : kindW 1 ≠ [] := by decide
  unfold MayO
  simp only [hP, projO, List.foldl_cons, List.foldl_nil, List.mem_cons, List.not_mem_nil, or_false, forall_eq_or_imp, forall_eq, stepO, zeroO, okO, putO, getO, fineP, O.mk.injEq, Bool.and_eq_true, decide_eq_true_eq, ne_eq, hk, not_false_eq_true, true_and, and_true, implies_true, Nat.reduceEqDiff, if_true, if_false, reduceIte]
  all_goals
    constructor
    all_goals
      intro h
      repeat' apply And.intro
      all_goals first | omega | exact h.1 | exact h.2.1 | exact h.1.1 | exact h.1.2 | exact h.2 | exact h.2.2 | exact h.2.2.1 | exact h.2.2.2.1 | exact h.2.2.2.2.1 | exact h.2.2.2.2.2 | exact h.2.2.2.2.2.1 | (simp_all; done)
set_option maxRecDepth 100000 in
set_option maxHeartbeats 1000000 in
theorem may_k2 (co n p s m : Int) (w : ByteArray) (hm : 0 ≤ m) : MayO ⟨2, co, n, p, s, m, w⟩ ↔ (0 ≤ co ∧ co < 8) ∧ (1 ≤ p ∧ p ≤ 65535) ∧ n = 0 ∧ s = 0 ∧ m = 0 ∧ w = ⟨#[]⟩ := by
  have hP : partsL 2 = [99, 112] := by decide
  have hk : kindW 2 ≠ [] := by decide
  unfold MayO
  simp only [hP, projO, List.foldl_cons, List.foldl_nil, List.mem_cons, List.not_mem_nil, or_false, forall_eq_or_imp, forall_eq, stepO, zeroO, okO, putO, getO, fineP, O.mk.injEq, Bool.and_eq_true, decide_eq_true_eq, ne_eq, hk, not_false_eq_true, true_and, and_true, implies_true, Nat.reduceEqDiff, if_true, if_false, reduceIte]
  all_goals
    constructor
    all_goals
      intro h
      repeat' apply And.intro
      all_goals first | omega | exact h.1 | exact h.2.1 | exact h.1.1 | exact h.1.2 | exact h.2 | exact h.2.2 | exact h.2.2.1 | exact h.2.2.2.1 | exact h.2.2.2.2.1 | exact h.2.2.2.2.2 | exact h.2.2.2.2.2.1 | (simp_all; done)
set_option maxRecDepth 100000 in
set_option maxHeartbeats 1000000 in
theorem may_k3 (co n p s m : Int) (w : ByteArray) (hm : 0 ≤ m) : MayO ⟨3, co, n, p, s, m, w⟩ ↔ co = 0 ∧ n = 0 ∧ p = 0 ∧ s = 0 ∧ m = 0 ∧ w = ⟨#[]⟩ := by
  have hP : partsL 3 = [] := by decide
  have hk : kindW 3 ≠ [] := by decide
  unfold MayO
  simp only [hP, projO, List.foldl_cons, List.foldl_nil, List.mem_cons, List.not_mem_nil, or_false, forall_eq_or_imp, forall_eq, stepO, zeroO, okO, putO, getO, fineP, O.mk.injEq, Bool.and_eq_true, decide_eq_true_eq, ne_eq, hk, not_false_eq_true, true_and, and_true, implies_true, Nat.reduceEqDiff, if_true, if_false, reduceIte]
  all_goals
    constructor
    all_goals
      intro h
      repeat' apply And.intro
      all_goals first | omega | exact h.1 | exact h.2.1 | exact h.1.1 | exact h.1.2 | exact h.2 | exact h.2.2 | exact h.2.2.1 | exact h.2.2.2.1 | exact h.2.2.2.2.1 | exact h.2.2.2.2.2 | exact h.2.2.2.2.2.1 | (simp_all; done)
set_option maxRecDepth 100000 in
set_option maxHeartbeats 1000000 in
theorem may_k4 (co n p s m : Int) (w : ByteArray) (hm : 0 ≤ m) : MayO ⟨4, co, n, p, s, m, w⟩ ↔ (0 ≤ co ∧ co < 8) ∧ n = 0 ∧ p = 0 ∧ s = 0 ∧ m = 0 ∧ w = ⟨#[]⟩ := by
  have hP : partsL 4 = [99] := by decide
  have hk : kindW 4 ≠ [] := by decide
  unfold MayO
  simp only [hP, projO, List.foldl_cons, List.foldl_nil, List.mem_cons, List.not_mem_nil, or_false, forall_eq_or_imp, forall_eq, stepO, zeroO, okO, putO, getO, fineP, O.mk.injEq, Bool.and_eq_true, decide_eq_true_eq, ne_eq, hk, not_false_eq_true, true_and, and_true, implies_true, Nat.reduceEqDiff, if_true, if_false, reduceIte]
  all_goals
    constructor
    all_goals
      intro h
      repeat' apply And.intro
      all_goals first | omega | exact h.1 | exact h.2.1 | exact h.1.1 | exact h.1.2 | exact h.2 | exact h.2.2 | exact h.2.2.1 | exact h.2.2.2.1 | exact h.2.2.2.2.1 | exact h.2.2.2.2.2 | exact h.2.2.2.2.2.1 | (simp_all; done)
set_option maxRecDepth 100000 in
set_option maxHeartbeats 1000000 in
theorem may_k5 (co n p s m : Int) (w : ByteArray) (hm : 0 ≤ m) : MayO ⟨5, co, n, p, s, m, w⟩ ↔ (1 ≤ p ∧ p ≤ 65535) ∧ 1 ≤ s ∧ s ≤ 15 ∧ co = 0 ∧ n = 0 ∧ m = 0 ∧ w = ⟨#[]⟩ := by
  have hP : partsL 5 = [112, 115] := by decide
  have hk : kindW 5 ≠ [] := by decide
  unfold MayO
  simp only [hP, projO, List.foldl_cons, List.foldl_nil, List.mem_cons, List.not_mem_nil, or_false, forall_eq_or_imp, forall_eq, stepO, zeroO, okO, putO, getO, fineP, O.mk.injEq, Bool.and_eq_true, decide_eq_true_eq, ne_eq, hk, not_false_eq_true, true_and, and_true, implies_true, Nat.reduceEqDiff, if_true, if_false, reduceIte]
  all_goals
    constructor
    all_goals
      intro h
      repeat' apply And.intro
      all_goals first | omega | exact h.1 | exact h.2.1 | exact h.1.1 | exact h.1.2 | exact h.2 | exact h.2.2 | exact h.2.2.1 | exact h.2.2.2.1 | exact h.2.2.2.2.1 | exact h.2.2.2.2.2 | exact h.2.2.2.2.2.1 | (simp_all; done)
set_option maxRecDepth 100000 in
set_option maxHeartbeats 1000000 in
theorem may_k6 (co n p s m : Int) (w : ByteArray) (hm : 0 ≤ m) : MayO ⟨6, co, n, p, s, m, w⟩ ↔ (1 ≤ p ∧ p ≤ 65535) ∧ nameB w.data.toList = true ∧ co = 0 ∧ n = 0 ∧ s = 0 ∧ m = 0 := by
  have hP : partsL 6 = [112, 119] := by decide
  have hk : kindW 6 ≠ [] := by decide
  unfold MayO
  simp only [hP, projO, List.foldl_cons, List.foldl_nil, List.mem_cons, List.not_mem_nil, or_false, forall_eq_or_imp, forall_eq, stepO, zeroO, okO, putO, getO, fineP, O.mk.injEq, Bool.and_eq_true, decide_eq_true_eq, ne_eq, hk, not_false_eq_true, true_and, and_true, implies_true, Nat.reduceEqDiff, if_true, if_false, reduceIte]
  all_goals
    constructor
    all_goals
      intro h
      repeat' apply And.intro
      all_goals first | omega | exact h.1 | exact h.2.1 | exact h.1.1 | exact h.1.2 | exact h.2 | exact h.2.2 | exact h.2.2.1 | exact h.2.2.2.1 | exact h.2.2.2.2.1 | exact h.2.2.2.2.2 | exact h.2.2.2.2.2.1 | (simp_all; done)
set_option maxRecDepth 100000 in
set_option maxHeartbeats 1000000 in
theorem may_k7 (co n p s m : Int) (w : ByteArray) (hm : 0 ≤ m) : MayO ⟨7, co, n, p, s, m, w⟩ ↔ (1 ≤ p ∧ p ≤ 65535) ∧ co = 0 ∧ n = 0 ∧ s = 0 ∧ m = 0 ∧ w = ⟨#[]⟩ := by
  have hP : partsL 7 = [112] := by decide
  have hk : kindW 7 ≠ [] := by decide
  unfold MayO
  simp only [hP, projO, List.foldl_cons, List.foldl_nil, List.mem_cons, List.not_mem_nil, or_false, forall_eq_or_imp, forall_eq, stepO, zeroO, okO, putO, getO, fineP, O.mk.injEq, Bool.and_eq_true, decide_eq_true_eq, ne_eq, hk, not_false_eq_true, true_and, and_true, implies_true, Nat.reduceEqDiff, if_true, if_false, reduceIte]
  all_goals
    constructor
    all_goals
      intro h
      repeat' apply And.intro
      all_goals first | omega | exact h.1 | exact h.2.1 | exact h.1.1 | exact h.1.2 | exact h.2 | exact h.2.2 | exact h.2.2.1 | exact h.2.2.2.1 | exact h.2.2.2.2.1 | exact h.2.2.2.2.2 | exact h.2.2.2.2.2.1 | (simp_all; done)
set_option maxRecDepth 100000 in
set_option maxHeartbeats 1000000 in
theorem may_k8 (co n p s m : Int) (w : ByteArray) (hm : 0 ≤ m) : MayO ⟨8, co, n, p, s, m, w⟩ ↔ nameB w.data.toList = true ∧ m < 256 ∧ co = 0 ∧ n = 0 ∧ p = 0 ∧ s = 0 := by
  have hP : partsL 8 = [119, 109] := by decide
  have hk : kindW 8 ≠ [] := by decide
  unfold MayO
  simp only [hP, projO, List.foldl_cons, List.foldl_nil, List.mem_cons, List.not_mem_nil, or_false, forall_eq_or_imp, forall_eq, stepO, zeroO, okO, putO, getO, fineP, O.mk.injEq, Bool.and_eq_true, decide_eq_true_eq, ne_eq, hk, not_false_eq_true, true_and, and_true, implies_true, Nat.reduceEqDiff, if_true, if_false, reduceIte]
  all_goals
    constructor
    all_goals
      intro h
      repeat' apply And.intro
      all_goals first | omega | exact h.1 | exact h.2.1 | exact h.1.1 | exact h.1.2 | exact h.2 | exact h.2.2 | exact h.2.2.1 | exact h.2.2.2.1 | exact h.2.2.2.2.1 | exact h.2.2.2.2.2 | exact h.2.2.2.2.2.1 | (simp_all; done)
set_option maxRecDepth 100000 in
set_option maxHeartbeats 1000000 in
theorem may_k9 (co n p s m : Int) (w : ByteArray) (hm : 0 ≤ m) : MayO ⟨9, co, n, p, s, m, w⟩ ↔ (1 ≤ p ∧ p ≤ 65535) ∧ m < 256 ∧ co = 0 ∧ n = 0 ∧ s = 0 ∧ w = ⟨#[]⟩ := by
  have hP : partsL 9 = [112, 109] := by decide
  have hk : kindW 9 ≠ [] := by decide
  unfold MayO
  simp only [hP, projO, List.foldl_cons, List.foldl_nil, List.mem_cons, List.not_mem_nil, or_false, forall_eq_or_imp, forall_eq, stepO, zeroO, okO, putO, getO, fineP, O.mk.injEq, Bool.and_eq_true, decide_eq_true_eq, ne_eq, hk, not_false_eq_true, true_and, and_true, implies_true, Nat.reduceEqDiff, if_true, if_false, reduceIte]
  all_goals
    constructor
    all_goals
      intro h
      repeat' apply And.intro
      all_goals first | omega | exact h.1 | exact h.2.1 | exact h.1.1 | exact h.1.2 | exact h.2 | exact h.2.2 | exact h.2.2.1 | exact h.2.2.2.1 | exact h.2.2.2.2.1 | exact h.2.2.2.2.2 | exact h.2.2.2.2.2.1 | (simp_all; done)
set_option maxRecDepth 100000 in
set_option maxHeartbeats 1000000 in
theorem may_k10 (co n p s m : Int) (w : ByteArray) (hm : 0 ≤ m) : MayO ⟨10, co, n, p, s, m, w⟩ ↔ co = 0 ∧ n = 0 ∧ p = 0 ∧ s = 0 ∧ m = 0 ∧ w = ⟨#[]⟩ := by
  have hP : partsL 10 = [] := by decide
  have hk : kindW 10 ≠ [] := by decide
  unfold MayO
  simp only [hP, projO, List.foldl_cons, List.foldl_nil, List.mem_cons, List.not_mem_nil, or_false, forall_eq_or_imp, forall_eq, stepO, zeroO, okO, putO, getO, fineP, O.mk.injEq, Bool.and_eq_true, decide_eq_true_eq, ne_eq, hk, not_false_eq_true, true_and, and_true, implies_true, Nat.reduceEqDiff, if_true, if_false, reduceIte]
  all_goals
    constructor
    all_goals
      intro h
      repeat' apply And.intro
      all_goals first | omega | exact h.1 | exact h.2.1 | exact h.1.1 | exact h.1.2 | exact h.2 | exact h.2.2 | exact h.2.2.1 | exact h.2.2.2.1 | exact h.2.2.2.2.1 | exact h.2.2.2.2.2 | exact h.2.2.2.2.2.1 | (simp_all; done)
set_option maxRecDepth 100000 in
set_option maxHeartbeats 1000000 in
theorem may_k11 (co n p s m : Int) (w : ByteArray) (hm : 0 ≤ m) : MayO ⟨11, co, n, p, s, m, w⟩ ↔ co = 0 ∧ n = 0 ∧ p = 0 ∧ s = 0 ∧ m = 0 ∧ w = ⟨#[]⟩ := by
  have hP : partsL 11 = [] := by decide
  have hk : kindW 11 ≠ [] := by decide
  unfold MayO
  simp only [hP, projO, List.foldl_cons, List.foldl_nil, List.mem_cons, List.not_mem_nil, or_false, forall_eq_or_imp, forall_eq, stepO, zeroO, okO, putO, getO, fineP, O.mk.injEq, Bool.and_eq_true, decide_eq_true_eq, ne_eq, hk, not_false_eq_true, true_and, and_true, implies_true, Nat.reduceEqDiff, if_true, if_false, reduceIte]
  all_goals
    constructor
    all_goals
      intro h
      repeat' apply And.intro
      all_goals first | omega | exact h.1 | exact h.2.1 | exact h.1.1 | exact h.1.2 | exact h.2 | exact h.2.2 | exact h.2.2.1 | exact h.2.2.2.1 | exact h.2.2.2.2.1 | exact h.2.2.2.2.2 | exact h.2.2.2.2.2.1 | (simp_all; done)
set_option maxRecDepth 100000 in
set_option maxHeartbeats 1000000 in
theorem may_k12 (co n p s m : Int) (w : ByteArray) (hm : 0 ≤ m) : MayO ⟨12, co, n, p, s, m, w⟩ ↔ co = 0 ∧ n = 0 ∧ p = 0 ∧ s = 0 ∧ m = 0 ∧ w = ⟨#[]⟩ := by
  have hP : partsL 12 = [] := by decide
  have hk : kindW 12 ≠ [] := by decide
  unfold MayO
  simp only [hP, projO, List.foldl_cons, List.foldl_nil, List.mem_cons, List.not_mem_nil, or_false, forall_eq_or_imp, forall_eq, stepO, zeroO, okO, putO, getO, fineP, O.mk.injEq, Bool.and_eq_true, decide_eq_true_eq, ne_eq, hk, not_false_eq_true, true_and, and_true, implies_true, Nat.reduceEqDiff, if_true, if_false, reduceIte]
  all_goals
    constructor
    all_goals
      intro h
      repeat' apply And.intro
      all_goals first | omega | exact h.1 | exact h.2.1 | exact h.1.1 | exact h.1.2 | exact h.2 | exact h.2.2 | exact h.2.2.1 | exact h.2.2.2.1 | exact h.2.2.2.2.1 | exact h.2.2.2.2.2 | exact h.2.2.2.2.2.1 | (simp_all; done)
end
end Go.Proofs.YtgefnicpkfcghaaDoor
