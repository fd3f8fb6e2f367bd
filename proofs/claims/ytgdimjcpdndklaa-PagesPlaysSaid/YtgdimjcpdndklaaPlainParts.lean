/-
  PagesParts, the plain law: how many eights of pages have one; clearing all of a list's pages. No condition.
-/
import Derived.Test.YtgdimjcpdndklaaPages11
namespace Go.Proofs.Ytgdimjcpdndklaa
set_option linter.unusedVariables false

/-- What is counted, and the last eight that was, up to a page. -/
def pl (m : M) : Nat → Nat × Int
  | 0 => (0, -1)
  | n + 1 => if (m n).isSome = true ∧ ((n / 8 : Nat) : Int) ≠ (pl m n).2 then ((pl m n).1 + 1, ((n / 8 : Nat) : Int)) else pl m n
theorem pl_le (m : M) : ∀ n, (pl m n).1 ≤ n ∧ -1 ≤ (pl m n).2 ∧ (pl m n).2 ≤ (n : Int)
  | 0 => by simp [pl]
  | n + 1 => by
    have := pl_le m n
    unfold pl
    split
    · simp only; omega
    · omega
theorem pl_eight (m : M) (i : Nat) (h0 : (pl m (8 * i)).2 < (i : Int)) : ∀ j, j ≤ 8 →
    pl m (8 * i + j) = if (∀ k, k < j → m (8 * i + k) = none) then pl m (8 * i) else ((pl m (8 * i)).1 + 1, (i : Int))
  | 0, _ => by simp
  | j + 1, hj => by
    rw [show 8 * i + (j + 1) = 8 * i + j + 1 from by omega]
    have ih := pl_eight m i h0 j (by omega)
    have hd : (8 * i + j) / 8 = i := by omega
    rw [pl, ih, hd]
    by_cases hall : ∀ k, k < j → m (8 * i + k) = none
    · rw [if_pos hall]
      cases hm : m (8 * i + j) with
      | none =>
        rw [if_neg (by simp), if_pos]
        intro k hk
        rcases Nat.lt_or_ge k j with h | h
        · exact hall k h
        · rw [show k = j from by omega]; exact hm
      | some x =>
        rw [if_pos ⟨rfl, by omega⟩, if_neg]
        intro h
        have := h j (by omega)
        rw [hm] at this; cases this
    · rw [if_neg hall]
      simp only [ne_eq, not_true_eq_false, and_false, if_false]
      rw [if_neg (fun h => hall (fun k hk => h k (by omega)))]
theorem emp_iff (m : M) (i : Nat) : emp m i = true ↔ ∀ k, k < 8 → m (8 * i + k) = none := by
  constructor
  · intro h k hk
    unfold emp at h
    simp only [Bool.and_eq_true, Option.isNone_iff_eq_none] at h
    rcases eight hk with rfl | rfl | rfl | rfl | rfl | rfl | rfl | rfl <;> simp [h]
  · intro h
    have h0 := h 0 (by omega); have h1 := h 1 (by omega); have h2 := h 2 (by omega); have h3 := h 3 (by omega)
    have h4 := h 4 (by omega); have h5 := h 5 (by omega); have h6 := h 6 (by omega); have h7 := h 7 (by omega)
    simp only [Nat.add_zero] at h0
    simp [emp, h0, h1, h2, h3, h4, h5, h6, h7]
theorem pl_cnt (m : M) : ∀ i, (pl m (8 * i)).1 = cntM m i ∧ (pl m (8 * i)).2 < (i : Int)
  | 0 => by simp [pl, cntM]
  | i + 1 => by
    obtain ⟨h1, h2⟩ := pl_cnt m i
    rw [show 8 * (i + 1) = 8 * i + 8 from by omega, pl_eight m i h2 8 (by omega), cntM]
    by_cases he : emp m i = true
    · rw [if_pos ((emp_iff m i).1 he), if_pos he]
      exact ⟨by omega, by omega⟩
    · rw [if_neg (fun h => he ((emp_iff m i).2 h)), if_neg he]
      exact ⟨by simp only; omega, by simp only; omega⟩
theorem pl_all (m : M) : (pl m 64).1 = cntM m 8 := (pl_cnt m 8).1

theorem listN_congr {m m' : M} : ∀ k p, (∀ n, p ≤ n → n < p + k → m n = m' n) → listN m p k = listN m' p k
  | 0, _, _ => rfl
  | k + 1, p, h => by rw [listN, listN, h p (by omega) (by omega), listN_congr k (p + 1) (fun n a b => h n (by omega) (by omega))]
theorem listN_head (m : M) : ∀ k p x t, listN m p k = x :: t → p ≤ x.1 ∧ x.1 < p + k ∧ m x.1 = some x.2 ∧ listN (upd m x.1 none) p k = t
  | 0, p, x, t, h => by simp [listN] at h
  | k + 1, p, x, t, h => by
    rw [listN] at h
    cases hm : m p with
    | none =>
      rw [hm] at h
      simp only [List.nil_append] at h
      obtain ⟨a, b, c, d⟩ := listN_head m k (p + 1) x t h
      refine ⟨by omega, by omega, c, ?_⟩
      rw [listN, d]
      have : upd m x.1 none p = none := by unfold upd; split <;> simp_all
      rw [this]
      rfl
    | some y =>
      rw [hm] at h
      simp only [List.cons_append, List.nil_append, List.cons.injEq] at h
      obtain ⟨rfl, ht⟩ := h
      refine ⟨by simp, by simp, hm, ?_⟩
      rw [listN]
      have : upd m p none p = none := by unfold upd; simp
      simp only [this, List.nil_append]
      rw [← ht]
      refine listN_congr k (p + 1) fun n a b => ?_
      unfold upd
      rw [if_neg (by omega)]
/-- A table behind the clearing of the first pages of its list. -/
theorem list_head {m : M} {x : Nat × E} {t : List (Nat × E)} (h : list m = x :: t) : x.1 < 64 ∧ m x.1 = some x.2 ∧ list (upd m x.1 none) = t := by
  obtain ⟨_, b, c, d⟩ := listN_head m 64 0 x t h
  exact ⟨by omega, c, d⟩
theorem listN_nil (m : M) : ∀ k p, listN m p k = [] → ∀ n, p ≤ n → n < p + k → m n = none
  | 0, p, h, n, a, b => by omega
  | k + 1, p, h, n, a, b => by
    rw [listN] at h
    cases hm : m p with
    | none =>
      rw [hm] at h
      rcases Nat.eq_or_lt_of_le a with rfl | hlt
      · exact hm
      · exact listN_nil m k (p + 1) (by simpa using h) n (by omega) (by omega)
    | some y => rw [hm] at h; simp at h
theorem list_nil {m : M} (h : list m = []) : ∀ n, n < 64 → m n = none := fun n hn => listN_nil m 64 0 h n (by omega) (by omega)
theorem cnt_none {m : M} (h : ∀ n, n < 64 → m n = none) : ∀ k, k ≤ 8 → cntM m k = 0
  | 0, _ => rfl
  | k + 1, hk => by
    rw [cntM, cnt_none h k (by omega), if_pos ((emp_iff m k).2 (fun j hj => h _ (by omega)))]
theorem holeGo_none {m : M} (h : ∀ n, n < 64 → m n = none) : ∀ f page, page + f = 64 → 1 ≤ f → holeGo m 64 f page 0 = (0, true)
  | 0, page, hp, h1 => by omega
  | f + 1, page, hp, h1 => by
    rw [holeGo]
    simp only [h page (by omega), Option.isSome_none, Bool.false_eq_true, if_false]
    by_cases hf : f = 0
    · subst hf
      rw [if_pos]
      · rfl
      · simp; omega
    · rw [if_neg, holeGo_none h f (page + 1) (by omega) (by omega)]
      simp; omega
theorem hole_all {m : M} (h : ∀ n, n < 64 → m n = none) : hole m 64 = (0, true) := by
  unfold hole
  rw [if_neg (by omega)]
  exact holeGo_none h 64 0 rfl (by omega)
end Go.Proofs.Ytgdimjcpdndklaa
