/-
  The plain law of Hole: the least page from which on so many have no entry.
-/
import Derived.Test.YtgdimjcpdndklaaPages10
namespace Go.Proofs.Ytgdimjcpdndklaa
set_option linter.unusedVariables false

/-- From p on n pages have none. -/
def Win (m : M) (n p : Nat) : Prop := p + n ≤ 64 ∧ ∀ k, p ≤ k → k < p + n → m k = none

theorem holeGo_law (m : M) (n : Nat) (hn : 1 ≤ n) : ∀ f page fr, page + f = 64 → fr ≤ page → (∀ k, fr ≤ k → k < page → m k = none) → (fr = 0 ∨ (1 ≤ fr ∧ (m (fr - 1)).isSome = true)) → page < fr + n → (∀ p, p + n ≤ page → ¬ Win m n p) →
    (∃ p : Nat, holeGo m n f page fr = ((p : Int), true) ∧ Win m n p ∧ ∀ p', p' < p → ¬ Win m n p') ∨ (holeGo m n f page fr = (0, false) ∧ ∀ p', ¬ Win m n p')
  | 0, page, fr, h1, h2, h3, h4, h5, h6 => by
    right
    refine ⟨rfl, fun p' hp => ?_⟩
    exact h6 p' (by have := hp.1; omega) hp
  | f + 1, page, fr, h1, h2, h3, h4, h5, h6 => by
    rw [holeGo]
    cases hm : m page with
    | some x =>
      simp only [Option.isSome_some, if_true]
      rw [if_neg (by rw [beq_iff_eq]; omega)]
      refine holeGo_law m n hn f (page + 1) (page + 1) (by omega) (by omega) (fun k a b => by omega) (.inr ⟨by omega, by simp [hm]⟩) (by omega) (fun p hp hw => ?_)
      by_cases hpp : p + n ≤ page
      · exact h6 p hpp hw
      · have := hw.2 page (by omega) (by omega)
        rw [hm] at this
        cases this
    | none =>
      simp only [Option.isSome_none, Bool.false_eq_true, if_false]
      by_cases he : page + 1 = fr + n
      · rw [if_pos (by rw [beq_iff_eq]; omega)]
        left
        refine ⟨fr, rfl, ⟨by omega, fun k a b => ?_⟩, fun p' hp' hw => h6 p' (by omega) hw⟩
        by_cases hk : k = page
        · rw [hk]; exact hm
        · exact h3 k a (by omega)
      · rw [if_neg (by rw [beq_iff_eq]; omega)]
        refine holeGo_law m n hn f (page + 1) fr (by omega) (by omega) (fun k a b => ?_) h4 (by omega) (fun p hp hw => ?_)
        · by_cases hk : k = page
          · rw [hk]; exact hm
          · exact h3 k a (by omega)
        · by_cases hpp : p + n ≤ page
          · exact h6 p hpp hw
          · rcases h4 with h4 | ⟨h4, h4'⟩
            · omega
            · have := hw.2 (fr - 1) (by omega) (by omega)
              rw [this] at h4'
              cases h4'

theorem hole_law (m : M) (n : Nat) (hn : 1 ≤ n) :
    (∃ p : Nat, hole m n = ((p : Int), true) ∧ Win m n p ∧ ∀ p', p' < p → ¬ Win m n p') ∨ (hole m n = (0, false) ∧ ∀ p', ¬ Win m n p') := by
  have h : hole m n = holeGo m n 64 0 0 := by unfold hole; rw [if_neg (by omega)]
  rw [h]
  exact holeGo_law m n hn 64 0 0 (by omega) (by omega) (fun k a b => by omega) (.inl rfl) (by omega) (fun p hp _ => by omega)
/-- What one has found says what Hole tells. -/
theorem hole_found (m : M) (n p : Nat) (hn : 1 ≤ n) (hw : Win m n p) (hl : ∀ p', p' < p → ¬ Win m n p') : hole m n = ((p : Int), true) := by
  rcases hole_law m n hn with ⟨q, h1, h2, h3⟩ | ⟨_, h2⟩
  · have : q = p := by
      rcases Nat.lt_trichotomy q p with h | h | h
      · exact absurd h2 (hl q h)
      · exact h
      · exact absurd hw (h3 p h)
    rw [h1, this]
  · exact absurd hw (h2 p)
theorem hole_none (m : M) (n : Nat) (hn : 1 ≤ n) (hl : ∀ p', ¬ Win m n p') : hole m n = (0, false) := by
  rcases hole_law m n hn with ⟨q, h1, h2, h3⟩ | ⟨h1, _⟩
  · exact absurd h2 (hl q)
  · exact h1
end Go.Proofs.Ytgdimjcpdndklaa
