/-
  Unmap of spaces. Condition: the space and the frames lie in blocks of their own.
-/
import Derived.Test.YtlecfdchmcghlaaSp5
namespace Go.Proofs.Ytlecfdchmcghlaa
open Go.RowKit Go.Shelf
set_option linter.unusedVariables false
set_option linter.unusedSimpArgs false
attribute [local go_sem] Oper.semAt_some

/-- k pages from p on are unmapped, one by one. -/
def unmapGo (F : Fs) (m : M) (p : Nat) : Nat → Fs × M
  | 0 => (F, m)
  | k + 1 => match (unmapGo F m p k).2 (p + k) with
    | some x => (dropF (unmapGo F m p k).1 x.f, upd (unmapGo F m p k).2 (p + k) none)
    | none => unmapGo F m p k
theorem unmapGo_succ {F : Fs} {m : M} {p k : Nat} {x : E} (h : (unmapGo F m p k).2 (p + k) = some x) :
    unmapGo F m p (k + 1) = (dropF (unmapGo F m p k).1 x.f, upd (unmapGo F m p k).2 (p + k) none) := by
  rw [unmapGo, h]
theorem unmapGo_far (F : Fs) (m : M) (p : Nat) : ∀ k i, (i < p ∨ p + k ≤ i) → (unmapGo F m p k).2 i = m i
  | 0, i, _ => rfl
  | k + 1, i, h => by
    rw [unmapGo]
    split
    · show upd _ _ none i = _
      rw [upd_other _ _ (by omega)]
      exact unmapGo_far F m p k i (by omega)
    · exact unmapGo_far F m p k i (by omega)
theorem cntP_all {m : M} {p : Nat} : ∀ {n}, cntP m p n = n → ∀ k, k < n → ∃ x, m (p + k) = some x
  | 0, _, k, hk => absurd hk (Nat.not_lt_zero _)
  | n + 1, h, k, hk => by
    have hl := cntP_le m p n
    rw [cntP] at h
    cases hm : m (p + n) with
    | none =>
      rw [hm] at h
      simp at h
      omega
    | some x =>
      rw [hm] at h
      simp at h
      by_cases hkn : k = n
      · subst hkn; exact ⟨x, hm⟩
      · exact cntP_all h k (by omega)
section
variable {w : World} {fb lb cap : Nat} {F : Fs} {sb bt : Nat} {q : Nat → Option Nat} {m : M}
end
end Go.Proofs.Ytlecfdchmcghlaa
