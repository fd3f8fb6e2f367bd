/-
  How many frames are free, in plain words; pages mapped one by one. Condition: none.
-/
import Derived.Test.YtlecfdchmcghlaaSp2
namespace Go.Proofs.Ytlecfdchmcghlaa
open Go.RowKit
set_option linter.unusedVariables false

theorem usedN_take (F : Fs) {j : Nat} (hj : F.r j = 0) : ∀ k, (usedN (F.setR j 1) k).length = (usedN F k).length + (if j < k then 1 else 0)
  | 0 => by simp [usedN]
  | k + 1 => by
    rw [usedN, usedN, List.length_append, List.length_append, usedN_take F hj k]
    by_cases hk : k = j
    · subst hk
      have h1 : (F.setR k 1).r k = 1 := if_pos rfl
      rw [h1, hj, if_neg (show ¬ (1 : Nat) = 0 by decide), if_pos rfl, if_neg (show ¬ k < k by omega), if_pos (show k < k + 1 by omega)]
      simp
    · have h1 : (F.setR j 1).r k = F.r k := if_neg hk
      rw [h1]
      by_cases hjk : j < k
      · rw [if_pos hjk, if_pos (show j < k + 1 by omega)]
        omega
      · rw [if_neg hjk, if_neg (show ¬ j < k + 1 by omega)]
        omega
theorem usedN_full (F : Fs) : ∀ k, (∀ j, j < k → F.r j ≠ 0) → (usedN F k).length = k
  | 0, _ => rfl
  | k + 1, h => by
    rw [usedN, List.length_append, usedN_full F k (fun j hj => h j (by omega)), if_neg (h k (by omega))]; rfl
theorem freeK_of {F : Fs} (h : 0 < freeN F) : ∃ j, freeK F = some j := by
  cases hf : freeK F with
  | some j => exact ⟨j, rfl⟩
  | none =>
    unfold freeK at hf
    rw [List.find?_eq_none] at hf
    have := usedN_full F F.n (fun j hj => by simpa using hf j (List.mem_range.2 hj))
    unfold freeN usedL at h
    omega
theorem freeN_take {F : Fs} {j : Nat} (h : freeK F = some j) : freeN (F.setR j 1) = freeN F - 1 := by
  obtain ⟨hj, hr⟩ := freeK_some h
  unfold freeN usedL
  rw [show (F.setR j 1).n = F.n from rfl, usedN_take F hr F.n, if_pos hj]
  omega
/-- k pages from p on are mapped, one by one. -/
def mapGo (F : Fs) (m : M) (p : Nat) (wr sh : Bool) : Nat → Fs × M
  | 0 => (F, m)
  | k + 1 => match freeK (mapGo F m p wr sh k).1 with
    | some j => ((mapGo F m p wr sh k).1.setR j 1, upd (mapGo F m p wr sh k).2 (p + k) (some ⟨j, wr, sh, false, true⟩))
    | none => mapGo F m p wr sh k
theorem mapGo_succ {F : Fs} {m : M} {p : Nat} {wr sh : Bool} {k j : Nat} (h : freeK (mapGo F m p wr sh k).1 = some j) :
    mapGo F m p wr sh (k + 1) = ((mapGo F m p wr sh k).1.setR j 1, upd (mapGo F m p wr sh k).2 (p + k) (some ⟨j, wr, sh, false, true⟩)) := by
  rw [mapGo, h]
theorem mapGo_free (F : Fs) (m : M) (p : Nat) (wr sh : Bool) : ∀ k : Nat, (k : Int) ≤ freeN F → freeN (mapGo F m p wr sh k).1 = freeN F - k
  | 0, _ => by show freeN F = freeN F - ((0 : Nat) : Int); omega
  | k + 1, h => by
    have ih := mapGo_free F m p wr sh k (by omega)
    obtain ⟨j, hj⟩ := freeK_of (F := (mapGo F m p wr sh k).1) (by omega)
    rw [mapGo_succ hj]
    dsimp only
    rw [freeN_take hj, ih]
    omega
end Go.Proofs.Ytlecfdchmcghlaa
