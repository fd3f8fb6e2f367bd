/-
  strings.Join with blanks, of a list that the call owns. Condition: the text takes at most 2^47 bytes.
-/
import Derived.Test.YtgefnicpkfcghaaDoorStr3
namespace Go.Proofs.YtgefnicpkfcghaaDoor
open Go.RowKit
set_option linter.unusedVariables false
set_option linter.unusedSimpArgs false

theorem infoStr : (Tryd.prog.info? 9).map (fun i => (i.zero, i.size, i.bytes)) = some (some (.string ⟨#[]⟩), 1, 16) := by kernel_rfl
/-- What the call owns lies as a list of texts. -/
theorem own_of_blk {w : World} {g : Nat} {xs : List (List UInt8)} {B : Nat} (h : Blk w g 9 (xs.map strV).toArray) (hB : B ≤ g) (hl : xs.length ≤ 1000000) :
    w.ownsRow B 9 1 (.slice (some ⟨g, 0, none⟩) xs.length xs.length) xs.length (xs.map strV) := by
  refine ⟨by simp, .inr ⟨g, xs.length, _, rfl, hB, h, Nat.le_refl _, by unfold maxLen; omega, by simp, ?_⟩⟩
  rw [List.take_of_length_le (by simp)]
theorem glue_len_le (w : List UInt8) (ws : List (List UInt8)) : w.length ≤ (glue (w :: ws)).length := by
  cases ws with
  | nil => exact Nat.le_refl _
  | cons u us => rw [glue_two, List.length_append]; omega
theorem join_own {w : World} {B : Nat} {v : Value} {xs : List (List UInt8)} (hown : w.ownsRow B 9 1 v xs.length (xs.map strV)) (h0 : 0 < xs.length) (hl : (glue xs).length ≤ 140737488355328) (hn : xs.length ≤ 1000000) :
    Calls Tryd.prog 29 #[v, .string ⟨#[32]⟩] w fun e w' => e = .returned (strV (glue xs)) ∧ Below w.heap.size w w' := by
  rcases hown.2 with ⟨_, hz⟩ | ⟨g, cap, cur, hv, hBg, hg, hnc, hcm, hcs, htake⟩
  · omega
  · subst hv
    have hcells : ∀ (j : Nat) (x : ByteArray), (xs.map fun l => (⟨l.toArray⟩ : ByteArray))[j]? = some x → w.cell? ⟨g, 0 + j, none⟩ = some (.string x) := fun j x hx => by
      rw [Nat.zero_add, cell_of_row w g j cur _ _ hg]
      have h1 : (cur.toList.take (xs.length * 1))[j]? = some (.string x) := by
        rw [htake, List.getElem?_map]
        rw [List.getElem?_map] at hx
        cases hj : xs[j]? with
        | none => rw [hj] at hx; cases hx
        | some l =>
          rw [hj] at hx
          simp only [Option.map_some, Option.some.injEq] at hx ⊢
          rw [← hx]
          rfl
      rw [List.getElem?_take] at h1
      split at h1
      · simpa using h1
      · cases h1
    have hmap : (xs.map fun l => (⟨l.toArray⟩ : ByteArray)).map (·.data.toList) = xs := by
      rw [List.map_map]
      exact List.map_id'' (fun _ => rfl) xs
    have h := Tryd.strings_Join g 0 cap (xs.map fun l => ⟨l.toArray⟩) ⟨#[32]⟩ w hcells (Array.getElem?_eq_some_iff.1 hg).1 (by rw [List.length_map]; omega) (by rw [List.length_map]; exact hnc) (by rw [hmap, show (⟨#[32]⟩ : ByteArray).data.toList = [32] from rfl, join_glue]; exact hl)
    rw [hmap, List.length_map, show (⟨#[32]⟩ : ByteArray).data.toList = [32] from rfl, join_glue] at h
    exact h
end Go.Proofs.YtgefnicpkfcghaaDoor
