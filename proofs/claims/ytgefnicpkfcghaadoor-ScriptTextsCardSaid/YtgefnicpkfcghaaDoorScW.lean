/-
  The law ScriptWrong, walked. Condition: the tables lie as the program's text, and the library's, lay them.
-/
import Derived.Test.YtgefnicpkfcghaaDoorScA
namespace Go.Proofs.YtgefnicpkfcghaaDoor
open Go.RowKit
set_option linter.unusedVariables false
set_option linter.unusedSimpArgs false

/-! ## plain -/
theorem lns_app : ∀ (ys : List O) (rest : List UInt8), (∀ x ∈ ys, MayO x) → lns (linesL ys ++ rest) = (ys.map fun x => lineO x ++ [10]) ++ lns rest
  | [], rest, _ => rfl
  | y :: ys, rest, h => by
    have e : linesL (y :: ys) ++ rest = lineO y ++ 10 :: (linesL ys ++ rest) := by
      unfold linesL
      rw [List.flatMap_cons]
      simp
    rw [e, lns_cut _ (lineO_noEnd (h y (List.mem_cons_self ..))), lns_app ys rest (fun x hx => h x (List.mem_cons_of_mem _ hx))]
    simp
def wrongT (xs : List O) (k : Nat) (s : List UInt8) : List UInt8 := linesL (xs.take k) ++ s ++ [10] ++ linesL (xs.drop (k + 1))
theorem wrong_lns {xs : List O} {k : Nat} {s : List UInt8} (h1 : ∀ x ∈ xs.take k, MayO x) (h2 : ∀ x ∈ xs.drop (k + 1), MayO x) (hs : ∀ c ∈ s, c ≠ 10) :
    lns (wrongT xs k s) = ((xs.take k).map fun x => lineO x ++ [10]) ++ (s ++ [10]) :: (xs.drop (k + 1)).map fun x => lineO x ++ [10] := by
  have e : wrongT xs k s = linesL (xs.take k) ++ (s ++ 10 :: linesL (xs.drop (k + 1))) := by unfold wrongT; simp
  rw [e, lns_app _ _ h1, lns_cut _ hs, lns_lines _ h2]
theorem lineS_end (s : List UInt8) : lineS (s ++ [10]) = readO s := by
  unfold lineS
  rw [if_pos (ends_line _), trim_line]
theorem wrong_yes {xs : List O} {k : Nat} {s : List UInt8} {x : O} (hk : k < xs.length) (h1 : ∀ x ∈ xs.take k, MayO x) (h2 : ∀ x ∈ xs.drop (k + 1), MayO x) (hv : Vals xs) (hs : ∀ c ∈ s, c ≠ 10) (hx : readO s = some x) :
    (lns (wrongT xs k s)).map lineS = (xs.set k x).map some ∧ (lns (wrongT xs k s)).length = xs.length := by
  have e : xs.set k x = xs.take k ++ x :: xs.drop (k + 1) := by rw [List.set_eq_take_append_cons_drop, if_pos hk]
  constructor
  · rw [wrong_lns h1 h2 hs, e, List.map_append, List.map_append, List.map_cons, List.map_cons, List.map_map, List.map_map, lineS_end, hx]
    congr 1
    · apply List.map_congr_left
      intro y hy
      exact lineS_line (h1 y hy) (hv y (List.mem_of_mem_take hy))
    · congr 1
      apply List.map_congr_left
      intro y hy
      exact lineS_line (h2 y hy) (hv y (List.mem_of_mem_drop hy))
  · rw [wrong_lns h1 h2 hs]
    simp only [List.length_append, List.length_map, List.length_cons, List.length_take, List.length_drop]
    omega
theorem wrong_no {xs : List O} {k : Nat} {s : List UInt8} (hk : k < xs.length) (hl : xs.length ≤ 200) (h1 : ∀ x ∈ xs.take k, MayO x) (h2 : ∀ x ∈ xs.drop (k + 1), MayO x) (hv : Vals xs) (hs : ∀ c ∈ s, c ≠ 10) (hx : readO s = none) :
    (∀ acc : List O, (lns (wrongT xs k s)).map lineS ≠ acc.map some) ∧ ∀ j, (∃ acc : List O, ((lns (wrongT xs k s)).take j).map lineS = acc.map some) → (∃ l, (lns (wrongT xs k s))[j]? = some l ∧ (lineS l = none ∨ 10000 ≤ j)) → j = k := by
  have hL := wrong_lns h1 h2 hs
  have hkt : ((xs.take k).map fun x => lineO x ++ [10]).length = k := by rw [List.length_map, List.length_take]; omega
  have hat : (lns (wrongT xs k s))[k]? = some (s ++ [10]) := by
    rw [hL, List.getElem?_append_right (by omega), hkt, Nat.sub_self]
    rfl
  have hbad : ((lns (wrongT xs k s)).map lineS)[k]? = some none := by rw [List.getElem?_map, hat]; simp [lineS_end, hx]
  have hlow : ∀ j l, j < k → (lns (wrongT xs k s))[j]? = some l → lineS l ≠ none := by
    intro j l hj hjl
    rw [hL, List.getElem?_append_left (by omega), List.getElem?_map] at hjl
    cases hy : (xs.take k)[j]? with
    | none => rw [hy] at hjl; cases hjl
    | some y =>
      rw [hy] at hjl
      injection hjl with hjl
      have hm := List.mem_of_getElem? hy
      rw [← hjl, lineS_line (h1 y hm) (hv y (List.mem_of_mem_take hm))]
      simp
  constructor
  · intro acc h
    rw [h, List.getElem?_map] at hbad
    cases ha : acc[k]? with
    | none => rw [ha] at hbad; cases hbad
    | some y => rw [ha] at hbad; cases hbad
  · rintro j ⟨acc, ha⟩ ⟨l, hl1, hl2⟩
    have hjl := (List.getElem?_eq_some_iff.1 hl1).1
    have hlen : (lns (wrongT xs k s)).length = xs.length := by
      rw [hL]
      simp only [List.length_append, List.length_map, List.length_cons, List.length_take, List.length_drop]
      omega
    by_cases h : j < k
    · rcases hl2 with h3 | h3
      · exact absurd h3 (hlow j l h hl1)
      · omega
    · by_cases h' : j = k
      · exact h'
      · exfalso
        have h3 : (((lns (wrongT xs k s)).take j).map lineS)[k]? = some none := by
          rw [List.getElem?_map, List.getElem?_take, if_pos (by omega), hat]
          simp [lineS_end, hx]
        rw [ha, List.getElem?_map] at h3
        cases hb : acc[k]? with
        | none => rw [hb] at h3; cases h3
        | some y => rw [hb] at h3; cases h3
theorem no_end {s : ByteArray} (h : ¬ 0 ≤ Lib.indexByte s.data.toList 10) : ∀ c ∈ toL s, c ≠ 10 := by
  have h1 := Lib.indexByte_none (l := s.data.toList) (c := 10) (by have := Lib.indexByte_ge s.data.toList 10; omega)
  intro c hc e
  obtain ⟨k, hk⟩ := List.getElem?_of_mem hc
  exact h1 k (by rw [← e]; exact hk)
end Go.Proofs.YtgefnicpkfcghaaDoor
