/-
  A text's lines, with their ends. Plain: no program in sight. No condition.
-/
import Derived.Lib.IndexLaws
import Derived.Test.YtgefnicpkfcghaaDoorWords
namespace Go.Proofs.YtgefnicpkfcghaaDoor
set_option linter.unusedVariables false
set_option linter.unusedSimpArgs false

def lns : List UInt8 → List (List UInt8)
  | [] => []
  | c :: cs => if c = 10 then [10] :: lns cs else match lns cs with | [] => [[c]] | l :: ls => (c :: l) :: ls
theorem lns_end (cs : List UInt8) : lns (10 :: cs) = [10] :: lns cs := by rw [lns, if_pos rfl]
theorem lns_more {c : UInt8} (cs : List UInt8) (h : c ≠ 10) : lns (c :: cs) = match lns cs with | [] => [[c]] | l :: ls => (c :: l) :: ls := by rw [lns, if_neg h]
theorem lns_flat : ∀ s, (lns s).flatten = s
  | [] => rfl
  | c :: cs => by
    have ih := lns_flat cs
    by_cases h : c = 10
    · subst h
      rw [lns_end, List.flatten_cons, ih]
      rfl
    · rw [lns_more cs h]
      cases hl : lns cs with
      | nil =>
        rw [hl] at ih
        simp at ih
        simp [← ih]
      | cons l ls =>
        rw [hl] at ih
        show (c :: l) ++ ls.flatten = c :: cs
        rw [← ih]
        rfl
theorem lns_cut : ∀ {a : List UInt8} (rest : List UInt8), (∀ c ∈ a, c ≠ 10) → lns (a ++ 10 :: rest) = (a ++ [10]) :: lns rest
  | [], rest, _ => lns_end rest
  | c :: a, rest, h => by
    have ih := lns_cut rest (fun x hx => h x (List.mem_cons_of_mem _ hx))
    rw [List.cons_append, lns_more _ (h c (List.mem_cons_self ..)), ih]
    rfl
theorem lns_none : ∀ {a : List UInt8}, (∀ c ∈ a, c ≠ 10) → a ≠ [] → lns a = [a]
  | [], _, h => absurd rfl h
  | [c], h, _ => by rw [lns_more _ (h c (List.mem_cons_self ..))]; rfl
  | c :: d :: a, h, _ => by
    have ih := lns_none (a := d :: a) (fun x hx => h x (List.mem_cons_of_mem _ hx)) (by simp)
    rw [lns_more _ (h c (List.mem_cons_self ..)), ih]
theorem lns_some {l : List UInt8} {o : Nat} (h : Lib.indexByte l 10 = o) : lns l = l.take (o + 1) :: lns (l.drop (o + 1)) := by
  obtain ⟨h1, h2⟩ := Lib.indexByte_some h
  have hlt := (List.getElem?_eq_some_iff.1 h1).1
  have e : l = l.take o ++ 10 :: l.drop (o + 1) := by
    have h3 := (List.take_append_drop o l).symm
    rw [List.drop_eq_getElem_cons hlt, (List.getElem?_eq_some_iff.1 h1).2] at h3
    exact h3
  have hn : ∀ c ∈ l.take o, c ≠ 10 := fun c hc => by
    obtain ⟨k, hk, hkc⟩ := List.getElem_of_mem hc
    rw [List.length_take] at hk
    rw [List.getElem_take] at hkc
    have := h2 k (by omega)
    rw [List.getElem?_eq_getElem (by omega), hkc] at this
    exact fun hh => this (by rw [hh])
  have ht : l.take (o + 1) = l.take o ++ [10] := by rw [List.take_add_one, h1]; rfl
  rw [ht]
  have := lns_cut (l.drop (o + 1)) hn
  rw [← e] at this
  exact this
theorem lns_neg {l : List UInt8} (h : Lib.indexByte l 10 = -1) (hne : l ≠ []) : lns l = [l] := by
  have hn := Lib.indexByte_none h
  refine lns_none (fun c hc hcc => ?_) hne
  obtain ⟨k, hk, hkc⟩ := List.getElem_of_mem hc
  exact hn k (by rw [List.getElem?_eq_getElem hk, hkc, hcc])
theorem lns_len (l : List UInt8) : (lns l).length ≤ l.length := by
  induction l with
  | nil => exact Nat.le_refl _
  | cons c cs ih =>
    by_cases h : c = 10
    · subst h
      rw [lns_end]
      simp only [List.length_cons]
      omega
    · rw [lns_more cs h]
      cases hl : lns cs with
      | nil => simp
      | cons x xs =>
        rw [hl] at ih
        simp only [List.length_cons] at ih ⊢
        omega
theorem lns_mem {l x : List UInt8} (h : x ∈ lns l) : x.length ≤ l.length := by
  have e := lns_flat l
  have : x.length ≤ (lns l).flatten.length := by
    obtain ⟨a, b, hab⟩ := List.append_of_mem h
    rw [hab]
    simp
    omega
  rw [e] at this
  exact this
end Go.Proofs.YtgefnicpkfcghaaDoor
