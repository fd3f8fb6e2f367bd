/-
  A script's text says the script; what a text says has that text. Plain: no program in sight. No condition.
-/
import Derived.Test.YtgefnicpkfcghaaDoorScR
namespace Go.Proofs.YtgefnicpkfcghaaDoor
set_option linter.unusedVariables false
set_option linter.unusedSimpArgs false

theorem lns_lines : ∀ xs : List O, (∀ x ∈ xs, MayO x) → lns (linesL xs) = xs.map fun x => lineO x ++ [10]
  | [], _ => rfl
  | x :: xs, h => by
    have e : linesL (x :: xs) = lineO x ++ 10 :: linesL xs := by
      unfold linesL
      rw [List.flatMap_cons]
      simp
    rw [e, lns_cut _ (lineO_noEnd (h x (List.mem_cons_self ..))), lns_lines xs (fun y hy => h y (List.mem_cons_of_mem _ hy))]
    rfl
theorem ends_line (l : List UInt8) : endsL (l ++ [10]) = true := by
  unfold endsL Lib.hasSuffix
  rw [List.isSuffixOf_iff_suffix]
  exact List.suffix_append _ _
theorem trim_line (l : List UInt8) : trimL (l ++ [10]) = l := by
  unfold trimL Lib.trimSuffix
  rw [if_pos (show Lib.hasSuffix (l ++ [10]) [10] = true from ends_line l)]
  simp
theorem lineS_line {x : O} (hm : MayO x) (hr : RangeO x) : lineS (lineO x ++ [10]) = some x := by
  unfold lineS
  rw [if_pos (ends_line _), trim_line, read_lineO hm hr]
theorem lineS_some {l : List UInt8} {x : O} (h : lineS l = some x) : l = lineO x ++ [10] ∧ MayO x ∧ RangeO x := by
  unfold lineS at h
  split at h
  · rename_i he
    obtain ⟨hm, hl, hr⟩ := read_someO h
    refine ⟨?_, hm, hr⟩
    unfold endsL Lib.hasSuffix at he
    rw [List.isSuffixOf_iff_suffix] at he
    obtain ⟨q, rfl⟩ := he
    rw [trim_line] at hl
    rw [hl]
  · cases h
theorem back_text : ∀ {xs : List O}, (∀ x ∈ xs, MayO x) → Vals xs → (lns (linesL xs)).map lineS = xs.map some := by
  intro xs hf hv
  rw [lns_lines _ hf, List.map_map]
  apply List.map_congr_left
  intro x hx
  exact lineS_line (hf x hx) (hv x hx)
theorem text_lines : ∀ {ls : List (List UInt8)} {acc : List O}, ls.map lineS = acc.map some → ls.flatten = linesL acc ∧ (∀ x ∈ acc, MayO x) ∧ Vals acc
  | [], [], _ => ⟨rfl, fun x hx => by simp at hx, fun x hx => by simp at hx⟩
  | [], _ :: _, h => by simp at h
  | _ :: _, [], h => by simp at h
  | l :: ls, x :: acc, h => by
    simp only [List.map_cons, List.cons.injEq] at h
    obtain ⟨h1, h2⟩ := h
    obtain ⟨e, hm, hr⟩ := lineS_some h1
    obtain ⟨e2, hm2, hv2⟩ := text_lines h2
    refine ⟨?_, fun y hy => ?_, fun y hy => ?_⟩
    · rw [List.flatten_cons, e2, e]
      rfl
    · rcases List.mem_cons.1 hy with rfl | hy
      · exact hm
      · exact hm2 y hy
    · rcases List.mem_cons.1 hy with rfl | hy
      · exact hr
      · exact hv2 y hy
theorem some_inj : ∀ {a b : List O}, a.map some = b.map some → a = b
  | [], [], _ => rfl
  | [], _ :: _, h => by simp at h
  | _ :: _, [], h => by simp at h
  | x :: a, y :: b, h => by
    simp only [List.map_cons, List.cons.injEq, Option.some.injEq] at h
    rw [h.1, some_inj h.2]
theorem text_back {s : List UInt8} {acc : List O} (h : (lns s).map lineS = acc.map some) (hl : (lns s).length ≤ 10000) : textL acc = some s ∧ Vals acc ∧ acc.length ≤ 10000 := by
  obtain ⟨h1, h2, h3⟩ := text_lines h
  have h4 : acc.length = (lns s).length := by
    have := congrArg List.length h
    simpa using this.symm
  rw [lns_flat] at h1
  exact ⟨by rw [show textL acc = some (linesL acc) from if_pos ⟨by omega, h2⟩, h1], h3, by omega⟩
end Go.Proofs.YtgefnicpkfcghaaDoor
