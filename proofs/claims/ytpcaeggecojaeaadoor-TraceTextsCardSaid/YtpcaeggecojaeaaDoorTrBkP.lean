/-
  A trace's text says the trace; what a text says has that text. Plain: no program in sight. No condition.
-/
import Derived.Test.YtpcaeggecojaeaaDoorTrPar
namespace Go.Proofs.YtpcaeggecojaeaaDoor
set_option linter.unusedVariables false
set_option linter.unusedSimpArgs false

theorem dec_noEnd (u : Nat) : ∀ c ∈ Lib.decDigits u, c ≠ 10 := fun c hc h => by
  have := dec_digit hc
  subst h
  have e : (10 : UInt8).toNat = 10 := rfl
  omega
theorem itoa_noEnd (n : Int) : ∀ c ∈ Lib.itoa n, c ≠ 10 := fun c hc => by
  unfold Lib.itoa at hc
  split at hc
  · rcases List.mem_cons.1 hc with rfl | hc
    · decide
    · exact dec_noEnd _ c hc
  · exact dec_noEnd _ c hc
theorem kindW_noEnd {k : Nat} : ∀ c ∈ kindW k, c ≠ 10 := by
  by_cases h : k < 5
  · rcases lt5 h with rfl | rfl | rfl | rfl | rfl <;> decide
  · unfold kindW
    rw [List.getD_eq_getElem?_getD, List.getElem?_eq_none (by simp [kindL]; omega)]
    simp
theorem glue_noEnd : ∀ (ws : List (List UInt8)), (∀ w ∈ ws, ∀ c ∈ w, c ≠ 10) → ∀ c ∈ glue ws, c ≠ 10
  | [], _, c, hc => by simp [glue] at hc
  | [w], h, c, hc => h w (List.mem_cons_self ..) c hc
  | w :: u :: ws, h, c, hc => by
    rw [glue_two] at hc
    rcases List.mem_append.1 hc with hc | hc
    · exact h w (List.mem_cons_self ..) c hc
    · rcases List.mem_cons.1 hc with rfl | hc
      · decide
      · exact glue_noEnd (u :: ws) (fun w' hw' => h w' (List.mem_cons_of_mem _ hw')) c hc
theorem line_noEnd (x : S) : ∀ c ∈ lineL x, c ≠ 10 := by
  refine glue_noEnd _ ?_
  intro w hw
  unfold lineW at hw
  split at hw
  · simp only [List.mem_cons, List.mem_nil_iff, or_false] at hw
    rcases hw with rfl | rfl | rfl | rfl
    · exact itoa_noEnd _
    · exact kindW_noEnd
    · exact itoa_noEnd _
    · exact dec_noEnd _
  · simp only [List.mem_cons, List.mem_nil_iff, or_false] at hw
    rcases hw with rfl | rfl | rfl
    · exact itoa_noEnd _
    · exact kindW_noEnd
    · exact dec_noEnd _
theorem lns_lines : ∀ xs : List S, lns (linesL xs) = xs.map fun x => lineL x ++ [10]
  | [] => rfl
  | x :: xs => by
    have e : linesL (x :: xs) = lineL x ++ 10 :: linesL xs := by
      unfold linesL
      rw [List.flatMap_cons]
      simp
    rw [e, lns_cut _ (line_noEnd x), lns_lines xs]
    rfl
theorem ends_line (l : List UInt8) : endsL (l ++ [10]) = true := by
  unfold endsL Lib.hasSuffix
  rw [List.isSuffixOf_iff_suffix]
  exact List.suffix_append _ _
theorem trim_line (l : List UInt8) : trimL (l ++ [10]) = l := by
  unfold trimL Lib.trimSuffix
  rw [if_pos (show Lib.hasSuffix (l ++ [10]) [10] = true from ends_line l)]
  simp
theorem lineS_line {x : S} (hm : May x) (h0 : 0 ≤ x.v) (hv : x.v ≤ 4294967295) : lineS (lineL x ++ [10]) = some x := by
  unfold lineS
  rw [if_pos (ends_line _), trim_line, read_line hm h0 hv]
theorem lineS_some {l : List UInt8} {x : S} (h : lineS l = some x) : l = lineL x ++ [10] ∧ May x ∧ 0 ≤ x.v ∧ x.v ≤ 4294967295 := by
  unfold lineS at h
  split at h
  · rename_i he
    obtain ⟨hm, hl, h0, hv⟩ := read_some h
    refine ⟨?_, hm, h0, hv⟩
    unfold endsL Lib.hasSuffix at he
    rw [List.isSuffixOf_iff_suffix] at he
    obtain ⟨q, rfl⟩ := he
    rw [trim_line] at hl
    rw [hl]
  · cases h
theorem back_text : ∀ {xs : List S}, (∀ x ∈ xs, May x) → Vals xs → (lns (linesL xs)).map lineS = xs.map some := by
  intro xs hf hv
  rw [lns_lines, List.map_map]
  apply List.map_congr_left
  intro x hx
  exact lineS_line (hf x hx) (hv x hx).1 (hv x hx).2
theorem text_lines : ∀ {ls : List (List UInt8)} {acc : List S}, ls.map lineS = acc.map some → ls.flatten = linesL acc ∧ (∀ x ∈ acc, May x) ∧ Vals acc
  | [], [], _ => ⟨rfl, fun x hx => by simp at hx, fun x hx => by simp at hx⟩
  | [], _ :: _, h => by simp at h
  | _ :: _, [], h => by simp at h
  | l :: ls, x :: acc, h => by
    simp only [List.map_cons, List.cons.injEq] at h
    obtain ⟨h1, h2⟩ := h
    obtain ⟨e, hm, h0, hv⟩ := lineS_some h1
    obtain ⟨e2, hm2, hv2⟩ := text_lines h2
    refine ⟨?_, fun y hy => ?_, fun y hy => ?_⟩
    · rw [List.flatten_cons, e2, e]
      rfl
    · rcases List.mem_cons.1 hy with rfl | hy
      · exact hm
      · exact hm2 y hy
    · rcases List.mem_cons.1 hy with rfl | hy
      · exact ⟨h0, hv⟩
      · exact hv2 y hy
theorem some_inj : ∀ {a b : List S}, a.map some = b.map some → a = b
  | [], [], _ => rfl
  | [], _ :: _, h => by simp at h
  | _ :: _, [], h => by simp at h
  | x :: a, y :: b, h => by
    simp only [List.map_cons, List.cons.injEq, Option.some.injEq] at h
    rw [h.1, some_inj h.2]
theorem text_back {s : List UInt8} {acc : List S} (h : (lns s).map lineS = acc.map some) (hl : (lns s).length ≤ 10000) : textL acc = some s ∧ Vals acc ∧ acc.length ≤ 10000 := by
  obtain ⟨h1, h2, h3⟩ := text_lines h
  have h4 : acc.length = (lns s).length := by
    have := congrArg List.length h
    simpa using this.symm
  rw [lns_flat] at h1
  exact ⟨by rw [show textL acc = some (linesL acc) from if_pos ⟨by omega, h2⟩, h1], h3, by omega⟩
end Go.Proofs.YtpcaeggecojaeaaDoor
