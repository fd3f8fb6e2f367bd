/-
  What bytes say is a script that may be. Plain: no program in sight. No condition.
-/
import Derived.Test.YtgefnicpkfcghaaDoorScV
import Derived.Test.YtgefnicpkfcghaaDoorScB
namespace Go.Proofs.YtgefnicpkfcghaaDoor
set_option linter.unusedVariables false
set_option linter.unusedSimpArgs false

theorem ofO_may (b0 b1 b2 b3 : Nat) (h2 : b2 < 256) (h3 : b3 < 256) : MayO (ofO b0 b1 b2 b3) ∧ RangeO (ofO b0 b1 b2 b3) ∧ (ofO b0 b1 b2 b3).k = kindOf4 b0 := by
  have q1 : b1 % 8 < 8 := Nat.mod_lt _ (by decide)
  have q2 : b2 % 8 < 8 := Nat.mod_lt _ (by decide)
  have q3 : b3 % 15 < 15 := Nat.mod_lt _ (by decide)
  have hnm := nmB_ok b1
  have m3 : (b3 : Int) % 4294967296 = b3 := by omega
  rcases kind4_cases b0 with h | h | h | h | h | h | h | h | h | h | h | h
  · have e : ofO b0 b1 b2 b3 = (⟨1, ((b1 % 8 : Nat) : Int), b2, 0, 0, 0, ⟨#[]⟩⟩ : O) := by unfold ofO; rw [h]; rfl
    rw [e, h]
    have ep : partsL 1 = [99, 110] := by decide
    refine ⟨⟨by show kindW 1 ≠ []; decide, ?_, ?_⟩, ?_, rfl⟩
    · show ∀ b ∈ partsL 1, _
      rw [ep]
      intro b hb
      simp only [List.mem_cons, List.mem_nil_iff, or_false] at hb
      rcases hb with rfl | rfl
      · simp [okO, getO, fineP]
        omega
      · simp [okO, getO, fineP]
    · rfl
    · simp only [RangeO]
      omega
  · have e : ofO b0 b1 b2 b3 = (⟨2, ((b1 % 8 : Nat) : Int), 0, (((b2 % 8 : Nat) : Int) + 1), 0, 0, ⟨#[]⟩⟩ : O) := by unfold ofO; rw [h]; rfl
    rw [e, h]
    have ep : partsL 2 = [99, 112] := by decide
    refine ⟨⟨by show kindW 2 ≠ []; decide, ?_, ?_⟩, ?_, rfl⟩
    · show ∀ b ∈ partsL 2, _
      rw [ep]
      intro b hb
      simp only [List.mem_cons, List.mem_nil_iff, or_false] at hb
      rcases hb with rfl | rfl
      · simp [okO, getO, fineP]
        omega
      · simp [okO, getO, fineP]
        omega
    · rfl
    · simp only [RangeO]
      omega
  · have e : ofO b0 b1 b2 b3 = (⟨3, 0, 0, 0, 0, 0, ⟨#[]⟩⟩ : O) := by unfold ofO; rw [h]; rfl
    rw [e, h]
    have ep : partsL 3 = [] := by decide
    refine ⟨⟨by show kindW 3 ≠ []; decide, ?_, ?_⟩, ?_, rfl⟩
    · show ∀ b ∈ partsL 3, _
      rw [ep]
      intro b hb
      cases hb
    · rfl
    · simp only [RangeO]
      omega
  · have e : ofO b0 b1 b2 b3 = (⟨4, ((b1 % 8 : Nat) : Int), 0, 0, 0, 0, ⟨#[]⟩⟩ : O) := by unfold ofO; rw [h]; rfl
    rw [e, h]
    have ep : partsL 4 = [99] := by decide
    refine ⟨⟨by show kindW 4 ≠ []; decide, ?_, ?_⟩, ?_, rfl⟩
    · show ∀ b ∈ partsL 4, _
      rw [ep]
      intro b hb
      simp only [List.mem_cons, List.mem_nil_iff, or_false] at hb
      subst hb
      simp [okO, getO, fineP]
      omega
    · rfl
    · simp only [RangeO]
      omega
  · have e : ofO b0 b1 b2 b3 = (⟨5, 0, 0, (((b2 % 8 : Nat) : Int) + 1), (((b3 % 15 : Nat) : Int) + 1), 0, ⟨#[]⟩⟩ : O) := by unfold ofO; rw [h]; rfl
    rw [e, h]
    have ep : partsL 5 = [112, 115] := by decide
    refine ⟨⟨by show kindW 5 ≠ []; decide, ?_, ?_⟩, ?_, rfl⟩
    · show ∀ b ∈ partsL 5, _
      rw [ep]
      intro b hb
      simp only [List.mem_cons, List.mem_nil_iff, or_false] at hb
      rcases hb with rfl | rfl
      · simp [okO, getO, fineP]
        omega
      · simp [okO, getO, fineP]
        omega
    · rfl
    · simp only [RangeO]
      omega
  · have e : ofO b0 b1 b2 b3 = (⟨6, 0, 0, (((b2 % 8 : Nat) : Int) + 1), 0, 0, nmB b1⟩ : O) := by unfold ofO; rw [h]; rfl
    rw [e, h]
    have ep : partsL 6 = [112, 119] := by decide
    refine ⟨⟨by show kindW 6 ≠ []; decide, ?_, ?_⟩, ?_, rfl⟩
    · show ∀ b ∈ partsL 6, _
      rw [ep]
      intro b hb
      simp only [List.mem_cons, List.mem_nil_iff, or_false] at hb
      rcases hb with rfl | rfl
      · simp [okO, getO, fineP]
        omega
      · simp only [okO, if_true, hnm]
    · rfl
    · simp only [RangeO]
      omega
  · have e : ofO b0 b1 b2 b3 = (⟨7, 0, 0, (((b2 % 8 : Nat) : Int) + 1), 0, 0, ⟨#[]⟩⟩ : O) := by unfold ofO; rw [h]; rfl
    rw [e, h]
    have ep : partsL 7 = [112] := by decide
    refine ⟨⟨by show kindW 7 ≠ []; decide, ?_, ?_⟩, ?_, rfl⟩
    · show ∀ b ∈ partsL 7, _
      rw [ep]
      intro b hb
      simp only [List.mem_cons, List.mem_nil_iff, or_false] at hb
      subst hb
      simp [okO, getO, fineP]
      omega
    · rfl
    · simp only [RangeO]
      omega
  · have e : ofO b0 b1 b2 b3 = (⟨8, 0, 0, 0, 0, b3, nmB b1⟩ : O) := by unfold ofO; rw [h]; rfl
    rw [e, h]
    have ep : partsL 8 = [119, 109] := by decide
    refine ⟨⟨by show kindW 8 ≠ []; decide, ?_, ?_⟩, ?_, rfl⟩
    · show ∀ b ∈ partsL 8, _
      rw [ep]
      intro b hb
      simp only [List.mem_cons, List.mem_nil_iff, or_false] at hb
      rcases hb with rfl | rfl
      · simp only [okO, if_true, hnm]
      · simp [okO, getO, fineP]
        omega
    · show (⟨8, 0, 0, 0, 0, b3, nmB b1⟩ : O) = (⟨8, 0, 0, 0, 0, (b3 : Int) % 4294967296, nmB b1⟩ : O)
      rw [m3]
    · simp only [RangeO]
      omega
  · have e : ofO b0 b1 b2 b3 = (⟨9, 0, 0, (((b2 % 8 : Nat) : Int) + 1), 0, b3, ⟨#[]⟩⟩ : O) := by unfold ofO; rw [h]; rfl
    rw [e, h]
    have ep : partsL 9 = [112, 109] := by decide
    refine ⟨⟨by show kindW 9 ≠ []; decide, ?_, ?_⟩, ?_, rfl⟩
    · show ∀ b ∈ partsL 9, _
      rw [ep]
      intro b hb
      simp only [List.mem_cons, List.mem_nil_iff, or_false] at hb
      rcases hb with rfl | rfl
      · simp [okO, getO, fineP]
        omega
      · simp [okO, getO, fineP]
        omega
    · show (⟨9, 0, 0, (((b2 % 8 : Nat) : Int) + 1), 0, b3, ⟨#[]⟩⟩ : O) = (⟨9, 0, 0, (((b2 % 8 : Nat) : Int) + 1), 0, (b3 : Int) % 4294967296, ⟨#[]⟩⟩ : O)
      rw [m3]
    · simp only [RangeO]
      omega
  · have e : ofO b0 b1 b2 b3 = (⟨10, 0, 0, 0, 0, 0, ⟨#[]⟩⟩ : O) := by unfold ofO; rw [h]; rfl
    rw [e, h]
    have ep : partsL 10 = [] := by decide
    refine ⟨⟨by show kindW 10 ≠ []; decide, ?_, ?_⟩, ?_, rfl⟩
    · show ∀ b ∈ partsL 10, _
      rw [ep]
      intro b hb
      cases hb
    · rfl
    · simp only [RangeO]
      omega
  · have e : ofO b0 b1 b2 b3 = (⟨11, 0, 0, 0, 0, 0, ⟨#[]⟩⟩ : O) := by unfold ofO; rw [h]; rfl
    rw [e, h]
    have ep : partsL 11 = [] := by decide
    refine ⟨⟨by show kindW 11 ≠ []; decide, ?_, ?_⟩, ?_, rfl⟩
    · show ∀ b ∈ partsL 11, _
      rw [ep]
      intro b hb
      cases hb
    · rfl
    · simp only [RangeO]
      omega
  · have e : ofO b0 b1 b2 b3 = (⟨12, 0, 0, 0, 0, 0, ⟨#[]⟩⟩ : O) := by unfold ofO; rw [h]; rfl
    rw [e, h]
    have ep : partsL 12 = [] := by decide
    refine ⟨⟨by show kindW 12 ≠ []; decide, ?_, ?_⟩, ?_, rfl⟩
    · show ∀ b ∈ partsL 12, _
      rw [ep]
      intro b hb
      cases hb
    · rfl
    · simp only [RangeO]
      omega
theorem opK_may (l : List UInt8) (k : Nat) : MayO (opK l k) ∧ RangeO (opK l k) ∧ (opK l k).k = kindOf4 (byteN l (4 * k)) := ofO_may _ _ _ _ (byteN_lt _ _) (byteN_lt _ _)
theorem ofL_len (l : List UInt8) : (ofL l).length = l.length / 4 := by unfold ofL; simp
theorem ofL_get {l : List UInt8} {k : Nat} (h : k < l.length / 4) : (ofL l)[k]? = some (opK l k) := by
  unfold ofL
  rw [List.getElem?_map, List.getElem?_range h]
  rfl
theorem ofL_mem {l : List UInt8} {x : O} (h : x ∈ ofL l) : MayO x ∧ RangeO x := by
  unfold ofL at h
  obtain ⟨k, _, rfl⟩ := List.mem_map.1 h
  exact ⟨(opK_may l k).1, (opK_may l k).2.1⟩
theorem ofL_vals (l : List UInt8) : Vals (ofL l) := fun x hx => (ofL_mem hx).2
theorem ofL_fine {l : List UInt8} (h : l.length ≤ 6000) : Fine (ofL l) := ⟨by rw [ofL_len]; omega, fun x hx => (ofL_mem hx).1⟩
theorem ofL_app {a b : List UInt8} (h : a.length % 4 = 0) : ofL a ++ ofL b = ofL (a ++ b) := by
  apply List.ext_getElem?
  intro i
  have hl : (a ++ b).length / 4 = a.length / 4 + b.length / 4 := by rw [List.length_append]; omega
  by_cases hi : i < a.length / 4
  · rw [List.getElem?_append_left (by rw [ofL_len]; exact hi), ofL_get hi, ofL_get (by omega)]
    congr 1
    unfold opK byteN
    simp only [List.getD_eq_getElem?_getD]
    rw [List.getElem?_append_left (by omega), List.getElem?_append_left (by omega), List.getElem?_append_left (by omega), List.getElem?_append_left (by omega)]
  · rw [List.getElem?_append_right (by rw [ofL_len]; omega), ofL_len]
    by_cases hi2 : i - a.length / 4 < b.length / 4
    · rw [ofL_get hi2, ofL_get (by omega)]
      congr 1
      unfold opK byteN
      simp only [List.getD_eq_getElem?_getD]
      rw [List.getElem?_append_right (by omega), List.getElem?_append_right (by omega), List.getElem?_append_right (by omega), List.getElem?_append_right (by omega)]
      rw [show 4 * i - a.length = 4 * (i - a.length / 4) from by omega, show 4 * i + 1 - a.length = 4 * (i - a.length / 4) + 1 from by omega, show 4 * i + 2 - a.length = 4 * (i - a.length / 4) + 2 from by omega, show 4 * i + 3 - a.length = 4 * (i - a.length / 4) + 3 from by omega]
    · rw [List.getElem?_eq_none (by rw [ofL_len]; omega), List.getElem?_eq_none (by rw [ofL_len]; omega)]
end Go.Proofs.YtgefnicpkfcghaaDoor
