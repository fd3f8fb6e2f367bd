/-
  Lines of what is observed: a line says what it is the line of. Plain: no program in sight. No condition.
-/
import Derived.Test.YtpcaeggecojaeaaDoorTrD9
namespace Go.Proofs.YtpcaeggecojaeaaDoor
set_option linter.unusedVariables false
set_option linter.unusedSimpArgs false

theorem kindW_noBlank {k : Nat} : ∀ c ∈ kindW k, c ≠ 32 := by
  by_cases h : k < 5
  · rcases lt5 h with rfl | rfl | rfl | rfl | rfl <;> decide
  · unfold kindW
    rw [List.getD_eq_getElem?_getD, List.getElem?_eq_none (by simp [kindL]; omega)]
    simp
theorem kAt_kind {k : Nat} (h0 : 1 ≤ k) (h1 : k ≤ 4) : kAt (kindW k) 5 = k := by
  have h4 : k = 1 ∨ k = 2 ∨ k = 3 ∨ k = 4 := by omega
  rcases h4 with rfl | rfl | rfl | rfl <;> decide
theorem lineW_noBlank (x : S) : ∀ w ∈ lineW x, ∀ c ∈ w, c ≠ 32 := by
  intro w hw
  unfold lineW at hw
  split at hw
  · simp only [List.mem_cons, List.mem_nil_iff, or_false] at hw
    rcases hw with rfl | rfl | rfl | rfl
    · exact itoa_noBlank _
    · exact kindW_noBlank
    · exact itoa_noBlank _
    · exact dec_noBlank _
  · simp only [List.mem_cons, List.mem_nil_iff, or_false] at hw
    rcases hw with rfl | rfl | rfl
    · exact itoa_noBlank _
    · exact kindW_noBlank
    · exact dec_noBlank _
theorem pieces_line (x : S) : pieces (lineL x) = lineW x := pieces_glue _ (by unfold lineW; split <;> simp) (lineW_noBlank x)
theorem cand_line {x : S} (hm : May x) (h0 : 0 ≤ x.v) (hv : x.v ≤ 4294967295) : cand (lineL x) = x := by
  obtain ⟨p, k, c, v⟩ := x
  obtain ⟨p1, p2, k1, k2, hc1, hc2, hk3⟩ := hm
  simp only at *
  obtain ⟨n, rfl⟩ : ∃ n : Nat, k = n := ⟨k.toNat, by omega⟩
  obtain ⟨u, rfl⟩ : ∃ u : Nat, v = u := ⟨v.toNat, by omega⟩
  have hK : kAt (kindW n) 5 = n := kAt_kind (by omega) (by omega)
  by_cases hn : n = 1
  · have hL : lineW ⟨p, n, c, u⟩ = [Lib.itoa p, kindW n, Lib.itoa c, Lib.decDigits u] := lineW_one hn
    have hP := pieces_line ⟨p, n, c, u⟩
    rw [hL] at hP
    have hc := hc1 (by omega)
    unfold cand candK w0L w1L w2L wzL
    rw [hP]
    show (⟨atoiV (Lib.itoa p), kAt (kindW n) 5, if kAt (kindW n) 5 = 1 then atoiV (Lib.itoa c) else 0, uintV (Lib.decDigits u)⟩ : S) = _
    rw [hK, if_pos hn, atoiV_itoa (by omega) (by omega), atoiV_itoa (by omega) (by omega), uintV_dec (by omega)]
  · have hL : lineW ⟨p, n, c, u⟩ = [Lib.itoa p, kindW n, Lib.decDigits u] := lineW_two hn
    have hP := pieces_line ⟨p, n, c, u⟩
    rw [hL] at hP
    have hc := hc2 (by omega)
    unfold cand candK w0L w1L w2L wzL
    rw [hP]
    show (⟨atoiV (Lib.itoa p), kAt (kindW n) 5, if kAt (kindW n) 5 = 1 then _ else 0, uintV (Lib.decDigits u)⟩ : S) = _
    rw [hK, if_neg hn, atoiV_itoa (by omega) (by omega), uintV_dec (by omega), hc]
theorem lineW_three (x : S) : 3 ≤ (lineW x).length := by unfold lineW; split <;> simp
theorem read_line {x : S} (hm : May x) (h0 : 0 ≤ x.v) (hv : x.v ≤ 4294967295) : readL (lineL x) = some x := by
  have hc := cand_line hm h0 hv
  unfold readL
  rw [if_pos ⟨by rw [pieces_line]; exact lineW_three x, by rw [hc]; exact hm, by rw [hc]⟩, hc]
theorem read_some {s : List UInt8} {x : S} (h : readL s = some x) : May x ∧ lineL x = s ∧ 0 ≤ x.v ∧ x.v ≤ 4294967295 := by
  unfold readL at h
  split at h
  · rename_i hh
    injection h with h
    subst h
    exact ⟨hh.2.1, hh.2.2, uintV_range _⟩
  · cases h
/-- The line, reckoned. -/
def lineF (x : S) : List UInt8 := glue (if x.k = 1 then [itoaF x.p, kindW x.k.toNat, itoaF x.c, decF 20 x.v.toNat] else [itoaF x.p, kindW x.k.toNat, decF 20 x.v.toNat])
theorem lineF_eq {x : S} (hm : May x) (h0 : 0 ≤ x.v) (hv : x.v ≤ 4294967295) : lineF x = lineL x := by
  obtain ⟨p1, p2, k1, k2, hc1, hc2, hk3⟩ := hm
  unfold lineF lineL lineW
  rw [itoaF_eq (by omega) (by omega), decF_eq 20 _ (by omega) (by decide)]
  split
  · rename_i h
    have := hc1 h
    rw [itoaF_eq (by omega) (by omega)]
  · rfl
def readF (s : List UInt8) : Option S := if 3 ≤ (pieces s).length ∧ May (cand s) ∧ lineF (cand s) = s then some (cand s) else none
theorem readF_eq (s : List UInt8) : readF s = readL s := by
  unfold readF readL
  by_cases hm : May (cand s)
  · rw [lineF_eq hm (uintV_range _).1 (uintV_range _).2]
  · rw [if_neg (fun h => hm h.2.1), if_neg (fun h => hm h.2.1)]
end Go.Proofs.YtpcaeggecojaeaaDoor
