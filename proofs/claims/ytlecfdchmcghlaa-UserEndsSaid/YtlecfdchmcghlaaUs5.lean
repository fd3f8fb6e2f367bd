/-
  A text that was put is told, from each of its places on. Condition: none; no program.
-/
import Derived.Test.YtlecfdchmcghlaaUs3
namespace Go.Proofs.Ytlecfdchmcghlaa
open Go.RowKit Go.Shelf
set_option linter.unusedVariables false
set_option linter.unusedSimpArgs false

theorem strI_drop (s : ByteArray) (k : Nat) : strOfNums ((bI s).drop k) = s.extract k s.size := by
  have h : (strOfNums ((bI s).drop k)).data.toList = (s.extract k s.size).data.toList := by
    rw [strOfNums_data, ByteArray.data_extract, Array.toList_extract, List.extract_eq_take_drop, List.take_of_length_le (by rw [List.length_drop]; exact Nat.le_of_eq (by rfl))]
    unfold bI
    rw [List.map_drop, List.map_map]
    congr 1
    refine List.map_id'' (fun x => ?_) _
    show UInt8.ofNat ((x.toNat : Int)).toNat = x
    rw [Int.toNat_natCast]
    exact UInt8.ofNat_toNat
  have h2 : (strOfNums ((bI s).drop k)).data = (s.extract k s.size).data := Array.toList_inj.1 h
  cases hs : s.extract k s.size with
  | mk d =>
    rw [hs] at h2
    cases hx : strOfNums ((bI s).drop k) with
    | mk d' =>
      rw [hx] at h2
      simp only at h2
      rw [h2]
/-- A text without a nought. -/
theorem b0_in (s : ByteArray) (h : ¬ hasN s) (i : Nat) (hi : i < s.size) : (b0 s).getD i 0 = (bI s).getD i 0 ∧ (b0 s).getD i 0 ≠ 0 := by
  have hlt : i < (bI s).length := by rw [bI_len]; exact hi
  have h1 : (b0 s).getD i 0 = (bI s).getD i 0 := by
    unfold b0
    rw [List.getD_eq_getElem?_getD, List.getD_eq_getElem?_getD, List.getElem?_append_left hlt]
  refine ⟨h1, fun e => ?_⟩
  rw [h1] at e
  have hge := Lib.indexByte_ge s.data.toList 0
  unfold hasN at h
  have hn := Lib.indexByte_none (l := s.data.toList) (c := 0) (by omega) i
  have hi2 : i < s.data.toList.length := by rw [Array.length_toList]; exact hi
  rw [List.getElem?_eq_getElem hi2] at hn
  refine hn (congrArg some ?_)
  unfold bI at e
  rw [List.getD_eq_getElem?_getD, List.getElem?_map, List.getElem?_eq_getElem hi2] at e
  simp only [Option.map_some, Option.getD_some] at e
  exact UInt8.toNat_inj.1 (by simpa using e)
theorem b0_end (s : ByteArray) : (b0 s).getD s.size 0 = 0 := by
  unfold b0
  rw [List.getD_eq_getElem?_getD, List.getElem?_append_right (by rw [bI_len]; exact Nat.le_refl _), bI_len, Nat.sub_self]; rfl
section
variable {F : Fs} {m : M} {a : Nat} {s : ByteArray}
theorem put_ok (h0 : (putA F m a s).1 = 0) : ¬ hasN s ∧ s.size < 4096 ∧ putA F m a s = writeA F m a (b0 s) := by
  unfold putA at h0 ⊢
  by_cases h : hasN s ∨ 4096 ≤ s.size
  · rw [if_pos h] at h0; cases h0
  · rw [if_neg h]
    exact ⟨fun e => h (.inl e), by omega, rfl⟩
theorem put_told (hok : SpOk F m) (hF : F.Ok) (h0 : (putA F m a s).1 = 0) (i : Nat) (hi : i ≤ s.size) : byteP (putA F m a s).2.1 (putA F m a s).2.2 (a + i) = some ((b0 s).getD i 0) := by
  obtain ⟨hn, hs, he⟩ := put_ok h0
  rw [he] at h0 ⊢
  have hl := b0_len s
  unfold writeA at h0 ⊢
  by_cases hO : okB m a true (pcJ a (b0 s).length) = true
  · rw [if_pos hO] at h0 ⊢
    by_cases hf : freeN F < (needK F m a (pcJ a (b0 s).length) : Nat)
    · rw [if_pos hf] at h0; cases h0
    · rw [if_neg hf] at h0 ⊢
      have hOk := (okB_iff _ _ _ _).1 hO
      have hw := byte_write hok hF (a := a) (k := (b0 s).length) (bs := b0 s) (by omega) rfl hOk (by omega) (b0_low s) (a + i)
      simp only
      obtain ⟨x, hx, _⟩ := hOk ((a + i) / 64 - a / 64) (by
        unfold pcJ
        rw [if_neg (by omega)]
        omega)
      rw [show a / 64 + ((a + i) / 64 - a / 64) = (a + i) / 64 by omega] at hx
      obtain ⟨z, hz⟩ : ∃ z, byteP F m (a + i) = some z := by
        unfold byteP
        rw [hx]; exact ⟨_, rfl⟩
      rw [hw, hz, Option.map_some, if_pos (by omega), Nat.add_sub_cancel_left]
  · rw [if_neg hO] at h0; cases h0
theorem it_put (hok : SpOk F m) (hF : F.Ok) (h0 : (putA F m a s).1 = 0) {k : Nat} (hk : k ≤ s.size) (ha : a + k < 4096) (i : Nat) (hi : k + i ≤ s.size) : itF (putA F m a s).2.1 (putA F m a s).2.2 (a + k) i = ((b0 s).getD (k + i) 0, true) := by
  unfold itF
  rw [if_pos ha, Nat.add_assoc, put_told hok hF h0 (k + i) hi]; rfl
theorem text_put (hok : SpOk F m) (hF : F.Ok) (h0 : (putA F m a s).1 = 0) {k : Nat} (hk : k ≤ s.size) (ha : a + k < 4096) (n : Nat) :
    textP (putA F m a s).2.1 (putA F m a s).2.2 (a + k) (s.size - k + n) = if n = 0 then ([], 22) else ((bI s).drop k, 0) := by
  obtain ⟨hn, _, _⟩ := put_ok h0
  unfold textP
  rw [textG_skip _ (s.size - k) n 0 [] (fun i hi => by
    rw [Nat.zero_add, it_put hok hF h0 hk ha i (by omega)]
    exact ⟨rfl, (b0_in s hn (k + i) (by omega)).2⟩)]
  cases n with
  | zero => rfl
  | succ n =>
    rw [if_neg (by omega), textG, Nat.zero_add, it_put hok hF h0 hk ha (s.size - k) (by omega), if_neg (fun e => Bool.noConfusion e), show k + (s.size - k) = s.size by omega, if_pos (b0_end s), List.nil_append]
    congr 1
    refine List.ext_getElem? fun i => ?_
    rw [List.getElem?_map, List.getElem?_drop]
    by_cases hi : i < s.size - k
    · rw [List.getElem?_range hi, Option.map_some, Nat.zero_add, it_put hok hF h0 hk ha i (by omega), (b0_in s hn (k + i) (by omega)).1, List.getD_eq_getElem?_getD]
      rw [List.getElem?_eq_getElem (by rw [bI_len]; omega)]; rfl
    · rw [List.getElem?_eq_none (by rw [List.length_range]; omega), List.getElem?_eq_none (by rw [bI_len]; omega)]; rfl
end
end Go.Proofs.Ytlecfdchmcghlaa
