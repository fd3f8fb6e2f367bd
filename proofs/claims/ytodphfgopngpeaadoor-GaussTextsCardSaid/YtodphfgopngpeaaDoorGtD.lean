/-
  The document's digits of a number. No condition but the number's range.
-/
import Derived.Laws.IdiomStrings
import Derived.Test.YtodphfgopngpeaaDoorWords
import Derived.Test.YtodphfgopngpeaaDoorRowMem
import Derived.Test.YtodphfgopngpeaaDoorGp3
namespace Go.Proofs.YtodphfgopngpeaaDoor
open Go.RowKit
set_option linter.unusedVariables false
set_option linter.unusedSimpArgs false
attribute [local go_sem] Oper.semAt_some

def dgI (m : Nat) : ByteArray := ⟨#[UInt8.ofNat (48 + m % 10)]⟩
theorem dec_key (m : Nat) : Lib.decDigits m = (if m / 10 = 0 then [] else Lib.decDigits (m / 10)) ++ (dgI m).data.toList := by
  by_cases h : m < 10
  · rw [if_pos (by omega), Lib.decDigits_one h]
    unfold dgI
    rw [Nat.mod_eq_of_lt h]
    rfl
  · rw [if_neg (by omega), Lib.decDigits, dif_neg h]
    rfl
/-- s is N's last i digits, m is what is ahead of them. -/
def Beh (N m i : Nat) (s : ByteArray) : Prop := (i = 0 ∧ s.data.toList = [] ∧ m = N) ∨ (1 ≤ i ∧ s.data.toList.length = i ∧ Lib.decDigits N = (if m = 0 then [] else Lib.decDigits m) ++ s.data.toList)
theorem dgI_app (m : Nat) (s : ByteArray) : (dgI m ++ s).data.toList = (dgI m).data.toList ++ s.data.toList := by rw [ByteArray.data_append, Array.toList_append]
theorem beh_step {N m i : Nat} {s : ByteArray} (h : Beh N m i s) (hm : 0 < m ∨ i = 0) : Beh N (m / 10) (i + 1) (dgI m ++ s) := by
  right
  rw [dgI_app]
  rcases h with ⟨rfl, hs, rfl⟩ | ⟨h1, h2, h3⟩
  · refine ⟨by omega, by rw [hs]; rfl, ?_⟩
    rw [hs, List.append_nil]
    exact dec_key m
  · refine ⟨by omega, by rw [List.length_append, h2]; show 1 + i = i + 1; omega, ?_⟩
    rw [h3, if_neg (by omega), dec_key m, List.append_assoc]
theorem beh_end {N i : Nat} {s : ByteArray} (h : Beh N 0 i s) (hi : i ≠ 0) : s = ⟨(Lib.decDigits N).toArray⟩ := by
  rcases h with ⟨h0, _⟩ | ⟨_, _, h3⟩
  · exact absurd h0 hi
  · rw [if_pos rfl, List.nil_append] at h3
    exact ByteArray.ext (by rw [h3])
theorem dec_pos (m : Nat) : 1 ≤ (Lib.decDigits m).length := by
  rw [dec_key, List.length_append]
  show 1 ≤ _ + 1
  omega
theorem beh_lt {N m i : Nat} {s : ByteArray} (h : Beh N m i s) (hd : (Lib.decDigits N).length ≤ 19) : i ≤ 19 ∧ s.size = i ∧ (0 < m ∨ i = 0 → i < 19) := by
  have e : s.size = s.data.toList.length := by rw [Array.length_toList]; rfl
  rcases h with ⟨rfl, hs, rfl⟩ | ⟨h1, h2, h3⟩
  · rw [e, hs]
    exact ⟨by omega, rfl, fun _ => by omega⟩
  · rw [h3, List.length_append, h2] at hd
    refine ⟨by omega, by omega, fun h => ?_⟩
    have hp := dec_pos m
    rw [if_neg (by omega)] at hd
    omega
theorem dec_lenK {N : Nat} (h : N < 9223372036854775808) : (Lib.decDigits N).length ≤ 19 := by
  rw [Lib.decDigits_length]
  refine Classical.byContradiction fun hn => ?_
  have h1 : ∀ (k u : Nat), u < 10 ^ (k + 1) → Lib.nDigits u ≤ k + 1 := by
    intro k
    induction k with
    | zero => intro u hu; rw [Lib.nDigits_small (by simpa using hu)]; omega
    | succ k ih =>
      intro u hu
      by_cases hs : u < 10
      · rw [Lib.nDigits_small hs]; omega
      · rw [Lib.nDigits_big hs]
        have := ih (u / 10) (by rw [Nat.pow_succ] at hu; omega)
        omega
  have h2 := h1 18 N (by omega)
  omega
theorem one_dg (W : World) (x : Int) (m : Nat) (hx : x = ((48 + m % 10 : Nat) : Int)) : (convert 78 9 (.slice (some ⟨W.heap.size, 0, none⟩) 1 1)).run Tryd.prog (W.alloc (.cells #[.int .u8 x] 5)) = .ok (.string (dgI m)) (W.alloc (.cells #[.int .u8 x] 5)) := by
  have h := run_convert_bytes_back (P := Tryd.prog) (W.alloc (.cells #[.int .u8 x] 5)) 78 9 5 ⟨W.heap.size, 0, none⟩ 1 [UInt8.ofNat (48 + m % 10)] Tryd.underlying78 Tryd.underlying5 Tryd.underlying9 (fun j hj => by
    have hj0 : j = 0 := by simpa using hj
    subst hj0
    rw [add_eq]
    have hb := (Blk.new W 5 #[.int .u8 x]).cell 0
    rw [hx] at hb ⊢
    have hn : (UInt8.ofNat (48 + m % 10)).toNat = 48 + m % 10 := by
      rw [UInt8.toNat_ofNat']
      omega
    simp only [List.getElem_cons_zero, hn]
    exact hb)
  exact h

set_option maxRecDepth 100000 in
set_option maxHeartbeats 4000000 in
theorem refDig_nat {w : World} (N : Nat) (hN : N < 9223372036854775808) :
    Calls Tryd.prog 34 #[.int .i64 (N : Int)] w fun e w' => e = .returned (.string ⟨(Lib.decDigits N).toArray⟩) ∧ Below w.heap.size w w' := by
  have hN0 : ¬ (N : Int) < 0 := by omega
  have HDL := Lib.hid (dec_lenK hN)
  have hS : Hid (Beh N N 0 ⟨#[]⟩) := .inl ⟨rfl, rfl, rfl⟩
  have hb0 := Below.refl w.heap.size w
  go_enter Tryd.func34, Tryd.ntmps34
  go_wp2
  go_loopw [0, 3, 4] (fun u v x wr => ∃ (m i : Nat) (s : ByteArray), u = .int .i64 (m : Int) ∧ v = .string s ∧ x = .int .i64 (i : Int) ∧ Hid (Beh N m i s) ∧ m < 9223372036854775808 ∧ Below w.heap.size w wr) (fun _ _ x _ => 20 - (intOf x).toNat)
  case atStart => exact ⟨N, 0, ⟨#[]⟩, rfl, rfl, rfl, hS, hN, hb0⟩
  case round =>
    obtain ⟨m, i, s, rfl, rfl, rfl, hBe, hm, hB⟩ := hrel
    clear hS hb0 hN0
    obtain ⟨l1, l2, l3⟩ := beh_lt hBe.out HDL.out
    by_cases hg : 0 < m ∨ i = 0
    · have hi20 : (i : Int) < 20 := by have := l3 hg; omega
      have ht : (m : Int).tmod 10 = ((m % 10 : Nat) : Int) := by rw [Int.tmod_eq_emod_of_nonneg (by omega)]; omega
      have hcv := fun W => one_dg W (48 + (m : Int) % 10) m (by omega)
      have HST := Lib.hid (beh_step hBe.out hg)
      have hm0 : (0 : Int) ≤ (m : Int) := by omega
      have hm1 : (m : Int) ≤ 9223372036854775807 := by omega
      have hsz : (dgI m).size + s.size ≤ 9223372036854775807 := by
        have h2 : (dgI m).size = 1 := rfl
        omega
      have HB2 := Lib.hid (hB.alloc hB.size (.cells #[.int .u8 (48 + (m : Int) % 10)] 5))
      have HLT := Lib.hid (l3 hg)
      clear hB l3
      generalize dgI m = d at *
      by_cases hmp : 0 < m
      · have hmq : (0 : Int) < (m : Int) := by omega
        clear hg
        go_wp2
        go_roundw
        case rel => exact ⟨m / 10, i + 1, d ++ s, by go_num, rfl, by go_num, HST, by omega, HB2.out⟩
        case measure => simp [intOf]; have := HLT.out; omega
      · have hmq : ¬ (0 : Int) < (m : Int) := by omega
        have hse : s.toList.isEmpty = true := by
          have h0 : s.size = 0 := by omega
          have h1 : s = ⟨#[]⟩ := ByteArray.ext (by
            have : s.data.size = 0 := h0
            exact Array.eq_empty_of_size_eq_zero this)
          rw [h1, Lib.toList_data]; rfl
        clear hg
        go_wp2
        go_roundw
        case rel => exact ⟨m / 10, i + 1, d ++ s, by go_num, rfl, by go_num, HST, by omega, HB2.out⟩
        case measure => simp [intOf]; have := HLT.out; omega
    · have hm0 : m = 0 := by omega
      have hi0 : i ≠ 0 := by omega
      subst hm0
      have HE := Lib.hid (beh_end hBe.out hi0)
      have hse : s.toList.isEmpty = false := by
        rcases hBe.out with ⟨h0, _⟩ | ⟨h1, h2, _⟩
        · exact absurd h0 hi0
        · have : s.data.toList ≠ [] := by intro e; rw [e] at h2; simp at h2; omega
          rw [Lib.toList_data]
          cases hl : s.data.toList with
          | nil => exact absurd hl this
          | cons => rfl
      clear l3 hg
      by_cases hi20 : (i : Int) < 20
      · go_wp2
        go_ret
        exact ⟨by rw [HE.out]; rfl, hB⟩
      · go_wp2
        go_ret
        exact ⟨by rw [HE.out]; rfl, hB⟩

end Go.Proofs.YtodphfgopngpeaaDoor
