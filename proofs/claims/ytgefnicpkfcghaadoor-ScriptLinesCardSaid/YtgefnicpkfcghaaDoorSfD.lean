/-
  The document's digits of a number. No condition.
-/
import Derived.Laws.IdiomStrings
import Derived.Test.YtgefnicpkfcghaaDoorWords
import Derived.Test.YtgefnicpkfcghaaDoorRowMem
import Derived.Test.YtgefnicpkfcghaaDoorStr3
namespace Go.Proofs.YtgefnicpkfcghaaDoor
open Go.RowKit
set_option linter.unusedVariables false
set_option linter.unusedSimpArgs false

def dgB (m : Nat) : ByteArray := ⟨#[UInt8.ofNat (48 + m % 10)]⟩
/-- s is what of N's digits is behind those of the number m, but its last. -/
def Behind (N m : Nat) (s : ByteArray) : Prop := Lib.decDigits N = (if m < 10 then [] else Lib.decDigits (m / 10)) ++ s.data.toList
theorem behind_start (N : Nat) : Behind N N (dgB N) := by
  unfold Behind dgB
  by_cases h : N < 10
  · rw [if_pos h, Lib.decDigits_one h, Nat.mod_eq_of_lt h]
    rfl
  · rw [if_neg h, Lib.decDigits, dif_neg h]
theorem behind_step {N m : Nat} {s : ByteArray} (h : Behind N m s) (hm : ¬ m < 10) : Behind N (m / 10) (dgB (m / 10) ++ s) := by
  unfold Behind at *
  rw [if_neg hm] at h
  rw [h]
  have e : (dgB (m / 10) ++ s).data.toList = [UInt8.ofNat (48 + m / 10 % 10)] ++ s.data.toList := by
    rw [ByteArray.data_append, Array.toList_append]
    rfl
  rw [e]
  by_cases h2 : m / 10 < 10
  · rw [if_pos h2, Lib.decDigits_one h2, Nat.mod_eq_of_lt h2]
    rfl
  · rw [if_neg h2, Lib.decDigits, dif_neg h2]
    simp
theorem behind_end {N m : Nat} {s : ByteArray} (h : Behind N m s) (hm : m < 10) : s = ⟨(Lib.decDigits N).toArray⟩ := by
  unfold Behind at h
  rw [if_pos hm, List.nil_append] at h
  exact ByteArray.ext (by rw [h])

theorem one_digit (W : World) (x : Int) (m : Nat) (hx : x = ((48 + m % 10 : Nat) : Int)) : (convert 46 9 (.slice (some ⟨W.heap.size, 0, none⟩) 1 1)).run Tryd.prog (W.alloc (.cells #[.int .u8 x] 5)) = .ok (.string (dgB m)) (W.alloc (.cells #[.int .u8 x] 5)) := by
  have h := run_convert_bytes_back (P := Tryd.prog) (W.alloc (.cells #[.int .u8 x] 5)) 46 9 5 ⟨W.heap.size, 0, none⟩ 1 [UInt8.ofNat (48 + m % 10)] Tryd.underlying46 Tryd.underlying5 Tryd.underlying9 (fun j hj => by
    have hj0 : j = 0 := by simpa using hj
    subst hj0
    rw [add_eq]
    have hb := (Blk.new W 5 #[.int .u8 x]).cell 0
    rw [hx] at hb ⊢
    have hn : (UInt8.ofNat (48 + m % 10)).toNat = 48 + m % 10 := by
      rw [UInt8.toNat_ofNat']
      omega
    simp only [List.getElem_cons_zero, hn]
    exact hb)
  exact h

theorem behind_len {N m : Nat} {s : ByteArray} (h : Behind N m s) (hN : N < 18446744073709551616) : s.size ≤ 20 := by
  have h1 := dec_len hN
  unfold Behind at h
  rw [h, List.length_append] at h1
  have e : s.size = s.data.toList.length := by rw [Array.length_toList]; rfl
  omega

set_option maxRecDepth 100000 in
set_option maxHeartbeats 2000000 in
theorem refDigits_any {w : World} (N : Nat) (hN : N < 9223372036854775808) :
    Calls Tryd.prog 31 #[.int .i64 (N : Int)] w fun e w' => e = .returned (strV (Lib.decDigits N)) ∧ Below w.heap.size w w' := by
  have hS := behind_start N
  have hN0 : (0 : Int) ≤ (N : Int) := by omega
  have hN1 : (N : Int) ≤ 9223372036854775807 := by omega
  have ht : (N : Int).tmod 10 = ((N % 10 : Nat) : Int) := by rw [Int.tmod_eq_emod_of_nonneg (by omega)]; omega
  have hcv := fun W => one_digit W (48 + (N : Int) % 10) N (by omega)
  go_enter Tryd.func31, Tryd.ntmps31
  go_wp2
  clear hcv
  have hb0 := (Below.refl w.heap.size w).alloc (Nat.le_refl _) (.cells #[.int .u8 (48 + (N : Int) % 10)] 5)
  generalize w.alloc (.cells #[.int .u8 (48 + (N : Int) % 10)] 5) = W0 at *
  go_loopw [0, 3] (fun u v wr => ∃ (m : Nat) (s : ByteArray), u = .int .i64 (m : Int) ∧ v = .string s ∧ Hid (Behind N m s) ∧ m < 9223372036854775808 ∧ Below w.heap.size w wr) (fun u _ _ => (intOf u).toNat)
  case atStart => exact ⟨N, dgB N, rfl, rfl, hS, hN, hb0⟩
  case round =>
    obtain ⟨m, s, rfl, rfl, hBe, hm, hB⟩ := hrel
    clear hS hb0 ht
    by_cases h9 : m < 10
    · have hn9 : ¬ (9 : Int) < (m : Int) := by omega
      have HE := Lib.hid (behind_end hBe.out h9)
      go_wp2
      go_ret
      exact ⟨by rw [HE.out]; rfl, hB⟩
    · have hn9 : (9 : Int) < (m : Int) := by omega
      have hm0 : (0 : Int) ≤ (m : Int) := by omega
      have hm1 : (m : Int) ≤ 9223372036854775807 := by omega
      have hcv := fun W => one_digit W (48 + (m : Int) / 10 % 10) (m / 10) (by omega)
      have HST := Lib.hid (behind_step hBe.out h9)
      have hsz : (dgB (m / 10)).size + s.size ≤ 9223372036854775807 := by
        have h1 := behind_len hBe.out (by omega)
        have h2 : (dgB (m / 10)).size = 1 := rfl
        omega
      have hB2 := hB.alloc hB.size (.cells #[.int .u8 (48 + (m : Int) / 10 % 10)] 5)
      have HB2 := Lib.hid hB2
      clear hB2 hB
      generalize dgB (m / 10) = d at *
      go_wp2
      go_roundw
      case rel => exact ⟨m / 10, d ++ s, by go_num, rfl, HST, by omega, HB2.out⟩
      case measure => simp [intOf]; omega
end Go.Proofs.YtgefnicpkfcghaaDoor
