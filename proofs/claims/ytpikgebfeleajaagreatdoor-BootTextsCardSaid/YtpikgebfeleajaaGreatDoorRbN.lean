/-
  The document's number of a line. No condition but the line's length.
-/
import Derived.Laws.IdiomStrings
import Derived.Test.YtpikgebfeleajaaGreatDoorWords
import Derived.Test.YtpikgebfeleajaaGreatDoorRowMem
import Derived.Test.YtpikgebfeleajaaGreatDoorStr3
import Derived.Test.YtpikgebfeleajaaGreatDoorBoW
import Derived.Lib.ItoaMem
namespace Go.Proofs.YtpikgebfeleajaaGreatDoor
section
open Go.RowKit
set_option linter.unusedVariables false
set_option linter.unusedSimpArgs false

def dgB (m : Nat) : ByteArray := ⟨#[UInt8.ofNat (48 + m % 10)]⟩
/-- s is what of N's digits is behind those of the number m, but its last. -/
def Behind (N m : Nat) (s : ByteArray) : Prop := Lib.decDigits N = (if m < 10 then [] else Lib.decDigits (m / 10)) ++ s.data.toList
theorem behind_start (N : Nat) : Behind N N (dgB N) := by
  unfold Behind dgB
  by_cases h : N < 10
  · rw [if_pos h, Lib.decDigits_one h, Nat.mod_eq_of_lt h]
    rfl
  · rw [if_neg h, Lib.decDigits, dif_neg h]
theorem behind_step {N m : Nat} {s : ByteArray} (h : Behind N m s) (hm : ¬ m < 10) : Behind N (m / 10) (dgB (m / 10) ++ s) := by
  unfold Behind at *
  rw [if_neg hm] at h
  rw [h]
  have e : (dgB (m / 10) ++ s).data.toList = [UInt8.ofNat (48 + m / 10 % 10)] ++ s.data.toList := by
    rw [ByteArray.data_append, Array.toList_append]
    rfl
  rw [e]
  by_cases h2 : m / 10 < 10
  · rw [if_pos h2, Lib.decDigits_one h2, Nat.mod_eq_of_lt h2]
    rfl
  · rw [if_neg h2, Lib.decDigits, dif_neg h2]
    simp
theorem behind_end {N m : Nat} {s : ByteArray} (h : Behind N m s) (hm : m < 10) : s = ⟨(Lib.decDigits N).toArray⟩ := by
  unfold Behind at h
  rw [if_pos hm, List.nil_append] at h
  exact ByteArray.ext (by rw [h])

theorem one_digit (W : World) (x : Int) (m : Nat) (hx : x = ((48 + m % 10 : Nat) : Int)) : (convert 39 9 (.slice (some ⟨W.heap.size, 0, none⟩) 1 1)).run Tryz.prog (W.alloc (.cells #[.int .u8 x] 5)) = .ok (.string (dgB m)) (W.alloc (.cells #[.int .u8 x] 5)) := by
  have h := run_convert_bytes_back (P := Tryz.prog) (W.alloc (.cells #[.int .u8 x] 5)) 39 9 5 ⟨W.heap.size, 0, none⟩ 1 [UInt8.ofNat (48 + m % 10)] Tryz.underlying39 Tryz.underlying5 Tryz.underlying9 (fun j hj => by
    have hj0 : j = 0 := by simpa using hj
    subst hj0
    rw [add_eq]
    have hb := (Blk.new W 5 #[.int .u8 x]).cell 0
    rw [hx] at hb ⊢
    have hn : (UInt8.ofNat (48 + m % 10)).toNat = 48 + m % 10 := by
      rw [UInt8.toNat_ofNat']
      omega
    simp only [List.getElem_cons_zero, hn]
    exact hb)
  exact h

theorem behind_len {N m : Nat} {s : ByteArray} (h : Behind N m s) (hN : N < 18446744073709551616) : s.size ≤ 20 := by
  have h1 := dec_len hN
  unfold Behind at h
  rw [h, List.length_append] at h1
  have e : s.size = s.data.toList.length := by rw [Array.length_toList]; rfl
  omega

set_option maxRecDepth 100000 in
set_option maxHeartbeats 2000000 in
theorem refDigits_any {w : World} (N : Nat) (hN : N < 9223372036854775808) :
    Calls Tryz.prog 25 #[.int .i64 (N : Int)] w fun e w' => e = .returned (strV (Lib.decDigits N)) ∧ Below w.heap.size w w' := by
  have hS := behind_start N
  have hN0 : (0 : Int) ≤ (N : Int) := by omega
  have hN1 : (N : Int) ≤ 9223372036854775807 := by omega
  have ht : (N : Int).tmod 10 = ((N % 10 : Nat) : Int) := by rw [Int.tmod_eq_emod_of_nonneg (by omega)]; omega
  have hcv := fun W => one_digit W (48 + (N : Int) % 10) N (by omega)
  go_enter Tryz.func25, Tryz.ntmps25
  go_wp2
  clear hcv
  have hb0 := (Below.refl w.heap.size w).alloc (Nat.le_refl _) (.cells #[.int .u8 (48 + (N : Int) % 10)] 5)
  generalize w.alloc (.cells #[.int .u8 (48 + (N : Int) % 10)] 5) = W0 at *
  go_loopw [0, 3] (fun u v wr => ∃ (m : Nat) (s : ByteArray), u = .int .i64 (m : Int) ∧ v = .string s ∧ Hid (Behind N m s) ∧ m < 9223372036854775808 ∧ Below w.heap.size w wr) (fun u _ _ => (intOf u).toNat)
  case atStart => exact ⟨N, dgB N, rfl, rfl, hS, hN, hb0⟩
  case round =>
    obtain ⟨m, s, rfl, rfl, hBe, hm, hB⟩ := hrel
    clear hS hb0 ht
    by_cases h9 : m < 10
    · have hn9 : ¬ (9 : Int) < (m : Int) := by omega
      have HE := Lib.hid (behind_end hBe.out h9)
      go_wp2
      go_ret
      exact ⟨by rw [HE.out]; rfl, hB⟩
    · have hn9 : (9 : Int) < (m : Int) := by omega
      have hm0 : (0 : Int) ≤ (m : Int) := by omega
      have hm1 : (m : Int) ≤ 9223372036854775807 := by omega
      have hcv := fun W => one_digit W (48 + (m : Int) / 10 % 10) (m / 10) (by omega)
      have HST := Lib.hid (behind_step hBe.out h9)
      have hsz : (dgB (m / 10)).size + s.size ≤ 9223372036854775807 := by
        have h1 := behind_len hBe.out (by omega)
        have h2 : (dgB (m / 10)).size = 1 := rfl
        omega
      have hB2 := hB.alloc hB.size (.cells #[.int .u8 (48 + (m : Int) / 10 % 10)] 5)
      have HB2 := Lib.hid hB2
      clear hB2 hB
      generalize dgB (m / 10) = d at *
      go_wp2
      go_roundw
      case rel => exact ⟨m / 10, d ++ s, by go_num, rfl, HST, by omega, HB2.out⟩
      case measure => simp [intOf]; omega
end
end Go.Proofs.YtpikgebfeleajaaGreatDoor
namespace Go.Proofs.YtpikgebfeleajaaGreatDoor
section
open Go.RowKit
set_option linter.unusedVariables false
set_option linter.unusedSimpArgs false
attribute [local go_sem] Oper.semAt_some

/-- The number of a line that begins with the k-th word; 0: it is none. -/
def numR (k : Nat) (s : List UInt8) : Int := if NumOk k s then numV k s else 0
theorem numR_yes {k : Nat} {n : Int} (h1 : 1 ≤ n) (h2 : n ≤ mB' k) : numR k (lineB k n) = n := by
  obtain ⟨h3, h4⟩ := num_line h1 h2
  unfold numR
  rw [if_pos h3, h4]
theorem numR_no {k : Nat} {s : List UInt8} (h : ∀ i : Nat, 1 ≤ i → (i : Int) ≤ mB' k → s ≠ lineB k (i : Int)) : numR k s = 0 := by
  unfold numR
  rw [if_neg]
  intro hn
  have h1 := num_back hn
  obtain ⟨_, _, _, h3, h4⟩ := hn
  obtain ⟨i, hi⟩ := Int.eq_ofNat_of_zero_le (show 0 ≤ numV k s by omega)
  rw [hi] at h1 h3 h4
  exact h i (by omega) h4 h1

set_option maxRecDepth 100000 in
set_option maxHeartbeats 4000000 in
theorem refNumber_any {w : World} {k : Nat} (hk : k < 4) (s : ByteArray) (hs : s.size ≤ 1000000) :
    Calls Tryz.prog 29 #[.string s, .string (wS k), .int .i64 (mB' k)] w fun e w' => e = .returned (.int .i64 (numR k s.data.toList)) ∧ Below w.heap.size w w' := by
  have hwl : (wS k).size ≤ 6 := wS_len ⟨k, hk⟩
  obtain ⟨M, hM⟩ := Int.eq_ofNat_of_zero_le (mB_le k).1
  have hM2 : M ≤ 256 := by have := (mB_le k).2; omega
  obtain ⟨R, hR⟩ : ∃ R, numR k s.data.toList = R := ⟨_, rfl⟩
  have HYES := Lib.hid (fun (j : Nat) (h1 : 1 ≤ j) (h2 : j ≤ M) (d : ByteArray) (hd : d.data.toList = Lib.decDigits j) (h : s = wS k ++ ⟨#[32]⟩ ++ d) => show R = (j : Int) from by
    rw [← hR]
    have e : s.data.toList = lineB k (j : Int) := by
      rw [h, ByteArray.data_append, Array.toList_append, ByteArray.data_append, Array.toList_append, hd]
      unfold lineB
      rw [Lib.itoa_nonneg]
      show wB k ++ [32] ++ _ = _
      simp
    rw [e]
    exact numR_yes (by omega) (by omega))
  have HNO := Lib.hid (fun (h : ∀ i : Nat, 1 ≤ i → i < M + 1 → s.data.toList ≠ lineB k (i : Int)) => show R = 0 from by
    rw [← hR]
    exact numR_no fun i h1 h2 => h i h1 (by omega))
  have HNE := Lib.hid (fun (j : Nat) (d : ByteArray) (hd : d.data.toList = Lib.decDigits j) (h : ¬ s = wS k ++ ⟨#[32]⟩ ++ d) => show s.data.toList ≠ lineB k (j : Int) from fun e => h (by
    refine I.bytes_eq ?_
    rw [e, ByteArray.data_append, Array.toList_append, ByteArray.data_append, Array.toList_append, hd]
    unfold lineB
    rw [Lib.itoa_nonneg]
    show _ = wB k ++ [32] ++ _
    simp))
  rw [hM, hR]
  clear hR hM
  obtain ⟨ws, hws⟩ : ∃ ws, wS k = ws := ⟨_, rfl⟩
  rw [hws] at hwl HYES HNE ⊢
  clear hws
  have HD := Lib.hid (fun (j : Nat) (hj : j ≤ 256) => show ∃ d : ByteArray, d.data.toList = Lib.decDigits j ∧ d.size ≤ 20 ∧ ∀ W, Calls Tryz.prog 25 #[.int .i64 (j : Int)] W fun e w' => e = .returned (.string d) ∧ Below W.heap.size W w' from
    ⟨⟨(Lib.decDigits j).toArray⟩, rfl, by
      have := dec_len (u := j) (by omega)
      show (Lib.decDigits j).toArray.size ≤ 20
      simpa using this, fun W => refDigits_any j (by omega)⟩)
  have hb0 := Below.refl w.heap.size w
  go_enter Tryz.func29, Tryz.ntmps29
  go_wp2
  go_loopw [7] (fun i wr => ∃ j : Nat, i = .int .i64 (j : Int) ∧ 1 ≤ j ∧ j ≤ M + 1 ∧ Hid (∀ i : Nat, 1 ≤ i → i < j → s.data.toList ≠ lineB k (i : Int)) ∧ Below w.heap.size w wr) (fun i _ => M + 1 - (intOf i).toNat)
  case atStart => exact ⟨1, rfl, Nat.le_refl _, by omega, fun i h1 h2 => absurd h1 (by omega), hb0⟩
  case round =>
    obtain ⟨j, rfl, hj1, hj2, HI, hB⟩ := hrel
    clear hb0
    by_cases hjM : j ≤ M
    · have hja : (j : Int) ≤ (M : Int) := by omega
      obtain ⟨d, hd, hdz, hcd⟩ := HD.out j (by omega)
      have HY := Lib.hid (HYES.out j hj1 hjM d hd)
      have HN := Lib.hid (HNE.out j d hd)
      have HC := Lib.hid hcd
      have q1 : ¬ 9223372036854775807 < ws.size + 1 := by omega
      have q2 : ¬ 9223372036854775807 < ws.size + 1 + d.size := by omega
      clear hd hcd HYES HNE HD HNO
      go_wp2_with fail
      refine (HC.out _).mono ?_
      rintro e W1 ⟨rfl, hb1⟩
      have HB1 := Lib.hid (hB.trans (hb1.mono hB.size))
      clear hb1 hB
      by_cases heq : s = ws ++ ⟨#[32]⟩ ++ d
      · have he := HY.out heq
        have hb : (s.toList == (ws ++ ⟨#[32]⟩ ++ d).toList) = true := by rw [← heq]; simp
        have HE := Lib.hid he
        clear he heq
        go_wp2
        go_ret
        exact ⟨by rw [HE.out]; rfl, HB1.out⟩
      · have hb : (s.toList == (ws ++ ⟨#[32]⟩ ++ d).toList) = false := by
          rw [beq_eq_false_iff_ne]
          intro h
          rw [Lib.toList_data, Lib.toList_data] at h
          exact heq (I.bytes_eq h)
        have HNN := Lib.hid (HN.out heq)
        clear heq
        go_wp2
        go_roundw
        case rel => exact ⟨j + 1, by go_num, by omega, by omega, fun i h1 h2 => by
          rcases Nat.lt_or_ge i j with h | h
          · exact HI.out i h1 h
          · have : i = j := by omega
            subst this
            exact HNN.out, HB1.out⟩
        case measure => simp [intOf]; omega
    · have hjj : j = M + 1 := by omega
      subst hjj
      have HR := Lib.hid (HNO.out HI.out)
      clear HYES HNE HD HNO
      go_wp2
      go_ret
      exact ⟨by rw [HR.out]; rfl, hB⟩
end
end Go.Proofs.YtpikgebfeleajaaGreatDoor
