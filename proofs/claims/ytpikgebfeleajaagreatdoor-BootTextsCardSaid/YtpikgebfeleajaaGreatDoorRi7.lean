/-
  The document's number of a word, and names. No condition but the length.
-/
import Derived.Laws.IdiomStrings
import Derived.Test.YtpikgebfeleajaaGreatDoorWords
import Derived.Test.YtpikgebfeleajaaGreatDoorRowMem
import Derived.Test.YtpikgebfeleajaaGreatDoorStr3
import Derived.Test.YtpikgebfeleajaaGreatDoorIs4
namespace Go.Proofs.YtpikgebfeleajaaGreatDoor.I
section
open Go.RowKit
set_option linter.unusedVariables false
set_option linter.unusedSimpArgs false
attribute [local go_sem] Oper.semAt_some

def dgI (m : Nat) : ByteArray := ⟨#[UInt8.ofNat (48 + m % 10)]⟩
theorem dec_key (m : Nat) : Lib.decDigits m = (if m / 10 = 0 then [] else Lib.decDigits (m / 10)) ++ (dgI m).data.toList := by
  by_cases h : m < 10
  · rw [if_pos (by omega), Lib.decDigits_one h]
    unfold dgI
    rw [Nat.mod_eq_of_lt h]
    rfl
  · rw [if_neg (by omega), Lib.decDigits, dif_neg h]
    rfl
/-- s is N's last i digits, m is what is ahead of them. -/
def Beh (N m i : Nat) (s : ByteArray) : Prop := (i = 0 ∧ s.data.toList = [] ∧ m = N) ∨ (1 ≤ i ∧ s.data.toList.length = i ∧ Lib.decDigits N = (if m = 0 then [] else Lib.decDigits m) ++ s.data.toList)
theorem dgI_app (m : Nat) (s : ByteArray) : (dgI m ++ s).data.toList = (dgI m).data.toList ++ s.data.toList := by rw [ByteArray.data_append, Array.toList_append]
theorem beh_step {N m i : Nat} {s : ByteArray} (h : Beh N m i s) (hm : 0 < m ∨ i = 0) : Beh N (m / 10) (i + 1) (dgI m ++ s) := by
  right
  rw [dgI_app]
  rcases h with ⟨rfl, hs, rfl⟩ | ⟨h1, h2, h3⟩
  · refine ⟨by omega, by rw [hs]; rfl, ?_⟩
    rw [hs, List.append_nil]
    exact dec_key m
  · refine ⟨by omega, by rw [List.length_append, h2]; show 1 + i = i + 1; omega, ?_⟩
    rw [h3, if_neg (by omega), dec_key m, List.append_assoc]
theorem beh_end {N i : Nat} {s : ByteArray} (h : Beh N 0 i s) (hi : i ≠ 0) : s = ⟨(Lib.decDigits N).toArray⟩ := by
  rcases h with ⟨h0, _⟩ | ⟨_, _, h3⟩
  · exact absurd h0 hi
  · rw [if_pos rfl, List.nil_append] at h3
    exact ByteArray.ext (by rw [h3])
theorem dec_pos (m : Nat) : 1 ≤ (Lib.decDigits m).length := by
  rw [dec_key, List.length_append]
  show 1 ≤ _ + 1
  omega
theorem beh_lt {N m i : Nat} {s : ByteArray} (h : Beh N m i s) (hN : N < 18446744073709551616) : i ≤ 20 ∧ s.size = i ∧ (0 < m ∨ i = 0 → i < 20) := by
  have hd := dec_len hN
  have e : s.size = s.data.toList.length := by rw [Array.length_toList]; rfl
  rcases h with ⟨rfl, hs, rfl⟩ | ⟨h1, h2, h3⟩
  · rw [e, hs]
    exact ⟨by omega, rfl, fun _ => by omega⟩
  · rw [h3, List.length_append, h2] at hd
    refine ⟨by omega, by omega, fun h => ?_⟩
    have hp := dec_pos m
    rw [if_neg (by omega)] at hd
    omega
theorem one_dg (W : World) (x : Int) (m : Nat) (hx : x = ((48 + m % 10 : Nat) : Int)) : (convert 39 9 (.slice (some ⟨W.heap.size, 0, none⟩) 1 1)).run Tryz.prog (W.alloc (.cells #[.int .u8 x] 5)) = .ok (.string (dgI m)) (W.alloc (.cells #[.int .u8 x] 5)) := by
  have h := run_convert_bytes_back (P := Tryz.prog) (W.alloc (.cells #[.int .u8 x] 5)) 39 9 5 ⟨W.heap.size, 0, none⟩ 1 [UInt8.ofNat (48 + m % 10)] Tryz.underlying39 Tryz.underlying5 Tryz.underlying9 (fun j hj => by
    have hj0 : j = 0 := by simpa using hj
    subst hj0
    rw [add_eq]
    have hb := (Blk.new W 5 #[.int .u8 x]).cell 0
    rw [hx] at hb ⊢
    have hn : (UInt8.ofNat (48 + m % 10)).toNat = 48 + m % 10 := by
      rw [UInt8.toNat_ofNat']
      omega
    simp only [List.getElem_cons_zero, hn]
    exact hb)
  exact h

set_option maxRecDepth 100000 in
set_option maxHeartbeats 4000000 in
theorem refDig_nat {w : World} (N : Nat) (hN : N < 9223372036854775808) :
    Calls Tryz.prog 48 #[.int .i64 (N : Int)] w fun e w' => e = .returned (.string ⟨(Lib.decDigits N).toArray⟩) ∧ Below w.heap.size w w' := by
  have hN0 : ¬ (N : Int) < 0 := by omega
  have hS : Hid (Beh N N 0 ⟨#[]⟩) := .inl ⟨rfl, rfl, rfl⟩
  have hb0 := Below.refl w.heap.size w
  go_enter Tryz.func48, Tryz.ntmps48
  go_wp2
  go_loopw [0, 3, 4] (fun u v x wr => ∃ (m i : Nat) (s : ByteArray), u = .int .i64 (m : Int) ∧ v = .string s ∧ x = .int .i64 (i : Int) ∧ Hid (Beh N m i s) ∧ m < 9223372036854775808 ∧ Below w.heap.size w wr) (fun _ _ x _ => 20 - (intOf x).toNat)
  case atStart => exact ⟨N, 0, ⟨#[]⟩, rfl, rfl, rfl, hS, hN, hb0⟩
  case round =>
    obtain ⟨m, i, s, rfl, rfl, rfl, hBe, hm, hB⟩ := hrel
    clear hS hb0 hN0
    obtain ⟨l1, l2, l3⟩ := beh_lt hBe.out (by omega)
    by_cases hg : 0 < m ∨ i = 0
    · have hi20 : (i : Int) < 20 := by have := l3 hg; omega
      have ht : (m : Int).tmod 10 = ((m % 10 : Nat) : Int) := by rw [Int.tmod_eq_emod_of_nonneg (by omega)]; omega
      have hcv := fun W => one_dg W (48 + (m : Int) % 10) m (by omega)
      have HST := Lib.hid (beh_step hBe.out hg)
      have hm0 : (0 : Int) ≤ (m : Int) := by omega
      have hm1 : (m : Int) ≤ 9223372036854775807 := by omega
      have hsz : (dgI m).size + s.size ≤ 9223372036854775807 := by
        have h2 : (dgI m).size = 1 := rfl
        omega
      have HB2 := Lib.hid (hB.alloc hB.size (.cells #[.int .u8 (48 + (m : Int) % 10)] 5))
      have HLT := Lib.hid (l3 hg)
      clear hB l3
      generalize dgI m = d at *
      by_cases hmp : 0 < m
      · have hmq : (0 : Int) < (m : Int) := by omega
        clear hg
        go_wp2
        go_roundw
        case rel => exact ⟨m / 10, i + 1, d ++ s, by go_num, rfl, by go_num, HST, by omega, HB2.out⟩
        case measure => simp [intOf]; have := HLT.out; omega
      · have hmq : ¬ (0 : Int) < (m : Int) := by omega
        have hse : s.toList.isEmpty = true := by
          have h0 : s.size = 0 := by omega
          have h1 : s = ⟨#[]⟩ := ByteArray.ext (by
            have : s.data.size = 0 := h0
            exact Array.eq_empty_of_size_eq_zero this)
          rw [h1, Lib.toList_data]; rfl
        clear hg
        go_wp2
        go_roundw
        case rel => exact ⟨m / 10, i + 1, d ++ s, by go_num, rfl, by go_num, HST, by omega, HB2.out⟩
        case measure => simp [intOf]; have := HLT.out; omega
    · have hm0 : m = 0 := by omega
      have hi0 : i ≠ 0 := by omega
      subst hm0
      have HE := Lib.hid (beh_end hBe.out hi0)
      have hse : s.toList.isEmpty = false := by
        rcases hBe.out with ⟨h0, _⟩ | ⟨h1, h2, _⟩
        · exact absurd h0 hi0
        · have : s.data.toList ≠ [] := by intro e; rw [e] at h2; simp at h2; omega
          rw [Lib.toList_data]
          cases hl : s.data.toList with
          | nil => exact absurd hl this
          | cons => rfl
      clear l3 hg
      by_cases hi20 : (i : Int) < 20
      · go_wp2
        go_ret
        exact ⟨by rw [HE.out]; rfl, hB⟩
      · go_wp2
        go_ret
        exact ⟨by rw [HE.out]; rfl, hB⟩

set_option maxHeartbeats 2000000 in
theorem refDig_any {w : World} (n : Int) (h0 : -9223372036854775808 < n) (h1 : n ≤ 9223372036854775807) :
    Calls Tryz.prog 48 #[.int .i64 n] w fun e w' => e = .returned (.string ⟨(Lib.itoa n).toArray⟩) ∧ Below w.heap.size w w' := by
  by_cases hn : n < 0
  · obtain ⟨u, rfl⟩ : ∃ u : Nat, n = -(u : Int) := ⟨n.natAbs, by omega⟩
    have H := Lib.hid (fun W => refDig_nat (w := W) u (by omega))
    have hz : (⟨(Lib.decDigits u).toArray⟩ : ByteArray).size ≤ 20 := by
      show (Lib.decDigits u).toArray.size ≤ _
      rw [List.size_toArray]
      exact dec_len (by omega)
    have HE := Lib.hid (show (⟨#[45]⟩ : ByteArray) ++ ⟨(Lib.decDigits u).toArray⟩ = ⟨(Lib.itoa (-(u : Int))).toArray⟩ from by
      rw [Lib.itoa_neg u (by omega)]
      exact ByteArray.ext (by rw [ByteArray.data_append]; simp))
    have hw : wrap64 (- -(u : Int)) = (u : Int) := by simp only [wrap64]; omega
    generalize (⟨(Lib.decDigits u).toArray⟩ : ByteArray) = D at *
    generalize (⟨(Lib.itoa (-(u : Int))).toArray⟩ : ByteArray) = E at *
    have hcat : 1 + D.size ≤ 9223372036854775807 := by omega
    have hu : (u : Int) ≤ 9223372036854775807 := by omega
    go_enter Tryz.func48, Tryz.ntmps48
    go_wp2_with fail
    refine (H.out _).mono ?_
    rintro e W1 ⟨rfl, hb1⟩
    have HB1 := Lib.hid hb1
    clear hb1
    go_wp2
    go_ret
    exact ⟨by rw [HE.out]; rfl, HB1.out⟩
  · obtain ⟨u, rfl⟩ := Int.eq_ofNat_of_zero_le (show 0 ≤ n by omega)
    rw [Lib.itoa_nonneg]
    exact refDig_nat u (by omega)
end
end Go.Proofs.YtpikgebfeleajaaGreatDoor.I
namespace Go.Proofs.YtpikgebfeleajaaGreatDoor.I
section
open Go.RowKit
set_option linter.unusedVariables false
set_option linter.unusedSimpArgs false
attribute [local go_sem] Oper.semAt_some

theorem num_long {l : List UInt8} (h : 10 < l.length) : numN l = 0 ∧ numB l = false := by
  refine ⟨if_pos h, ?_⟩
  unfold numB
  rw [decide_eq_false (by omega : ¬ l.length ≤ 10)]
  rfl
theorem num_short {l : List UInt8} (h : bodyS l = []) : numN l = 0 ∧ numB l = false := by
  have hl : l.length ≤ 1 ∧ l ≠ [48] := by
    unfold bodyS at h
    cases l with
    | nil => simp
    | cons c r =>
      unfold negS at h
      by_cases hc : c = 45
      · subst hc
        simp at h
        subst h
        decide
      · simp [hc] at h
  have hn : numN l = 0 := by
    unfold numN
    rw [if_neg (by omega), h]
    simp [accD]
  refine ⟨hn, ?_⟩
  unfold numB
  have h0 : decide (itoaF 0 = l) = false := decide_eq_false (fun e => hl.2 (e.symm.trans (by decide +kernel)))
  rw [hn, h0]
  simp
theorem neg_at (s : ByteArray) (h : 0 < s.size) : negS s.data.toList = decide (s[0] = 45) := by
  have e : s.data.toList = s[0] :: s.data.toList.drop 1 := by
    have := drop_at s h
    rw [List.drop_zero] at this
    exact this
  rw [e]
  rfl
theorem body_len (s : ByteArray) : (bodyS s.data.toList = [] ↔ s.size = if negS s.data.toList then 1 else 0) := by
  have e : s.data.toList.length = s.size := rfl
  unfold bodyS
  by_cases h : negS s.data.toList = true
  · rw [if_pos h, if_pos h, ← e]
    cases hl : s.data.toList with
    | nil => rw [hl] at h; cases h
    | cons c r => simp
  · rw [if_neg h, if_neg h, ← e]
    exact List.length_eq_zero_iff.symm

set_option maxRecDepth 100000 in
set_option maxHeartbeats 8000000 in
theorem refNumber_any {w : World} (s : ByteArray) (hs : s.size ≤ 1000000) : Calls Tryz.prog 58 #[.string s] w fun e w' => e = .returned (.tuple #[.int .i64 (numN s.data.toList), .bool (numB s.data.toList)]) ∧ Below w.heap.size w w' := by
  have hsl : s.data.toList.length = s.size := rfl
  have hb0 := Below.refl w.heap.size w
  by_cases hz : s.size = 0
  · have hq := num_short (l := s.data.toList) (by rw [body_len]; have : s.data.toList = [] := List.eq_nil_of_length_eq_zero (by omega); rw [this]; exact hz)
    rw [hq.1, hq.2]
    have h1 : ¬ (0 : Int) < (s.size : Int) := by omega
    have h2 : ((s.size : Int) == 0) = true := by rw [beq_iff_eq]; omega
    clear hq hsl
    go_enter Tryz.func58, Tryz.ntmps58
    go_wp2
    go_ret2
    exact ⟨rfl, hb0⟩
  · have hz0 : 0 < s.size := by omega
    have h1 : (0 : Int) < (s.size : Int) := by omega
    have hng := neg_at s hz0
    have hbl := body_len s
    have HD := Lib.hid (fun W (n : Int) (h0 : -9223372036854775808 < n) (h1 : n ≤ 9223372036854775807) => refDig_any (w := W) n h0 h1)
    by_cases hc : s[0] = 45
    · have hcb : ((s[0].toNat : Int) == 45) = true := by
        rw [hc]; rfl
      have hn : negS s.data.toList = true := by rw [hng]; exact decide_eq_true hc
      rw [hn] at hbl
      simp only [if_true] at hbl
      clear hng hc
      by_cases hsh : s.size = 1
      · have hq := num_short (hbl.2 hsh)
        rw [hq.1, hq.2]
        have h2 : ((s.size : Int) == 1) = true := by rw [beq_iff_eq]; omega
        clear hq hsl hbl hn
        go_enter Tryz.func58, Tryz.ntmps58
        go_wp2
        go_ret2
        exact ⟨rfl, hb0⟩
      · have h2 : ((s.size : Int) == 1) = false := by rw [beq_eq_false_iff_ne]; omega
        by_cases hlg : 10 < s.size
        · have hq := num_long (l := s.data.toList) (by omega)
          rw [hq.1, hq.2]
          have h3 : (10 : Int) < (s.size : Int) := by omega
          clear hq hsl hbl hn
          go_enter Tryz.func58, Tryz.ntmps58
          go_wp2
          go_ret2
          exact ⟨rfl, hb0⟩
        · have h3 : ¬ (10 : Int) < (s.size : Int) := by omega
          have hs10 : s.size ≤ 10 := by omega
          have hsg : sgnS s.data.toList = -1 := by unfold sgnS; rw [hn]; rfl
          have HST := Lib.hid (show NJ w s 0 1 w from by
            have h := nj_start (w := w) (W := w) (s := s) (Below.refl _ _)
            rw [hn] at h
            exact h)
          have HEND := Lib.hid (fun acc W (h : NJ w s acc s.size W) => show numN s.data.toList = -acc ∧ numB s.data.toList = decide (Lib.itoa (-acc) = s.data.toList) from by
            have h2 := nj_end h hs10
            rw [hsg] at h2
            rw [show (-acc : Int) = -1 * acc by omega]
            exact h2)
          have HBAD := Lib.hid (fun acc i W (h : NJ w s acc i W) hi hd => nj_bad h hi hd)
          obtain ⟨nv, hnv⟩ : ∃ v, numN s.data.toList = v := ⟨_, rfl⟩
          obtain ⟨nb, hnb⟩ : ∃ v, numB s.data.toList = v := ⟨_, rfl⟩
          rw [hnv, hnb] at HEND HBAD ⊢
          clear hn hsg hnv hnb hbl hsl hs hsh
          go_enter Tryz.func58, Tryz.ntmps58
          go_wp2
          go_loopw [5, 6] (fun v x wr => ∃ (acc : Int) (i : Nat), v = .int .i64 acc ∧ x = .int .i64 (i : Int) ∧ Hid (NJ w s acc i wr)) (fun _ x _ => s.size - (intOf x).toNat)
          case atStart => exact ⟨0, 1, rfl, rfl, HST⟩
          case round =>
            obtain ⟨acc, i, rfl, rfl, HJ⟩ := hrel
            obtain ⟨ha0, ha1⟩ := nj_len HJ.out hs10
            have hle := HJ.out.le
            clear hb0 HST
            by_cases hlt : i < s.size
            · have hlti : (i : Int) < (s.size : Int) := by omega
              clear HEND HD
              rcases (show (48 ≤ (s[i]'hlt).toNat ∧ (s[i]'hlt).toNat ≤ 57) ∨ (s[i]'hlt).toNat < 48 ∨ (48 ≤ (s[i]'hlt).toNat ∧ 57 < (s[i]'hlt).toNat) by omega) with ⟨j1, j2⟩ | j1 | ⟨j1, j2⟩
              · have k1 : ¬ ((s[i]'hlt).toNat : Int) < 48 := by omega
                have k2 : ¬ (57 : Int) < ((s[i]'hlt).toNat : Int) := by omega
                have HN := Lib.hid (nj_step HJ.out hlt (isD_yes j1 j2))
                have e1 : acc * 10 + (((s[i]'hlt).toNat : Int) - 48) = acc * 10 + ((s[i]'hlt).toNat : Int) - 48 := by omega
                rw [e1] at HN
                have hcn : 0 ≤ ((s[i]'hlt).toNat : Int) ∧ ((s[i]'hlt).toNat : Int) ≤ 57 := by omega
                have w1 : wrap64 (acc * 10) = acc * 10 := by simp only [wrap64]; omega
                have w2 : wrap64 (acc * 10 + ((s[i]'hlt).toNat : Int)) = acc * 10 + ((s[i]'hlt).toNat : Int) := by simp only [wrap64]; omega
                have w3 : wrap64 (acc * 10 + ((s[i]'hlt).toNat : Int) - 48) = acc * 10 + ((s[i]'hlt).toNat : Int) - 48 := by simp only [wrap64]; omega
                clear HBAD HJ e1 j1 j2
                go_wp2
                go_roundw
                case rel => exact ⟨_, i + 1, rfl, by go_num, HN⟩
                case measure => simp [intOf]; omega
              · obtain ⟨rfl, rfl⟩ := HBAD.out _ _ _ HJ.out hlt (isD_no (.inl j1))
                have k1 : ((s[i]'hlt).toNat : Int) < 48 := by omega
                have HB2 := Lib.hid HJ.out.b
                clear HBAD HJ
                go_wp2
                go_ret2
                exact ⟨rfl, HB2.out⟩
              · obtain ⟨rfl, rfl⟩ := HBAD.out _ _ _ HJ.out hlt (isD_no (.inr j2))
                have k1 : ¬ ((s[i]'hlt).toNat : Int) < 48 := by omega
                have k2 : (57 : Int) < ((s[i]'hlt).toNat : Int) := by omega
                have HB2 := Lib.hid HJ.out.b
                clear HBAD HJ
                go_wp2
                go_ret2
                exact ⟨rfl, HB2.out⟩
            · have hend : i = s.size := by omega
              have hlti : ¬ (i : Int) < (s.size : Int) := by omega
              have HJ2 := HJ.out
              rw [hend] at HJ2
              obtain ⟨e1, e2⟩ := HEND.out _ _ HJ2
              have HB2 := Lib.hid HJ2.b
              clear HJ HJ2 HBAD HEND
              obtain ⟨t, ht⟩ : ∃ t : ByteArray, (⟨(Lib.itoa (-acc)).toArray⟩ : ByteArray) = t := ⟨_, rfl⟩
              have HI2 := Lib.hid (fun W => show Calls Tryz.prog 48 #[.int .i64 (-acc)] W fun e w' => e = .returned (.string t) ∧ Below W.heap.size W w' from by rw [← ht]; exact HD.out _ _ (by omega) (by omega))
              have HT := Lib.hid (show nb = true ↔ t = s from by
                rw [e2, decide_eq_true_eq, ← ht]
                exact ⟨fun h => bytes_eq h, fun h => by rw [← h]⟩)
              have HV := Lib.hid e1
              clear HD e1 e2 ht
              by_cases he : t = s
              · obtain rfl := HT.out.2 he
                have hb := seq_true he
                clear HT he
                go_wp2_with fail
                refine (HI2.out _).mono ?_
                rintro e W2 ⟨rfl, hb2⟩
                have HB3 := Lib.hid (bl_step HB2.out hb2)
                clear hb2 HB2
                go_wp2
                go_ret2
                exact ⟨by rw [HV.out]; rfl, HB3.out⟩
              · obtain rfl : nb = false := by
                  cases nb
                  · rfl
                  · exact absurd (HT.out.1 rfl) he
                have hb := seq_false he
                clear HT he
                go_wp2_with fail
                refine (HI2.out _).mono ?_
                rintro e W2 ⟨rfl, hb2⟩
                have HB3 := Lib.hid (bl_step HB2.out hb2)
                clear hb2 HB2
                go_wp2
                go_ret2
                exact ⟨by rw [HV.out]; rfl, HB3.out⟩
    · have hcb : ((s[0].toNat : Int) == 45) = false := by
        rw [beq_eq_false_iff_ne]; intro h; exact hc (UInt8.toNat_inj.1 (by show s[0].toNat = 45; omega))
      have hn : negS s.data.toList = false := by rw [hng]; exact decide_eq_false hc
      rw [hn] at hbl
      simp only [Bool.false_eq_true, if_false] at hbl
      clear hng hc
      by_cases hsh : s.size = 0
      · have hq := num_short (hbl.2 hsh)
        rw [hq.1, hq.2]
        have h2 : ((s.size : Int) == 0) = true := by rw [beq_iff_eq]; omega
        clear hq hsl hbl hn
        go_enter Tryz.func58, Tryz.ntmps58
        go_wp2
        go_ret2
        exact ⟨rfl, hb0⟩
      · have h2 : ((s.size : Int) == 0) = false := by rw [beq_eq_false_iff_ne]; omega
        by_cases hlg : 10 < s.size
        · have hq := num_long (l := s.data.toList) (by omega)
          rw [hq.1, hq.2]
          have h3 : (10 : Int) < (s.size : Int) := by omega
          clear hq hsl hbl hn
          go_enter Tryz.func58, Tryz.ntmps58
          go_wp2
          go_ret2
          exact ⟨rfl, hb0⟩
        · have h3 : ¬ (10 : Int) < (s.size : Int) := by omega
          have hs10 : s.size ≤ 10 := by omega
          have hsg : sgnS s.data.toList = 1 := by unfold sgnS; rw [hn]; rfl
          have HST := Lib.hid (show NJ w s 0 0 w from by
            have h := nj_start (w := w) (W := w) (s := s) (Below.refl _ _)
            rw [hn] at h
            exact h)
          have HEND := Lib.hid (fun acc W (h : NJ w s acc s.size W) => show numN s.data.toList = acc ∧ numB s.data.toList = decide (Lib.itoa (acc) = s.data.toList) from by
            have h2 := nj_end h hs10
            rw [hsg] at h2
            rw [show (acc : Int) = 1 * acc by omega]
            exact h2)
          have HBAD := Lib.hid (fun acc i W (h : NJ w s acc i W) hi hd => nj_bad h hi hd)
          obtain ⟨nv, hnv⟩ : ∃ v, numN s.data.toList = v := ⟨_, rfl⟩
          obtain ⟨nb, hnb⟩ : ∃ v, numB s.data.toList = v := ⟨_, rfl⟩
          rw [hnv, hnb] at HEND HBAD ⊢
          clear hn hsg hnv hnb hbl hsl hs hsh
          go_enter Tryz.func58, Tryz.ntmps58
          go_wp2
          go_loopw [5, 6] (fun v x wr => ∃ (acc : Int) (i : Nat), v = .int .i64 acc ∧ x = .int .i64 (i : Int) ∧ Hid (NJ w s acc i wr)) (fun _ x _ => s.size - (intOf x).toNat)
          case atStart => exact ⟨0, 0, rfl, rfl, HST⟩
          case round =>
            obtain ⟨acc, i, rfl, rfl, HJ⟩ := hrel
            obtain ⟨ha0, ha1⟩ := nj_len HJ.out hs10
            have hle := HJ.out.le
            clear hb0 HST
            by_cases hlt : i < s.size
            · have hlti : (i : Int) < (s.size : Int) := by omega
              clear HEND HD
              rcases (show (48 ≤ (s[i]'hlt).toNat ∧ (s[i]'hlt).toNat ≤ 57) ∨ (s[i]'hlt).toNat < 48 ∨ (48 ≤ (s[i]'hlt).toNat ∧ 57 < (s[i]'hlt).toNat) by omega) with ⟨j1, j2⟩ | j1 | ⟨j1, j2⟩
              · have k1 : ¬ ((s[i]'hlt).toNat : Int) < 48 := by omega
                have k2 : ¬ (57 : Int) < ((s[i]'hlt).toNat : Int) := by omega
                have HN := Lib.hid (nj_step HJ.out hlt (isD_yes j1 j2))
                have e1 : acc * 10 + (((s[i]'hlt).toNat : Int) - 48) = acc * 10 + ((s[i]'hlt).toNat : Int) - 48 := by omega
                rw [e1] at HN
                have hcn : 0 ≤ ((s[i]'hlt).toNat : Int) ∧ ((s[i]'hlt).toNat : Int) ≤ 57 := by omega
                have w1 : wrap64 (acc * 10) = acc * 10 := by simp only [wrap64]; omega
                have w2 : wrap64 (acc * 10 + ((s[i]'hlt).toNat : Int)) = acc * 10 + ((s[i]'hlt).toNat : Int) := by simp only [wrap64]; omega
                have w3 : wrap64 (acc * 10 + ((s[i]'hlt).toNat : Int) - 48) = acc * 10 + ((s[i]'hlt).toNat : Int) - 48 := by simp only [wrap64]; omega
                clear HBAD HJ e1 j1 j2
                go_wp2
                go_roundw
                case rel => exact ⟨_, i + 1, rfl, by go_num, HN⟩
                case measure => simp [intOf]; omega
              · obtain ⟨rfl, rfl⟩ := HBAD.out _ _ _ HJ.out hlt (isD_no (.inl j1))
                have k1 : ((s[i]'hlt).toNat : Int) < 48 := by omega
                have HB2 := Lib.hid HJ.out.b
                clear HBAD HJ
                go_wp2
                go_ret2
                exact ⟨rfl, HB2.out⟩
              · obtain ⟨rfl, rfl⟩ := HBAD.out _ _ _ HJ.out hlt (isD_no (.inr j2))
                have k1 : ¬ ((s[i]'hlt).toNat : Int) < 48 := by omega
                have k2 : (57 : Int) < ((s[i]'hlt).toNat : Int) := by omega
                have HB2 := Lib.hid HJ.out.b
                clear HBAD HJ
                go_wp2
                go_ret2
                exact ⟨rfl, HB2.out⟩
            · have hend : i = s.size := by omega
              have hlti : ¬ (i : Int) < (s.size : Int) := by omega
              have HJ2 := HJ.out
              rw [hend] at HJ2
              obtain ⟨e1, e2⟩ := HEND.out _ _ HJ2
              have HB2 := Lib.hid HJ2.b
              clear HJ HJ2 HBAD HEND
              obtain ⟨t, ht⟩ : ∃ t : ByteArray, (⟨(Lib.itoa (acc)).toArray⟩ : ByteArray) = t := ⟨_, rfl⟩
              have HI2 := Lib.hid (fun W => show Calls Tryz.prog 48 #[.int .i64 (acc)] W fun e w' => e = .returned (.string t) ∧ Below W.heap.size W w' from by rw [← ht]; exact HD.out _ _ (by omega) (by omega))
              have HT := Lib.hid (show nb = true ↔ t = s from by
                rw [e2, decide_eq_true_eq, ← ht]
                exact ⟨fun h => bytes_eq h, fun h => by rw [← h]⟩)
              have HV := Lib.hid e1
              clear HD e1 e2 ht
              by_cases he : t = s
              · obtain rfl := HT.out.2 he
                have hb := seq_true he
                clear HT he
                go_wp2_with fail
                refine (HI2.out _).mono ?_
                rintro e W2 ⟨rfl, hb2⟩
                have HB3 := Lib.hid (bl_step HB2.out hb2)
                clear hb2 HB2
                go_wp2
                go_ret2
                exact ⟨by rw [HV.out]; rfl, HB3.out⟩
              · obtain rfl : nb = false := by
                  cases nb
                  · rfl
                  · exact absurd (HT.out.1 rfl) he
                have hb := seq_false he
                clear HT he
                go_wp2_with fail
                refine (HI2.out _).mono ?_
                rintro e W2 ⟨rfl, hb2⟩
                have HB3 := Lib.hid (bl_step HB2.out hb2)
                clear hb2 HB2
                go_wp2
                go_ret2
                exact ⟨by rw [HV.out]; rfl, HB3.out⟩

/-! ## names -/
theorem nmAll_at : ∀ (l : List UInt8) (i : Nat), nmAll i l = true ↔ ∀ (j : Nat) (c : UInt8), l[j]? = some c → nmC (i + j) c = true
  | [], i => by simp [nmAll]
  | c :: r, i => by
    rw [nmAll, Bool.and_eq_true, nmAll_at r (i + 1)]
    constructor
    · rintro ⟨h1, h2⟩ j d hd
      cases j with
      | zero => simp at hd; subst hd; exact h1
      | succ j => have := h2 j d (by simpa using hd); rwa [show i + 1 + j = i + (j + 1) by omega] at this
    · intro h
      refine ⟨h 0 c rfl, fun j d hd => ?_⟩
      have := h (j + 1) d (by simpa using hd)
      rwa [show i + (j + 1) = i + 1 + j by omega] at this

set_option maxRecDepth 100000 in
set_option maxHeartbeats 4000000 in
theorem refLabel_any {w : World} (s : ByteArray) (hs : s.size ≤ 1000000) : Calls Tryz.prog 55 #[.string s] w fun e w' => e = .returned (.bool (nameB s.data.toList)) ∧ w' = w := by
  have hsl : s.data.toList.length = s.size := rfl
  by_cases hz : s.size = 0
  · have e : nameB s.data.toList = false := by
      rw [List.eq_nil_of_length_eq_zero (show s.data.toList.length = 0 by omega)]
      rfl
    rw [e]
    have h1 : ((s.size : Int) == 0) = true := by rw [beq_iff_eq]; omega
    clear e hsl
    go_enter Tryz.func55, Tryz.ntmps55
    go_wp2
    go_ret
    exact ⟨rfl, rfl⟩
  have hz0 : 0 < s.size := by omega
  have h1 : ((s.size : Int) == 0) = false := by rw [beq_eq_false_iff_ne]; omega
  by_cases hlg : 16 < s.size
  · have e : nameB s.data.toList = false := by
      unfold nameB
      rw [decide_eq_false (show ¬ s.data.toList.length ≤ 16 by omega)]
      simp
    rw [e]
    have h2 : (16 : Int) < (s.size : Int) := by omega
    clear e hsl
    go_enter Tryz.func55, Tryz.ntmps55
    go_wp2
    go_ret
    exact ⟨rfl, rfl⟩
  have h2 : ¬ (16 : Int) < (s.size : Int) := by omega
  obtain ⟨R, hR⟩ : ∃ R, nameB s.data.toList = R := ⟨_, rfl⟩
  rw [hR]
  have HAT := Lib.hid (show (R = true ↔ ∀ (j : Nat) (c : UInt8), s.data.toList[j]? = some c → nmC j c = true) from by
    rw [← hR]
    unfold nameB
    rw [decide_eq_true (show 1 ≤ s.data.toList.length by omega), decide_eq_true (show s.data.toList.length ≤ 16 by omega)]
    simp only [Bool.and_self, Bool.and_true]
    have := nmAll_at s.data.toList 0
    simpa using this)
  clear hR
  have HBAD := Lib.hid (fun (k : Nat) (h : k < s.size) (hc : nmC k s[k] = false) => show R = false from by
    cases R
    · rfl
    · have := HAT.out.1 rfl k s[k] (by rw [List.getElem?_eq_getElem (by omega), Array.getElem_toList]; rfl)
      rw [hc] at this
      cases this)
  by_cases ha : s[0].toNat < 97
  · obtain rfl := HBAD.out 0 hz0 (nmC_no (by omega))
    have h3 : (s[0].toNat : Int) < 97 := by omega
    clear HBAD HAT
    go_enter Tryz.func55, Tryz.ntmps55
    go_wp2
    go_ret
    exact ⟨rfl, rfl⟩
  have h3 : ¬ (s[0].toNat : Int) < 97 := by omega
  by_cases hb : 122 < s[0].toNat
  · obtain rfl := HBAD.out 0 hz0 (nmC_no (by omega))
    have h4 : (122 : Int) < (s[0].toNat : Int) := by omega
    clear HBAD HAT
    go_enter Tryz.func55, Tryz.ntmps55
    go_wp2
    go_ret
    exact ⟨rfl, rfl⟩
  have h4 : ¬ (122 : Int) < (s[0].toNat : Int) := by omega
  have H0 := Lib.hid (show 97 ≤ s[0].toNat ∧ s[0].toNat ≤ 122 from ⟨by omega, by omega⟩)
  clear ha hb
  go_enter Tryz.func55, Tryz.ntmps55
  go_wp2
  go_loopw [3] (fun i wr => wr = w ∧ ∃ k : Nat, i = .int .i64 (k : Int) ∧ k ≤ s.size ∧ Hid (∀ (j : Nat) (c : UInt8), j < k → s.data.toList[j]? = some c → nmC j c = true)) (fun i _ => s.size - (intOf i).toNat)
  case atStart => exact ⟨rfl, 0, rfl, Nat.zero_le _, fun j c hj => absurd hj (Nat.not_lt_zero j)⟩
  case round =>
    obtain ⟨rfl, k, rfl, hk, HV⟩ := hrel
    clear h3 h4
    by_cases hks : k < s.size
    · have hka : (k : Int) < (s.size : Int) := by omega
      have hcs : s.data.toList[k]? = some s[k] := by rw [List.getElem?_eq_getElem (by omega), Array.getElem_toList]; rfl
      have HN := Lib.hid (fun (h : nmC k s[k] = true) => show ∀ (j : Nat) (c : UInt8), j < k + 1 → s.data.toList[j]? = some c → nmC j c = true from fun j c hj hc => by
        rcases Nat.lt_or_ge j k with h5 | h5
        · exact HV.out j c h5 hc
        · obtain rfl : j = k := by omega
          rw [hcs] at hc
          injection hc with hc
          rw [← hc]
          exact h)
      have HF := Lib.hid (HBAD.out k hks)
      have HK := Lib.hid (show k = 0 → 97 ≤ s[k].toNat from by rintro rfl; exact H0.out.1)
      clear hcs
      rcases (show (97 ≤ s[k].toNat ∧ s[k].toNat ≤ 122) ∨ 122 < s[k].toNat ∨ s[k].toNat < 48 ∨ (48 ≤ s[k].toNat ∧ s[k].toNat ≤ 57) ∨ (57 < s[k].toNat ∧ s[k].toNat < 97) by omega) with ⟨j1, j2⟩ | j1 | j1 | ⟨j1, j2⟩ | ⟨j1, j2⟩
      · have k1 : ¬ (s[k].toNat : Int) < 97 := by omega
        have k2 : ¬ (122 : Int) < (s[k].toNat : Int) := by omega
        have HN2 := Lib.hid (HN.out (nmC_yes (.inl ⟨j1, j2⟩)))
        clear j1 j2
        go_wp2
        go_roundw
        case rel => exact ⟨trivial, k + 1, by go_num, by omega, HN2⟩
        case measure => simp [intOf]; omega
      · obtain rfl := HF.out (nmC_no (by omega))
        have k1 : ¬ (s[k].toNat : Int) < 97 := by omega
        have k2 : (122 : Int) < (s[k].toNat : Int) := by omega
        have k3 : ¬ (s[k].toNat : Int) < 48 := by omega
        have k4 : (57 : Int) < (s[k].toNat : Int) := by omega
        clear j1
        go_wp2
        go_ret
        exact ⟨rfl, rfl⟩
      · obtain rfl := HF.out (nmC_no (by omega))
        have k1 : (s[k].toNat : Int) < 97 := by omega
        have k3 : (s[k].toNat : Int) < 48 := by omega
        clear j1
        go_wp2
        go_ret
        exact ⟨rfl, rfl⟩
      · have k1 : (s[k].toNat : Int) < 97 := by omega
        have k3 : ¬ (s[k].toNat : Int) < 48 := by omega
        have k4 : ¬ (57 : Int) < (s[k].toNat : Int) := by omega
        have HN2 := Lib.hid (HN.out (nmC_yes (.inr ⟨j1, j2, by
          rcases Nat.eq_zero_or_pos k with h0 | h0
          · have := HK.out h0; omega
          · exact h0⟩)))
        clear j1 j2
        go_wp2
        go_roundw
        case rel => exact ⟨trivial, k + 1, by go_num, by omega, HN2⟩
        case measure => simp [intOf]; omega
      · obtain rfl := HF.out (nmC_no (by omega))
        have k1 : (s[k].toNat : Int) < 97 := by omega
        have k3 : ¬ (s[k].toNat : Int) < 48 := by omega
        have k4 : (57 : Int) < (s[k].toNat : Int) := by omega
        clear j1 j2
        go_wp2
        go_ret
        exact ⟨rfl, rfl⟩
    · have hka : ¬ (k : Int) < (s.size : Int) := by omega
      obtain rfl := HAT.out.2 (fun j c hc => HV.out j c (by
        have := (List.getElem?_eq_some_iff.1 hc).1
        omega) hc)
      go_wp2
      go_ret
      exact ⟨rfl, rfl⟩
end
end Go.Proofs.YtpikgebfeleajaaGreatDoor.I
