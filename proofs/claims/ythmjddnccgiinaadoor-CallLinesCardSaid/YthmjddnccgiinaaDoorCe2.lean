/-
  The document's May and Line of a call. Condition on Line: the arguments are words.
-/
import Derived.Test.YthmjddnccgiinaaDoorCa7
import Derived.Test.YthmjddnccgiinaaDoorCeD
namespace Go.Proofs.YthmjddnccgiinaaDoor
open Go.RowKit Go.Shelf
set_option linter.unusedVariables false
set_option linter.unusedSimpArgs false
attribute [local go_sem] Oper.semAt_some

def arg3 (a b c : Int) (k : Nat) : Int := [a, b, c].getD k 0
theorem mayC_iff (N a b c : Int) : MayC ⟨N, a, b, c⟩ ↔ 0 ≤ kM (kR N) ∧ ∀ k : Nat, k < 3 → kM (kR N) ≤ (k : Int) → arg3 a b c k = 0 := by
  unfold MayC onC
  simp only [Cl.mk.injEq, true_and]
  have hn : agN N = (kM (kR N)).toNat := rfl
  constructor
  · rintro ⟨h0, h1, h2, h3⟩
    refine ⟨h0, fun k hk hkm => ?_⟩
    rcases (show k = 0 ∨ k = 1 ∨ k = 2 by omega) with rfl | rfl | rfl
    · rw [if_neg (by omega)] at h1; exact h1.symm
    · rw [if_neg (by omega)] at h2; exact h2.symm
    · rw [if_neg (by omega)] at h3; exact h3.symm
  · rintro ⟨h0, h⟩
    refine ⟨h0, ?_, ?_, ?_⟩
    · split
      · rfl
      · exact (h 0 (by omega) (by omega)).symm
    · split
      · rfl
      · exact (h 1 (by omega) (by omega)).symm
    · split
      · rfl
      · exact (h 2 (by omega) (by omega)).symm
theorem arg_cell {w : World} {G : Nat} {N a b c : Int} (h : Blk w G 27 #[.int .i64 N, .int .u32 a, .int .u32 b, .int .u32 c]) {k : Nat} (hk : k < 3) : w.cell? ⟨G, 1 + k, none⟩ = some (.int .u32 (arg3 a b c k)) := by
  rw [h.cell]
  rcases (show k = 0 ∨ k = 1 ∨ k = 2 by omega) with rfl | rfl | rfl <;> rfl
theorem agL_take {N a b c : Int} {k : Nat} (hk : k < agN N) : ∃ x : Ag, (agL N a b c).take (k + 1) = (agL N a b c).take k ++ [x] ∧ x.2 = arg3 a b c k ∧ x.1.val = k := by
  have h3 : k < 3 := by have := agN_le N; omega
  refine ⟨(⟨k, h3⟩, arg3 a b c k), ?_, rfl, rfl⟩
  have he : (agL N a b c)[k]? = some (⟨k, h3⟩, arg3 a b c k) := by
    unfold agL
    rw [List.getElem?_take_of_lt hk]
    exact agAll_at a b c h3
  rw [List.take_add_one, he]
  rfl
theorem arg_range {N a b c : Int} (hr : RangeC ⟨N, a, b, c⟩) (k : Nat) : 0 ≤ arg3 a b c k ∧ arg3 a b c k ≤ 4294967295 := by
  obtain ⟨h1, h2, h3⟩ := hr
  dsimp only at h1 h2 h3
  unfold arg3
  match k with
  | 0 => exact h1
  | 1 => exact h2
  | 2 => exact h3
  | n + 3 => simp

set_option maxRecDepth 100000 in
set_option maxHeartbeats 4000000 in
theorem refMay_any {w : World} (N a b c : Int) : Calls Tryd.prog 43 #[.agg #[.int .i64 N, .int .u32 a, .int .u32 b, .int .u32 c]] w fun e w' => e = .returned (.bool (decide (MayC ⟨N, a, b, c⟩))) ∧ Below w.heap.size w w' := by
  have HM := Lib.hid (fun W => refMany_any (w := W) N)
  have hb0 := (Below.refl w.heap.size w).alloc (Nat.le_refl _) (.cells #[.int .i64 N, .int .u32 a, .int .u32 b, .int .u32 c] 27)
  have hx0 := Blk.new w 27 #[.int .i64 N, .int .u32 a, .int .u32 b, .int .u32 c]
  have hiff := mayC_iff N a b c
  obtain ⟨q, hq⟩ : ∃ q, q = decide (MayC ⟨N, a, b, c⟩) := ⟨_, rfl⟩
  rw [← hq]
  have hkr := kM_range (kR_lt N)
  generalize kM (kR N) = km at *
  have HQ := Lib.hid (show (q = true ↔ 0 ≤ km ∧ ∀ k : Nat, k < 3 → km ≤ (k : Int) → arg3 a b c k = 0) from by rw [hq, decide_eq_true_iff]; exact hiff)
  obtain ⟨hk1, hk2⟩ := hkr
  have HC := Lib.hid (fun (k : Nat) (hk : k < 3) => arg_cell hx0 hk)
  obtain ⟨c0, c1, c2, c3, clt⟩ := ccells hx0
  have HB0 := Lib.hid hb0
  clear hb0 hx0 hq hiff c1 c2 c3
  go_enter Tryd.func43, Tryd.ntmps43
  go_wp2_with fail
  refine (HM.out _).mono ?_
  rintro e w1 ⟨rfl, rfl⟩
  generalize w.alloc (.cells #[.int .i64 N, .int .u32 a, .int .u32 b, .int .u32 c] 27) = W1 at *
  by_cases hn : km < 0
  · have hqf : q = false := by
      cases hq2 : q with
      | false => rfl
      | true => have := (HQ.out.1 hq2).1; omega
    subst hqf
    go_wp2
    go_ret
    exact ⟨rfl, HB0.out⟩
  · obtain ⟨M, rfl⟩ := Int.eq_ofNat_of_zero_le (show 0 ≤ km by omega)
    go_wp2
    go_loopw [4] (fun i wr => wr = W1 ∧ ∃ k : Nat, i = .int .i64 (k : Int) ∧ M ≤ k ∧ k ≤ 3 ∧ Hid (∀ j, M ≤ j → j < k → arg3 a b c j = 0)) (fun i _ => 3 - (intOf i).toNat)
    case atStart => exact ⟨rfl, M, rfl, Nat.le_refl _, by omega, Lib.hid fun j h1 h2 => by omega⟩
    case round =>
      obtain ⟨rfl, k, rfl, hMk, hk3, hP⟩ := hrel
      by_cases hlt : k < 3
      · have hltb : (k : Int) < 3 := by omega
        have hc := HC.out k hlt
        by_cases hz : arg3 a b c k = 0
        · have hzb : (arg3 a b c k != 0) = false := by simpa using hz
          have HP2 := Lib.hid (show ∀ j, M ≤ j → j < k + 1 → arg3 a b c j = 0 from fun j h1 h2 => by
            rcases Nat.lt_or_ge j k with h | h
            · exact hP.out j h1 h
            · have : j = k := by omega
              subst this
              exact hz)
          clear hz
          go_wp2
          go_roundw
          case rel => exact ⟨trivial, k + 1, by go_num, by omega, by omega, HP2⟩
          case measure => simp [intOf]; omega
        · have hzb : (arg3 a b c k != 0) = true := by simpa using hz
          have hqf : q = false := by
            cases hq2 : q with
            | false => rfl
            | true => exact absurd ((HQ.out.1 hq2).2 k hlt (by omega)) hz
          subst hqf
          clear hz
          go_wp2
          go_ret
          exact ⟨rfl, HB0.out⟩
      · have hk3' : k = 3 := by omega
        subst hk3'
        have hqt : q = true := HQ.out.2 ⟨by omega, fun j hj hM => hP.out j (by omega) hj⟩
        subst hqt
        go_wp2
        go_ret
        exact ⟨rfl, HB0.out⟩

set_option maxRecDepth 100000 in
set_option maxHeartbeats 4000000 in
theorem refLine_no {w : World} (N a b c : Int) (hm : ¬ MayC ⟨N, a, b, c⟩) : Calls Tryd.prog 27 #[.agg #[.int .i64 N, .int .u32 a, .int .u32 b, .int .u32 c]] w fun e w' => e = .returned (.tuple #[.string ⟨#[]⟩, .int .i64 160]) ∧ Below w.heap.size w w' := by
  have HB0 := Lib.hid ((Below.refl w.heap.size w).alloc (Nat.le_refl _) (.cells #[.int .i64 N, .int .u32 a, .int .u32 b, .int .u32 c] 27))
  have hx0 := Blk.new w 27 #[.int .i64 N, .int .u32 a, .int .u32 b, .int .u32 c]
  have H := Lib.hid (fun W => refMay_any (w := W) N a b c)
  rw [decide_eq_false hm] at H
  obtain ⟨c0, c1, c2, c3, clt⟩ := ccells hx0
  clear hx0 hm
  go_enter Tryd.func27, Tryd.ntmps27
  go_wp2_with fail
  refine (H.out _).mono ?_
  rintro e w1 ⟨rfl, hb1⟩
  have HB1 := Lib.hid (bl_step HB0.out hb1)
  clear c0 c1 c2 c3 clt HB0 hb1 H
  go_wp2
  go_ret2
  exact ⟨rfl, HB1.out⟩

set_option maxRecDepth 100000 in
set_option maxHeartbeats 8000000 in
theorem refLine_yes {w : World} (N a b c : Int) (hr : RangeC ⟨N, a, b, c⟩) (hm : MayC ⟨N, a, b, c⟩) : Calls Tryd.prog 27 #[.agg #[.int .i64 N, .int .u32 a, .int .u32 b, .int .u32 c]] w fun e w' => e = .returned (.tuple #[.string (sOf N (agL N a b c)), .int .i64 0]) ∧ Below w.heap.size w w' := by
  have HB0 := Lib.hid ((Below.refl w.heap.size w).alloc (Nat.le_refl _) (.cells #[.int .i64 N, .int .u32 a, .int .u32 b, .int .u32 c] 27))
  have HX0 := Lib.hid (Blk.new w 27 #[.int .i64 N, .int .u32 a, .int .u32 b, .int .u32 c])
  have H := Lib.hid (fun W => refMay_any (w := W) N a b c)
  rw [decide_eq_true hm] at H
  have hnum := may_num hm.1
  dsimp only at hnum
  have HN := Lib.hid (fun W => refName_any (w := W) N (by omega))
  have HM := Lib.hid (fun W => refMany_any (w := W) N)
  have hM : (agN N : Int) = kM (kR N) := by have := hm.1; dsimp only at this; unfold agN; omega
  rw [← hM] at HM
  have HD := Lib.hid (fun W (k : Nat) => show Calls Tryd.prog 44 #[.int .u32 (arg3 a b c k)] W fun e w' => e = .returned (.string ⟨(Lib.decDigits (arg3 a b c k).toNat).toArray⟩) ∧ Below W.heap.size W w' from by
    obtain ⟨h0, h1⟩ := arg_range hr k
    have h := refDig_nat (w := W) (arg3 a b c k).toNat (by omega)
    rw [show (((arg3 a b c k).toNat : Nat) : Int) = arg3 a b c k by omega] at h
    exact h)
  have HR := Lib.hid (fun k => arg_range hr k)
  have HSZ := Lib.hid (fun k => sOf_size N ((agL N a b c).take k) (fun x hx => (agL_range hr x (List.mem_of_mem_take hx)).2))
  have HT := Lib.hid (fun k (hk : k < agN N) => agL_take (N := N) (a := a) (b := b) (c := c) hk)
  have HE := Lib.hid (show (agL N a b c).take (agN N) = agL N a b c from List.take_of_length_le (by rw [agL_len]; exact Nat.le_refl _))
  have hM3 := agN_le N
  have HS0 := Lib.hid (show kN (kR N) = sOf N ((agL N a b c).take 0) from by rw [List.take_zero, sOf_nil])
  obtain ⟨c0, c1, c2, c3, clt⟩ := ccells HX0.out
  generalize agN N = M at *
  generalize kN (kR N) = nm at *
  clear hm hr hM hnum
  go_enter Tryd.func27, Tryd.ntmps27
  go_wp2_with fail
  refine (H.out _).mono ?_
  rintro e w1 ⟨rfl, hb1⟩
  have HB1 := Lib.hid (bl_step HB0.out hb1)
  have HX1 := Lib.hid (HX0.out.below hb1 HX0.out.lt)
  clear c0 c1 c2 c3 clt HB0 HX0 hb1 H
  obtain ⟨c0, c1, c2, c3, clt⟩ := ccells HX1.out
  go_wp2_with fail
  refine (HN.out _).mono ?_
  rintro e w2 ⟨rfl, hb2⟩
  have HB2 := Lib.hid (bl_step HB1.out hb2)
  have HX2 := Lib.hid (HX1.out.below hb2 HX1.out.lt)
  clear c0 c1 c2 c3 clt HB1 HX1 hb2 HN
  go_wp2_with fail
  go_loopw [5, 6] (fun v i wr => ∃ (k : Nat) (s : ByteArray), i = .int .i64 (k : Int) ∧ v = .string s ∧ k ≤ M ∧ Hid (s = sOf N ((agL N a b c).take k)) ∧ Hid (Blk wr w.heap.size 27 #[.int .i64 N, .int .u32 a, .int .u32 b, .int .u32 c]) ∧ Hid (Below w.heap.size w wr)) (fun _ i _ => M - (intOf i).toNat)
  case atStart => exact ⟨0, nm, rfl, rfl, Nat.zero_le _, HS0, HX2, HB2⟩
  case round =>
    obtain ⟨k, s, rfl, rfl, hk, HS, HX, HB⟩ := hrel
    clear HS0 HB2 HX2
    obtain ⟨c0, c1, c2, c3, clt⟩ := ccells HX.out
    by_cases hkM : k < M
    · have hka : (k : Int) < (M : Int) := by omega
      have hk3 : k < 3 := by omega
      have hc := arg_cell HX.out hk3
      obtain ⟨x, hx1, hx2, hx3⟩ := HT.out k hkM
      have hD := HD.out
      obtain ⟨hv0, hv1⟩ := HR.out k
      have hsz := HSZ.out k
      rw [← HS.out, List.length_take] at hsz
      have hDz : (⟨(Lib.decDigits (arg3 a b c k).toNat).toArray⟩ : ByteArray).size ≤ 20 := by
        show (Lib.decDigits _).toArray.size ≤ _
        rw [List.size_toArray]
        exact dec_len (by omega)
      have hsn : s ++ ⟨#[32]⟩ ++ ⟨(Lib.decDigits (arg3 a b c k).toNat).toArray⟩ = sOf N ((agL N a b c).take (k + 1)) := by
        rw [hx1, sOf_snoc, ← HS.out, ByteArray.append_assoc]
        unfold wordG
        rw [hx2]
      have HDk := Lib.hid (fun W => HD.out W k)
      have HSN := Lib.hid hsn
      generalize (⟨(Lib.decDigits (arg3 a b c k).toNat).toArray⟩ : ByteArray) = D at *
      have hcat1 : s.size + 1 ≤ 9223372036854775807 := by omega
      have hcat2 : s.size + 1 + D.size ≤ 9223372036854775807 := by omega
      clear hsn hsz hx1 hx2 hx3 hD c1 c2 c3 hDz
      go_wp2_with fail
      refine (HM.out _).mono ?_
      rintro e w3 ⟨rfl, rfl⟩
      go_wp2_with fail
      refine (HDk.out _).mono ?_
      rintro e w4 ⟨rfl, hb4⟩
      have HX4 := Lib.hid (HX.out.below hb4 HX.out.lt)
      have HB4 := Lib.hid (bl_step HB.out hb4)
      clear hb4 hc c0 clt
      go_wp2
      go_roundw
      case rel => exact ⟨k + 1, s ++ ⟨#[32]⟩ ++ D, by go_num, rfl, by omega, HSN, HX4, HB4⟩
      case measure => simp [intOf]; omega
    · have hkk : k = M := by omega
      subst hkk
      have hka : ¬ (k : Int) < (k : Int) := by omega
      have hse := HS.out
      rw [HE.out] at hse
      have HSE := Lib.hid hse
      clear hse c1 c2 c3
      go_wp2_with fail
      refine (HM.out _).mono ?_
      rintro e w3 ⟨rfl, rfl⟩
      go_wp2
      go_ret2
      exact ⟨by rw [← HSE.out]; rfl, HB.out⟩
end Go.Proofs.YthmjddnccgiinaaDoor
