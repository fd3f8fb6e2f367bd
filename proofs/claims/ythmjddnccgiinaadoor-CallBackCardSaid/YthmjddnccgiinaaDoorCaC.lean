/-
  CallBack, walked: a call's line says it, and a line that is one is the call's. Condition: the tables lie as the program's text, and the library's, lay them.
-/
import Derived.Test.YthmjddnccgiinaaDoorCaA
namespace Go.Proofs.YthmjddnccgiinaaDoor
open Go.RowKit
set_option linter.unusedVariables false
set_option linter.unusedSimpArgs false

theorem code_row {c : Int} (h : codeOf c ≠ ⟨#[]⟩) : ∃ i, i < 15 ∧ cN i = c := Classical.byContradiction fun hn => h (codeOf_none fun k hk he => hn ⟨k, hk, he⟩)
theorem code_inj {n m : Int} (h : codeOf n ≠ ⟨#[]⟩) (he : codeOf n = codeOf m) : n = m := by
  obtain ⟨i, hi, rfl⟩ := code_row h
  obtain ⟨j, hj, rfl⟩ := code_row (he ▸ h)
  rw [codeOf_hit hi, codeOf_hit hj] at he
  have hd : ∀ i : Fin 15, ∀ j : Fin 15, (codesL.getD i.1 (0, [])).2 = (codesL.getD j.1 (0, [])).2 → i = j := by decide +kernel
  have h' : (codesL.getD i (0, [])).2 = (codesL.getD j (0, [])).2 := by
    unfold cS at he
    injection he with he
    simpa using congrArg Array.toList he
  have := congrArg Fin.val (hd ⟨i, hi⟩ ⟨j, hj⟩ h')
  have e : i = j := this
  rw [e]
theorem fail_ans {n : Int} (h : codeOf n ≠ ⟨#[]⟩) : failOf (ansOf n) = n ∧ 0 ≤ ansOf n ∧ ansOf n ≤ 4294967295 := by
  have h1 := codeOf_some h
  obtain ⟨k, rfl⟩ := Int.eq_ofNat_of_zero_le (show 0 ≤ n by omega)
  have h2 : ansOf (k : Int) = 4294967296 - k := by unfold ansOf; rw [if_neg h]
  exact ⟨fail_hit (by omega) (by omega) h rfl, by omega, by omega⟩
theorem name_row {n : Int} (h : kN (kR n) ≠ ⟨#[]⟩) : 1 ≤ n ∧ n ≤ 22 ∧ ((kR n : Nat) : Int) = n := by
  by_cases hn : n < 1 ∨ 23 ≤ n
  · rw [kR_out hn] at h
    exact absurd rfl h
  · obtain ⟨k, rfl⟩ := Int.eq_ofNat_of_zero_le (show 0 ≤ n by omega)
    rw [kR_in (by omega) (by omega)]
    omega
theorem name_inj {n m : Int} (h : kN (kR n) ≠ ⟨#[]⟩) (he : kN (kR n) = kN (kR m)) : n = m := by
  have h1 := name_row h
  have h2 := name_row (he ▸ h)
  have := kN_inj (kR_lt n) (kR_lt m) he
  omega
theorem lineF_zero : ¬ MayC ⟨0, 0, 0, 0⟩ := by decide +kernel

set_option maxRecDepth 100000 in
set_option maxHeartbeats 8000000 in
theorem backLaw_any {w : World} (hG : GroundR w) (hC : Codes w) (N a b c : Int) (hc : InC ⟨N, a, b, c⟩) (s : ByteArray) (hs : s.size ≤ maxLen) (n m : Int) (hn : -9223372036854775808 ≤ n ∧ n ≤ 9223372036854775807) (hm : -9223372036854775808 ≤ m ∧ m ≤ 9223372036854775807) :
    Calls Tryd.prog 8 #[.agg #[.int .i64 N, .int .u32 a, .int .u32 b, .int .u32 c], .string s, .int .i64 n, .int .i64 m] w fun e w' => e = .returned (.bool true) ∧ Below w.heap.size w w' := by
  have hb0 := (Below.refl w.heap.size w).alloc (Nat.le_refl _) (.cells #[.int .i64 N, .int .u32 a, .int .u32 b, .int .u32 c] 27)
  have hx := Blk.new w 27 #[.int .i64 N, .int .u32 a, .int .u32 b, .int .u32 c]
  have HAL := Lib.hid (fun W (hW : Below w.heap.size w W) => alive_any (hG.below hW).g (hC.below hW))
  by_cases hs80 : 80 < s.size
  · have hs8 : (80 : Int) < (s.size : Int) := by omega
    have HB0 := Lib.hid hb0
    clear hb0 hx hG hC
    go_enter Tryd.func8, Tryd.ntmps8
    go_wp2_with fail
    refine (HAL.out _ HB0.out).mono ?_
    rintro e W1 ⟨rfl, hb1⟩
    have HB1 := Lib.hid (bl_step HB0.out hb1)
    clear hb1
    go_wp2
    go_ret
    exact ⟨by first | rfl | simp, HB1.out⟩
  have hs8 : (s.size : Int) ≤ 80 := by omega
  -- the call's line, and what is read of it
  obtain ⟨L, E, d0, d1, d2, d3, F, hLsz, hEF, HL, HR⟩ : ∃ (L : ByteArray) (E d0 d1 d2 d3 F : Int), L.size ≤ 1000000 ∧ ((E = 0 ∧ F = 0 ∧ (⟨d0, d1, d2, d3⟩ : Cl) = ⟨N, a, b, c⟩) ∨ E = 160) ∧
      Hid (∀ W, Below w.heap.size w W → Calls Tryd.prog 23 #[.agg #[.int .i64 N, .int .u32 a, .int .u32 b, .int .u32 c]] W fun e w' => e = .returned (.tuple #[.string L, .int .i64 E]) ∧ Below W.heap.size W w') ∧
      Hid (∀ W, Below w.heap.size w W → Calls Tryd.prog 28 #[.string L] W fun e w' => e = .returned (.tuple #[.agg #[.int .i64 d0, .int .u32 d1, .int .u32 d2, .int .u32 d3], .int .i64 F]) ∧ Below W.heap.size W w') := by
    by_cases hm : MayC ⟨N, a, b, c⟩
    · have hz : (⟨(lineC ⟨N, a, b, c⟩).toArray⟩ : ByteArray).size ≤ 1000000 := by
        have h := sOf_size N (agL N a b c) (fun x hx => (agL_range hc.2 x hx).2)
        rw [agL_len] at h
        have := agN_le N
        show (sOf N (agL N a b c)).size ≤ _
        omega
      refine ⟨_, 0, N, a, b, c, 0, hz, .inl ⟨rfl, rfl, rfl⟩, Lib.hid (fun W hW => line_yes (hG.below hW).g N a b c hc.2 hm), Lib.hid (fun W hW => ?_)⟩
      have h := read_any (hG.below hW) _ hz
      rw [show (⟨(lineC ⟨N, a, b, c⟩).toArray⟩ : ByteArray).data.toList = lineC ⟨N, a, b, c⟩ from rfl, read_lineC hm hc.2] at h
      exact h
    · obtain ⟨y, hy⟩ : ∃ y : Cl, clA (readC ([] : List UInt8)) = #[.int .i64 y.n, .int .u32 y.a, .int .u32 y.b, .int .u32 y.c] := by
        cases readC ([] : List UInt8) with
        | none => exact ⟨⟨0, 0, 0, 0⟩, rfl⟩
        | some y => exact ⟨y, rfl⟩
      refine ⟨⟨#[]⟩, 160, y.n, y.a, y.b, y.c, errC (readC ([] : List UInt8)), by decide, .inr rfl, Lib.hid (fun W hW => line_no (hG.below hW).g N a b c hm), Lib.hid (fun W hW => ?_)⟩
      have h := read_any (hG.below hW) ⟨#[]⟩ (by decide)
      rw [show (⟨#[]⟩ : ByteArray).data.toList = [] from rfl, hy] at h
      exact h
  -- what is read of the text, and its line
  obtain ⟨x0, x1, x2, x3, T, G, H, hGH, HRS, HLX⟩ : ∃ (x0 x1 x2 x3 : Int) (T : ByteArray) (G H : Int), ((G = 0 ∧ H = 0 ∧ T = s) ∨ G = 160) ∧
      Hid (∀ W, Below w.heap.size w W → Calls Tryd.prog 28 #[.string s] W fun e w' => e = .returned (.tuple #[.agg #[.int .i64 x0, .int .u32 x1, .int .u32 x2, .int .u32 x3], .int .i64 G]) ∧ Below W.heap.size W w') ∧
      Hid (∀ W, Below w.heap.size w W → Calls Tryd.prog 23 #[.agg #[.int .i64 x0, .int .u32 x1, .int .u32 x2, .int .u32 x3]] W fun e w' => e = .returned (.tuple #[.string T, .int .i64 H]) ∧ Below W.heap.size W w') := by
    have h := fun W (hW : Below w.heap.size w W) => read_any (hG.below hW) s (by omega)
    cases hr : readC s.data.toList with
    | none =>
      rw [hr] at h
      exact ⟨0, 0, 0, 0, _, 160, 160, .inr rfl, Lib.hid h, Lib.hid (fun W hW => line_no (hG.below hW).g 0 0 0 0 lineF_zero)⟩
    | some y =>
      rw [hr] at h
      obtain ⟨h1, h2, h3⟩ := read_someC hr
      obtain ⟨y0, y1, y2, y3⟩ := y
      exact ⟨y0, y1, y2, y3, _, 0, 0, .inl ⟨rfl, rfl, bytes_eq h3⟩, Lib.hid h, Lib.hid (fun W hW => line_yes (hG.below hW).g y0 y1 y2 y3 h2 h1)⟩
  have HN := Lib.hid (fun k W (hW : Below w.heap.size w W) => name_any (hG.below hW).g.laid k)
  have HCO := Lib.hid (fun k W (hW : Below w.heap.size w W) => code_any (hC.below hW) k)
  have HBN := Lib.hid (fun W (hn : kN (kR n) ≠ ⟨#[]⟩) (hW : Below w.heap.size w W) => (byName_any (hG.below hW).g.laid (kN (kR n))).mono fun e w' h => show e = .returned (.int .i64 n) ∧ Below W.heap.size W w' from by
    obtain ⟨r, h1, h2, h3⟩ := h
    have h4 := isName_one h2 (.inl ⟨kR_lt n, rfl⟩)
    rw [h4, (name_row hn).2.2] at h1
    exact ⟨h1, h3⟩)
  have HAN := Lib.hid (fun W (hW : Below w.heap.size w W) => answer_any (hC.below hW) n)
  have HFA := Lib.hid (fun W (hn : codeOf n ≠ ⟨#[]⟩) (hW : Below w.heap.size w W) => show Calls Tryd.prog 20 #[.int .u32 (ansOf n)] W fun e w' => e = .returned (.int .i64 n) ∧ Below W.heap.size W w' from by
    have h := failed_any (hC.below hW) (ansOf n) (fail_ans hn).2.1 (fail_ans hn).2.2
    rw [(fail_ans hn).1] at h
    exact h)
  have HNI := Lib.hid (fun (h : kN (kR n) ≠ ⟨#[]⟩) (h2 : kN (kR n) = kN (kR m)) => name_inj h h2)
  have HCI := Lib.hid (fun (h : codeOf n ≠ ⟨#[]⟩) (h2 : codeOf n = codeOf m) => code_inj h h2)
  have HNm := Lib.hid (fun (h : n = m) => show kN (kR n) = kN (kR m) ∧ codeOf n = codeOf m from by rw [h]; exact ⟨rfl, rfl⟩)
  generalize hna : kN (kR n) = na at *
  generalize hnb : kN (kR m) = nb at *
  generalize hca : codeOf n = ca at *
  generalize hcb : codeOf m = cb at *
  generalize hans : ansOf n = an at *
  have HN1 := Lib.hid (fun W (hW : Below w.heap.size w W) => show Calls Tryd.prog 12 #[.int .i64 n] W fun e w' => e = .returned (.string na) ∧ Below W.heap.size W w' from by rw [← hna]; exact HN.out n W hW)
  have HN2 := Lib.hid (fun W (hW : Below w.heap.size w W) => show Calls Tryd.prog 12 #[.int .i64 m] W fun e w' => e = .returned (.string nb) ∧ Below W.heap.size W w' from by rw [← hnb]; exact HN.out m W hW)
  have HC1 := Lib.hid (fun W (hW : Below w.heap.size w W) => show Calls Tryd.prog 16 #[.int .i64 n] W fun e w' => e = .returned (.string ca) ∧ Below W.heap.size W w' from by rw [← hca]; exact HCO.out n W hW)
  have HC2 := Lib.hid (fun W (hW : Below w.heap.size w W) => show Calls Tryd.prog 16 #[.int .i64 m] W fun e w' => e = .returned (.string cb) ∧ Below W.heap.size W w' from by rw [← hcb]; exact HCO.out m W hW)
  have HE := fun w => eqC ⟨N, a, b, c⟩ ⟨N, a, b, c⟩ w
  have hd : decide ((⟨N, a, b, c⟩ : Cl) = ⟨N, a, b, c⟩) = true := decide_eq_true rfl
  rw [hd] at HE
  dsimp only at HE
  have HB0 := Lib.hid hb0
  have HX := Lib.hid hx
  have HEF := Lib.hid hEF
  have HGH := Lib.hid hGH
  clear hd hna hnb hca hcb hans HN HCO hb0 hx hEF hGH hG hC hc hn hm hLsz
  go_enter Tryd.func8, Tryd.ntmps8
  go_wp2_with fail
  refine (HAL.out _ HB0.out).mono ?_
  rintro e W1 ⟨rfl, hb1⟩
  have hB1 := bl_step HB0.out hb1
  have hx1 := HX.out.below hb1 HX.out.lt
  obtain ⟨y0, y1, y2, y3, ylt⟩ := ccells hx1
  have HX1 := Lib.hid hx1
  clear hb1 hx1 HX HB0
  go_wp2_with fail
  refine (HL.out _ hB1).mono ?_
  rintro e W2 ⟨rfl, hb2⟩
  have hB2 := bl_step hB1 hb2
  have HX2 := Lib.hid (HX1.out.below hb2 HX1.out.lt)
  clear y0 y1 y2 y3 ylt hb2 hB1 HX1
  go_wp2_with fail
  refine (HR.out _ hB2).mono ?_
  rintro e W3 ⟨rfl, hb3⟩
  have hx3 := (HX2.out.below hb3 HX2.out.lt).alloc (.cells #[.int .i64 d0, .int .u32 d1, .int .u32 d2, .int .u32 d3] 27)
  have hd3' := Blk.new W3 27 #[.int .i64 d0, .int .u32 d1, .int .u32 d2, .int .u32 d3]
  have hB3 := bl_new (bl_step hB2 hb3) (.cells #[.int .i64 d0, .int .u32 d1, .int .u32 d2, .int .u32 d3] 27)
  have HX3 := Lib.hid hx3
  have HD3 := Lib.hid hd3'
  have HB3 := Lib.hid hB3
  clear hb3 hx3 hd3' hB2 hB3 HX2
  go_wp2_with fail
  refine (HRS.out _ HB3.out).mono ?_
  rintro e W4 ⟨rfl, hb4⟩
  have hx4 := (HX3.out.below hb4 HX3.out.lt).alloc (.cells #[.int .i64 x0, .int .u32 x1, .int .u32 x2, .int .u32 x3] 27)
  have hd4 := (HD3.out.below hb4 HD3.out.lt).alloc (.cells #[.int .i64 x0, .int .u32 x1, .int .u32 x2, .int .u32 x3] 27)
  have hB4 := bl_new (bl_step HB3.out hb4) (.cells #[.int .i64 x0, .int .u32 x1, .int .u32 x2, .int .u32 x3] 27)
  have HX4 := Lib.hid hx4
  have HD4 := Lib.hid hd4
  have HB4 := Lib.hid hB4
  clear hb4 hx4 hd4 hB4 HX3 HD3 HB3
  generalize W3.heap.size = D at *
  go_wp2_with fail
  refine (HLX.out _ HB4.out).mono ?_
  rintro e W5 ⟨rfl, hb5⟩
  have hx5 := HX4.out.below hb5 HX4.out.lt
  have hd5 := HD4.out.below hb5 HD4.out.lt
  have hB5 := bl_step HB4.out hb5
  obtain ⟨y0, y1, y2, y3, ylt⟩ := ccells hx5
  obtain ⟨z0, z1, z2, z3, zlt⟩ := ccells hd5
  clear hb5 hx5 hd5 HX4 HD4 HB4
  have hGH := HGH.out
  have hEF := HEF.out
  rcases hEF with ⟨rfl, rfl, hdc⟩ | rfl
  case' inl =>
    injection hdc with e0 e1 e2 e3
    subst e0 e1 e2 e3
  all_goals
    rcases hGH with ⟨rfl, rfl, rfl⟩ | rfl
  all_goals
    have hb : ∀ t : ByteArray, (t.toList == t.toList) = true := fun t => seq_true rfl
    go_wp2_with fail
    refine (HN1.out _ hB5).mono ?_
    rintro e W6 ⟨rfl, hb6⟩
    have hB6 := bl_step hB5 hb6
    clear y0 y1 y2 y3 ylt z0 z1 z2 z3 zlt hb6 HE
    go_wp2_with fail
    refine (HN2.out _ hB6).mono ?_
    rintro e W7 ⟨rfl, hb7⟩
    have hB7 := bl_step hB6 hb7
    clear hb7
    go_wp2_with fail
    refine (HC1.out _ hB7).mono ?_
    rintro e W8 ⟨rfl, hb8⟩
    have hB8 := bl_step hB7 hb8
    clear hb8
    go_wp2_with fail
    refine (HC2.out _ hB8).mono ?_
    rintro e W9 ⟨rfl, hb9⟩
    have hB9 := bl_step hB8 hb9
    clear hb9 hB5 hB6 hB7 hB8
    by_cases hnm : n = m
    · obtain ⟨e1, e2⟩ := HNm.out hnm
      subst e1 e2
      subst hnm
      have hq : (n == n) = true := by simp
      have hqa := seq_true (rfl : na = na)
      have hqc := seq_true (rfl : ca = ca)
      by_cases hna : na = ⟨#[]⟩
      · subst hna
        by_cases hca : ca = ⟨#[]⟩
        · subst hca
          have HB9 := Lib.hid hB9
          clear hB9
          go_wp2
          go_ret
          exact ⟨by first | rfl | simp, HB9.out⟩
        · have hec := full_test hca
          have HFA2 := Lib.hid (fun W hW => HFA.out W hca hW)
          have HB9 := Lib.hid hB9
          clear hB9 hca
          go_wp2_with fail
          refine (HAN.out _ HB9.out).mono ?_
          rintro e V2 ⟨rfl, hv2⟩
          have HB9 := Lib.hid (bl_step HB9.out hv2)
          clear hv2
          go_wp2_with fail
          refine (HFA2.out _ HB9.out).mono ?_
          rintro e V3 ⟨rfl, hv3⟩
          have HB9 := Lib.hid (bl_step HB9.out hv3)
          clear hv3
          go_wp2
          go_ret
          exact ⟨by first | rfl | simp, HB9.out⟩
      · have hea := full_test hna
        by_cases hca : ca = ⟨#[]⟩
        · subst hca
          have HBN2 := Lib.hid (HBN.out _ hna hB9)
          have HB9 := Lib.hid hB9
          clear hB9 hna
          go_wp2_with fail
          refine HBN2.out.mono ?_
          rintro e V1 ⟨rfl, hv1⟩
          have HB9 := Lib.hid (bl_step HB9.out hv1)
          clear hv1
          go_wp2
          go_ret
          exact ⟨by first | rfl | simp, HB9.out⟩
        · have hec := full_test hca
          have HBN2 := Lib.hid (HBN.out _ hna hB9)
          have HFA2 := Lib.hid (fun W hW => HFA.out W hca hW)
          have HB9 := Lib.hid hB9
          clear hB9 hna hca
          go_wp2_with fail
          refine HBN2.out.mono ?_
          rintro e V1 ⟨rfl, hv1⟩
          have HB9 := Lib.hid (bl_step HB9.out hv1)
          clear hv1
          go_wp2_with fail
          refine (HAN.out _ HB9.out).mono ?_
          rintro e V2 ⟨rfl, hv2⟩
          have HB9 := Lib.hid (bl_step HB9.out hv2)
          clear hv2
          go_wp2_with fail
          refine (HFA2.out _ HB9.out).mono ?_
          rintro e V3 ⟨rfl, hv3⟩
          have HB9 := Lib.hid (bl_step HB9.out hv3)
          clear hv3
          go_wp2
          go_ret
          exact ⟨by first | rfl | simp, HB9.out⟩
    · have hq : (n == m) = false := by simpa using hnm
      by_cases hna : na = ⟨#[]⟩
      · subst hna
        by_cases hca : ca = ⟨#[]⟩
        · subst hca
          have HB9 := Lib.hid hB9
          clear hB9
          go_wp2
          go_ret
          exact ⟨by first | rfl | simp, HB9.out⟩
        · have hec := full_test hca
          have hqc := seq_false (fun h => hnm (HCI.out hca h))
          have HFA2 := Lib.hid (fun W hW => HFA.out W hca hW)
          have HB9 := Lib.hid hB9
          clear hB9 hca
          go_wp2_with fail
          refine (HAN.out _ HB9.out).mono ?_
          rintro e V2 ⟨rfl, hv2⟩
          have HB9 := Lib.hid (bl_step HB9.out hv2)
          clear hv2
          go_wp2_with fail
          refine (HFA2.out _ HB9.out).mono ?_
          rintro e V3 ⟨rfl, hv3⟩
          have HB9 := Lib.hid (bl_step HB9.out hv3)
          clear hv3
          go_wp2
          go_ret
          exact ⟨by first | rfl | simp, HB9.out⟩
      · have hea := full_test hna
        have hqa := seq_false (fun h => hnm (HNI.out hna h))
        by_cases hca : ca = ⟨#[]⟩
        · subst hca
          have HBN2 := Lib.hid (HBN.out _ hna hB9)
          have HB9 := Lib.hid hB9
          clear hB9 hna
          go_wp2_with fail
          refine HBN2.out.mono ?_
          rintro e V1 ⟨rfl, hv1⟩
          have HB9 := Lib.hid (bl_step HB9.out hv1)
          clear hv1
          go_wp2
          go_ret
          exact ⟨by first | rfl | simp, HB9.out⟩
        · have hec := full_test hca
          have hqc := seq_false (fun h => hnm (HCI.out hca h))
          have HBN2 := Lib.hid (HBN.out _ hna hB9)
          have HFA2 := Lib.hid (fun W hW => HFA.out W hca hW)
          have HB9 := Lib.hid hB9
          clear hB9 hna hca
          go_wp2_with fail
          refine HBN2.out.mono ?_
          rintro e V1 ⟨rfl, hv1⟩
          have HB9 := Lib.hid (bl_step HB9.out hv1)
          clear hv1
          go_wp2_with fail
          refine (HAN.out _ HB9.out).mono ?_
          rintro e V2 ⟨rfl, hv2⟩
          have HB9 := Lib.hid (bl_step HB9.out hv2)
          clear hv2
          go_wp2_with fail
          refine (HFA2.out _ HB9.out).mono ?_
          rintro e V3 ⟨rfl, hv3⟩
          have HB9 := Lib.hid (bl_step HB9.out hv3)
          clear hv3
          go_wp2
          go_ret
          exact ⟨by first | rfl | simp, HB9.out⟩
end Go.Proofs.YthmjddnccgiinaaDoor
