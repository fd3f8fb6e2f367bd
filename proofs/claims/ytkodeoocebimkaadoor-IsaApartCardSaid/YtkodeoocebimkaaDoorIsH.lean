/-
  The law IsaApart, walked. Condition: the tables lie as the program's text, and the library's, lay them.
-/
import Derived.Deep.RegionHeld3
import Derived.IntWalk
import Derived.Test.YtkodeoocebimkaaDoorIsG
namespace Go.Proofs.YtkodeoocebimkaaDoor
open Go.RowKit Go.Shelf
set_option linter.unusedVariables false
set_option linter.unusedSimpArgs false
attribute [local go_sem] Oper.semAt_some

theorem addW_pre (q : Bool) (n : Int) (s : List UInt8) : ∃ r, addW q n s = s ++ r := by
  unfold addW
  split
  · exact ⟨_, rfl⟩
  · exact ⟨[], (List.append_nil _).symm⟩
theorem name_pre (x : Ins) : ∃ r, lineI x = nameI x.op ++ r := by
  rw [lineI_is]
  obtain ⟨r1, h1⟩ := addW_pre (decide (0 ≤ fA (fR x.op))) x.a (nameI x.op)
  obtain ⟨r2, h2⟩ := addW_pre (decide (0 ≤ fB (fR x.op))) x.b (addW (decide (0 ≤ fA (fR x.op))) x.a (nameI x.op))
  obtain ⟨r3, h3⟩ := addW_pre (fI (fR x.op)) x.imm (addW (decide (0 ≤ fB (fR x.op))) x.b (addW (decide (0 ≤ fA (fR x.op))) x.a (nameI x.op)))
  exact ⟨r1 ++ (r2 ++ r3), by rw [h3, h2, h1, List.append_assoc, List.append_assoc]⟩
theorem line_inj {x y : Ins} (hx : MayI x) (hy : MayI y) (h : lineI x = lineI y) : x = y := by
  have h1 := read_line hx
  rw [h, read_line hy] at h1
  exact (Option.some.inj h1).symm

set_option maxRecDepth 100000 in
set_option maxHeartbeats 8000000 in
theorem apartLaw_any {w : World} (hG : Ground w) (xo xa xb xm yo ya yb ym : Int) :
    Calls Tryd.prog 4 #[.agg #[.int .i64 xo, .int .i64 xa, .int .i64 xb, .int .i64 xm], .agg #[.int .i64 yo, .int .i64 ya, .int .i64 yb, .int .i64 ym]] w fun e w' => e = .returned (.bool true) ∧ Below w.heap.size w w' := by
  have hx0 := (Blk.new w 23 #[.int .i64 xo, .int .i64 xa, .int .i64 xb, .int .i64 xm]).alloc (.cells #[.int .i64 yo, .int .i64 ya, .int .i64 yb, .int .i64 ym] 23)
  have hy0 := Blk.new (w.alloc (.cells #[.int .i64 xo, .int .i64 xa, .int .i64 xb, .int .i64 xm] 23)) 23 #[.int .i64 yo, .int .i64 ya, .int .i64 yb, .int .i64 ym]
  rw [World.size_alloc] at hy0
  have hb0 := bl_new ((Below.refl w.heap.size w).alloc (Nat.le_refl _) (.cells #[.int .i64 xo, .int .i64 xa, .int .i64 xb, .int .i64 xm] 23)) (.cells #[.int .i64 yo, .int .i64 ya, .int .i64 yb, .int .i64 ym] 23)
  have HAL := Lib.hid (alive_any (hG.below hb0))
  obtain ⟨e, he⟩ : ∃ e, errI ⟨xo, xa, xb, xm⟩ = e := ⟨_, rfl⟩
  obtain ⟨f, hf⟩ : ∃ f, errI ⟨yo, ya, yb, ym⟩ = f := ⟨_, rfl⟩
  obtain ⟨A, hA⟩ : ∃ A, encW ⟨xo, xa, xb, xm⟩ = A := ⟨_, rfl⟩
  obtain ⟨B, hB⟩ : ∃ B, encW ⟨yo, ya, yb, ym⟩ = B := ⟨_, rfl⟩
  have H1 := Lib.hid (fun W (hW : Below w.heap.size w W) => show Calls Tryd.prog 12 #[.agg #[.int .i64 xo, .int .i64 xa, .int .i64 xb, .int .i64 xm]] W fun r w' => r = .returned (.tuple #[.int .u32 A, .int .i64 e]) ∧ Below W.heap.size W w' from by
    have h := encC_any (hG.below hW) ⟨xo, xa, xb, xm⟩
    rw [hA, he] at h
    exact h)
  have H2 := Lib.hid (fun W (hW : Below w.heap.size w W) => show Calls Tryd.prog 12 #[.agg #[.int .i64 yo, .int .i64 ya, .int .i64 yb, .int .i64 ym]] W fun r w' => r = .returned (.tuple #[.int .u32 B, .int .i64 f]) ∧ Below W.heap.size W w' from by
    have h := encC_any (hG.below hW) ⟨yo, ya, yb, ym⟩
    rw [hB, hf] at h
    exact h)
  have HX0 := Lib.hid hx0
  have HY0 := Lib.hid hy0
  by_cases hmay : MayI ⟨xo, xa, xb, xm⟩ ∧ MayI ⟨yo, ya, yb, ym⟩
  · obtain ⟨hmx, hmy⟩ := hmay
    rw [errI_yes hmx] at he
    rw [errI_yes hmy] at hf
    subst he hf
    have hAe : A = encI ⟨xo, xa, xb, xm⟩ := by rw [← hA]; exact if_pos hmx
    have hBe : B = encI ⟨yo, ya, yb, ym⟩ := by rw [← hB]; exact if_pos hmy
    obtain ⟨l, hl⟩ : ∃ l : ByteArray, l = ⟨(lineI ⟨xo, xa, xb, xm⟩).toArray⟩ := ⟨_, rfl⟩
    obtain ⟨m, hm⟩ : ∃ m : ByteArray, m = ⟨(lineI ⟨yo, ya, yb, ym⟩).toArray⟩ := ⟨_, rfl⟩
    obtain ⟨nm, hnm⟩ : ∃ nm : ByteArray, nm = ⟨(nameI xo).toArray⟩ := ⟨_, rfl⟩
    have H3 := Lib.hid (fun W (hW : Below w.heap.size w W) => show Calls Tryd.prog 16 #[.agg #[.int .i64 xo, .int .i64 xa, .int .i64 xb, .int .i64 xm]] W fun r w' => r = .returned (.tuple #[.string l, .int .i64 0]) ∧ Below W.heap.size W w' from by rw [hl]; exact lineI_yes (hG.below hW) xo xa xb xm hmx)
    have H4 := Lib.hid (fun W (hW : Below w.heap.size w W) => show Calls Tryd.prog 16 #[.agg #[.int .i64 yo, .int .i64 ya, .int .i64 yb, .int .i64 ym]] W fun r w' => r = .returned (.tuple #[.string m, .int .i64 0]) ∧ Below W.heap.size W w' from by rw [hm]; exact lineI_yes (hG.below hW) yo ya yb ym hmy)
    have HNMV := Lib.hid hnm
    have HG := Lib.hid hG
    obtain ⟨dq, hdq⟩ : ∃ dq, decide ((⟨xo, xa, xb, xm⟩ : Ins) = ⟨yo, ya, yb, ym⟩) = dq := ⟨_, rfl⟩
    have HE := fun W => eqI ⟨xo, xa, xb, xm⟩ ⟨yo, ya, yb, ym⟩ W
    rw [hdq] at HE
    dsimp only at HE
    have d1 : (A == B) = dq := by
      rw [← hdq, Bool.eq_iff_iff, beq_iff_eq, decide_eq_true_eq, hAe, hBe]
      exact ⟨enc_inj hmx hmy, fun h => by rw [h]⟩
    have d2 : (l.toList == m.toList) = dq := by
      rw [← hdq, Bool.eq_iff_iff, beq_iff_eq, decide_eq_true_eq, Lib.toList_data, Lib.toList_data, hl, hm]
      exact ⟨fun h => line_inj hmx hmy h, fun h => by rw [h]⟩
    have hnl : l.extract 0 nm.size = nm := by
      obtain ⟨r, hr⟩ := name_pre ⟨xo, xa, xb, xm⟩
      refine bytes_eq ?_
      have h1 := ext_take l nm.size
      unfold toL at h1
      rw [h1, hl, hr, hnm]
      show List.take (nameI xo).toArray.size (nameI xo ++ r) = nameI xo
      rw [List.size_toArray, List.take_left']
      rfl
    have hnsz : nm.size ≤ l.size := by
      have h1 := congrArg ByteArray.size hnl
      rw [ByteArray.size_extract] at h1
      omega
    have hlz : l.size ≤ 80 := by
      have h1 := lineI_len hmx
      have e : l.size = (lineI ⟨xo, xa, xb, xm⟩).length := by rw [hl]; exact List.size_toArray
      omega
    have hs := may_small hmx
    simp only at hs
    have hAr := encI_range hmx
    rw [← hAe] at hAr
    unfold RangeW at hAr
    have q0 : A / 16777216 = xo := by rw [hAe]; unfold encI; simp only; omega
    obtain ⟨v1, hv1⟩ : ∃ v, A / 1048576 = v := ⟨_, rfl⟩
    obtain ⟨v2, hv2⟩ : ∃ v, A / 65536 = v := ⟨_, rfl⟩
    have q1 : v1 % 16 = xa := by rw [← hv1, hAe]; unfold encI; simp only; omega
    have q2 : v2 % 16 = xb := by rw [← hv2, hAe]; unfold encI; simp only; omega
    obtain ⟨im, him⟩ : ∃ v, A % 65536 = v := ⟨_, rfl⟩
    have q3 : (im = xm ∧ im < 32768) ∨ (im - 65536 = xm ∧ 32768 ≤ im) := by
      rw [← him, hAe]; unfold encI; simp only; omega
    have t0 : A.tdiv 16777216 = xo := by rw [Int.tdiv_eq_ediv_of_nonneg hAr.1]; exact q0
    have t1 : A.tdiv 1048576 = v1 := by rw [Int.tdiv_eq_ediv_of_nonneg hAr.1]; exact hv1
    have t2 : A.tdiv 65536 = v2 := by rw [Int.tdiv_eq_ediv_of_nonneg hAr.1]; exact hv2
    have t3 : A.tmod 65536 = im := by rw [Int.tmod_eq_emod_of_nonneg hAr.1]; exact him
    have p1 : 0 ≤ v1 := by rw [← hv1]; omega
    have p2 : 0 ≤ v2 := by rw [← hv2]; omega
    have t4 : v1.tmod 16 = xa := by rw [Int.tmod_eq_emod_of_nonneg p1]; exact q1
    have t5 : v2.tmod 16 = xb := by rw [Int.tmod_eq_emod_of_nonneg p2]; exact q2
    have p3 : 0 ≤ im ∧ im < 65536 := by rw [← him]; omega
    have HW := Lib.hid (show IntKind.i64.wrap xo = xo ∧ IntKind.i64.wrap v1 = v1 ∧ IntKind.i64.wrap v2 = v2 ∧ IntKind.i64.wrap xa = xa ∧ IntKind.i64.wrap xb = xb from by
      have u1 : v1 ≤ 4294967295 := by rw [← hv1]; omega
      have u2 : v2 ≤ 4294967295 := by rw [← hv2]; omega
      clear q0 q1 q2 him hv1 hv2 t0 t1 t2 t3 t4 t5 q3
      exact ⟨IntWalk.i64_in _ (by omega), IntWalk.i64_in _ (by omega), IntWalk.i64_in _ (by omega), IntWalk.i64_in _ (by omega), IntWalk.i64_in _ (by omega)⟩)
    have n0 : (0 : Int) ≤ (nm.size : Int) := by omega
    have n1 : (nm.size : Int) ≤ (l.size : Int) := by omega
    clear hmx hmy hAe hBe hA hB hl hm hnm hdq hG hlz
    have HWW := Lib.hid (⟨q0, q1, q2, him, hv1, hv2, t0, t1, t2, t3, t4, t5⟩ : A / 16777216 = xo ∧ v1 % 16 = xa ∧ v2 % 16 = xb ∧ A % 65536 = im ∧ A / 1048576 = v1 ∧ A / 65536 = v2 ∧ A.tdiv 16777216 = xo ∧ A.tdiv 1048576 = v1 ∧ A.tdiv 65536 = v2 ∧ A.tmod 65536 = im ∧ v1.tmod 16 = xa ∧ v2.tmod 16 = xb)
    have HD := Lib.hid (⟨d1, d2, hnl⟩ : (A == B) = dq ∧ (l.toList == m.toList) = dq ∧ l.extract 0 nm.size = nm)
    clear q0 q1 q2 him hv1 hv2 t0 t1 t2 t3 t4 t5 d1 d2 hnl hx0 hy0
    have HB0 := Lib.hid hb0
    go_enter Tryd.func4, Tryd.ntmps4
    go_wp2_with fail
    refine HAL.out.mono ?_
    rintro e W1 ⟨rfl, hb1⟩
    have HX1 := Lib.hid (HX0.out.below hb1 HX0.out.lt)
    have HY1 := Lib.hid (HY0.out.below hb1 HY0.out.lt)
    have HB1 := Lib.hid (bl_step hb0 hb1)
    clear hb0 hb1
    obtain ⟨x0, x1, x2, x3, x4⟩ := ccells HX1.out
    go_wp2_with fail
    refine (H1.out _ HB1.out).mono ?_
    rintro e W2 ⟨rfl, hb2⟩
    clear x0 x1 x2 x3 x4
    have HX2 := Lib.hid (HX1.out.below hb2 HX1.out.lt)
    have HY2 := Lib.hid (HY1.out.below hb2 HY1.out.lt)
    have HB2 := Lib.hid (bl_step HB1.out hb2)
    clear hb2
    obtain ⟨y0, y1, y2, y3, y4⟩ := ccells HY2.out
    go_wp2_with fail
    refine (H2.out _ HB2.out).mono ?_
    rintro e W3 ⟨rfl, hb3⟩
    clear y0 y1 y2 y3 y4
    have HX3 := Lib.hid (HX2.out.below hb3 HX2.out.lt)
    have HY3 := Lib.hid (HY2.out.below hb3 HY2.out.lt)
    have HB3 := Lib.hid (bl_step HB2.out hb3)
    clear hb3
    obtain ⟨x0, x1, x2, x3, x4⟩ := ccells HX3.out
    go_wp2_with fail
    refine (H3.out _ HB3.out).mono ?_
    rintro e W4 ⟨rfl, hb4⟩
    clear x0 x1 x2 x3 x4
    have HX4 := Lib.hid (HX3.out.below hb4 HX3.out.lt)
    have HY4 := Lib.hid (HY3.out.below hb4 HY3.out.lt)
    have HB4 := Lib.hid (bl_step HB3.out hb4)
    clear hb4
    obtain ⟨y0, y1, y2, y3, y4⟩ := ccells HY4.out
    go_wp2_with fail
    refine (H4.out _ HB4.out).mono ?_
    rintro e W5 ⟨rfl, hb5⟩
    clear y0 y1 y2 y3 y4
    have HX5 := Lib.hid (HX4.out.below hb5 HX4.out.lt)
    have HY5 := Lib.hid (HY4.out.below hb5 HY4.out.lt)
    have HB5 := Lib.hid (bl_step HB4.out hb5)
    clear hb5
    obtain ⟨_, _, _, him, _, _, _, _, _, t3, _, _⟩ := HWW.out
    have HKK := Lib.hid (fun X (hX : Below W5.heap.size W5 X) => show X.cell? ⟨w.heap.size, 0, none⟩ = some (.int .i64 xo) ∧ X.cell? ⟨w.heap.size, 1, none⟩ = some (.int .i64 xa) ∧ X.cell? ⟨w.heap.size, 2, none⟩ = some (.int .i64 xb) ∧ X.cell? ⟨w.heap.size, 3, none⟩ = some (.int .i64 xm) ∧ X.cell? ⟨w.heap.size + 1, 0, none⟩ = some (.int .i64 yo) ∧ X.cell? ⟨w.heap.size + 1, 1, none⟩ = some (.int .i64 ya) ∧ X.cell? ⟨w.heap.size + 1, 2, none⟩ = some (.int .i64 yb) ∧ X.cell? ⟨w.heap.size + 1, 3, none⟩ = some (.int .i64 ym) from by
      obtain ⟨x0, x1, x2, x3, _⟩ := ccells (HX5.out.below hX HX5.out.lt)
      obtain ⟨y0, y1, y2, y3, _⟩ := ccells (HY5.out.below hX HY5.out.lt)
      exact ⟨x0, x1, x2, x3, y0, y1, y2, y3⟩)
    have HNN := Lib.hid (fun X (hX : Below W5.heap.size W5 X) => show Calls Tryd.prog 20 #[.int .i64 xo] X fun r w' => r = .returned (.string nm) ∧ Below W5.heap.size W5 w' from by
      rw [HNMV.out]
      exact (name_any (HG.out.below (HB5.out.trans (hX.mono HB5.out.size))).laid xo).mono fun r w' h => ⟨h.1, bl_step hX h.2⟩)
    have HR5 := Lib.hid (Below.refl W5.heap.size W5)
    have HBW := Lib.hid (fun X (hX : Below W5.heap.size W5 X) => HB5.out.trans (hX.mono HB5.out.size))
    clear HX0 HY0 HX1 HY1 HB1 HX2 HY2 HB2 HX3 HY3 HB3 HX4 HY4 HB4 HB0 H1 H2 H3 H4
    rcases q3 with ⟨rfl, q4⟩ | ⟨q5, q4⟩
    · go_upto_region 12 with (fail)
      clear him t3
      obtain ⟨_, _, _, _, _, _, t0, t1, t2, _, t4, t5⟩ := HWW.out
      obtain ⟨w0, w1, w2, w3, w4⟩ := HW.out
      obtain ⟨d1, d2, hnl⟩ := HD.out
      generalize hbx : w.heap.size = bx at *
      have HBXX := Lib.hid hbx
      clear hbx
      go_region_held3 (fun X => X.cell? ⟨bx, 0, none⟩ = some (.int .i64 xo) ∧ X.cell? ⟨bx, 1, none⟩ = some (.int .i64 xa) ∧ X.cell? ⟨bx, 2, none⟩ = some (.int .i64 xb) ∧ X.cell? ⟨bx, 3, none⟩ = some (.int .i64 im) ∧ X.cell? ⟨bx + 1, 0, none⟩ = some (.int .i64 yo) ∧ X.cell? ⟨bx + 1, 1, none⟩ = some (.int .i64 ya) ∧ X.cell? ⟨bx + 1, 2, none⟩ = some (.int .i64 yb) ∧ X.cell? ⟨bx + 1, 3, none⟩ = some (.int .i64 ym))
        (first | exact (have h : Below W5.heap.size W5 _ := (by repeat (first | assumption | exact HR5.out | refine Below.drew ?_ | refine belowN ?_ _)); HKK.out _ h))
        (first | (go_at_call 20; refine (HNN.out _ ?_).mono ?_; (focus (repeat (first | assumption | exact HR5.out | refine Below.drew ?_ | refine belowN ?_ _))); rintro e W6 ⟨rfl, hW6⟩))
      all_goals
        go_wp2
        go_ret
        exact ⟨by first | rfl | simp, by rw [HBXX.out]; exact HBW.out _ (by repeat (first | assumption | exact HR5.out | refine Below.drew ?_ | refine belowN ?_ _))⟩
    · go_upto_region 12 with (fail)
      clear him t3
      obtain ⟨_, _, _, _, _, _, t0, t1, t2, _, t4, t5⟩ := HWW.out
      obtain ⟨w0, w1, w2, w3, w4⟩ := HW.out
      obtain ⟨d1, d2, hnl⟩ := HD.out
      generalize hbx : w.heap.size = bx at *
      have HBXX := Lib.hid hbx
      clear hbx
      go_region_held3 (fun X => X.cell? ⟨bx, 0, none⟩ = some (.int .i64 xo) ∧ X.cell? ⟨bx, 1, none⟩ = some (.int .i64 xa) ∧ X.cell? ⟨bx, 2, none⟩ = some (.int .i64 xb) ∧ X.cell? ⟨bx, 3, none⟩ = some (.int .i64 xm) ∧ X.cell? ⟨bx + 1, 0, none⟩ = some (.int .i64 yo) ∧ X.cell? ⟨bx + 1, 1, none⟩ = some (.int .i64 ya) ∧ X.cell? ⟨bx + 1, 2, none⟩ = some (.int .i64 yb) ∧ X.cell? ⟨bx + 1, 3, none⟩ = some (.int .i64 ym))
        (first | exact (have h : Below W5.heap.size W5 _ := (by repeat (first | assumption | exact HR5.out | refine Below.drew ?_ | refine belowN ?_ _)); HKK.out _ h))
        (first | (go_at_call 20; refine (HNN.out _ ?_).mono ?_; (focus (repeat (first | assumption | exact HR5.out | refine Below.drew ?_ | refine belowN ?_ _))); rintro e W6 ⟨rfl, hW6⟩))
      all_goals
        go_wp2
        go_ret
        exact ⟨by first | rfl | simp, by rw [HBXX.out]; exact HBW.out _ (by repeat (first | assumption | exact HR5.out | refine Below.drew ?_ | refine belowN ?_ _))⟩
  · have hne : e = 30 ∨ (e = 0 ∧ f = 30) := by
      by_cases h1 : MayI ⟨xo, xa, xb, xm⟩
      · have h2 : ¬ MayI ⟨yo, ya, yb, ym⟩ := fun h2 => hmay ⟨h1, h2⟩
        exact .inr ⟨by rw [← he]; exact errI_yes h1, by rw [← hf]; exact errI_no h2⟩
      · exact .inl (by rw [← he]; exact errI_no h1)
    clear hmay he hf hA hB hG hx0 hy0
    rcases hne with rfl | ⟨rfl, rfl⟩
    all_goals
      go_enter Tryd.func4, Tryd.ntmps4
      go_wp2_with fail
      refine HAL.out.mono ?_
      rintro e W1 ⟨rfl, hb1⟩
      have HX1 := Lib.hid (HX0.out.below hb1 HX0.out.lt)
      have HY1 := Lib.hid (HY0.out.below hb1 HY0.out.lt)
      have HB1 := Lib.hid (bl_step hb0 hb1)
      clear hb0 hb1
      obtain ⟨x0, x1, x2, x3, x4⟩ := ccells HX1.out
      go_wp2_with fail
      refine (H1.out _ HB1.out).mono ?_
      rintro e W2 ⟨rfl, hb2⟩
      clear x0 x1 x2 x3 x4
      have HY2 := Lib.hid (HY1.out.below hb2 HY1.out.lt)
      have HB2 := Lib.hid (bl_step HB1.out hb2)
      clear hb2
      obtain ⟨y0, y1, y2, y3, y4⟩ := ccells HY2.out
      go_wp2_with fail
      refine (H2.out _ HB2.out).mono ?_
      rintro e W3 ⟨rfl, hb3⟩
      have HB3 := Lib.hid (bl_step HB2.out hb3)
      clear hb3 y0 y1 y2 y3 y4
      go_wp2
      go_ret
      exact ⟨rfl, HB3.out⟩
end Go.Proofs.YtkodeoocebimkaaDoor
