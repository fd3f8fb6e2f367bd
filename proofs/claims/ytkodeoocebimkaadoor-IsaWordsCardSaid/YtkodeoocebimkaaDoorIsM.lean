/-
  The law IsaWords, walked. Condition: the tables lie as the program's text, and the library's, lay them.
-/
import Derived.Deep.RegionHeld3
import Derived.Test.YtkodeoocebimkaaDoorIsG
import Derived.Test.YtkodeoocebimkaaDoorRi2
import Derived.Test.YtkodeoocebimkaaDoorRiE
import Derived.Test.YtkodeoocebimkaaDoorRi5
namespace Go.Proofs.YtkodeoocebimkaaDoor
open Go.RowKit Go.Shelf
set_option linter.unusedVariables false
set_option linter.unusedSimpArgs false
attribute [local go_sem] Oper.semAt_some

set_option maxRecDepth 100000 in
set_option maxHeartbeats 8000000 in
theorem words_walk {w : World} (xo xa xb xm wv A e yo ya yb ym f uo ua ub um k op : Int) (s l nm : ByteArray) (bI : Bool) (hs : s.size ≤ 80)
    (H1 : Hid (∀ W, Below w.heap.size w W → Calls Tryd.prog 10 #[.agg #[.int .i64 xo, .int .i64 xa, .int .i64 xb, .int .i64 xm]] W fun r w' => r = .returned (.bool bI) ∧ Below W.heap.size W w'))
    (H2 : Hid (∀ W, Below w.heap.size w W → Calls Tryd.prog 11 #[.agg #[.int .i64 xo, .int .i64 xa, .int .i64 xb, .int .i64 xm]] W fun r w' => r = .returned (.int .i64 e) ∧ Below W.heap.size W w'))
    (H3 : Hid (∀ W, Below w.heap.size w W → Calls Tryd.prog 12 #[.agg #[.int .i64 xo, .int .i64 xa, .int .i64 xb, .int .i64 xm]] W fun r w' => r = .returned (.tuple #[.int .u32 A, .int .i64 e]) ∧ Below W.heap.size W w'))
    (H4 : Hid (∀ W, Below w.heap.size w W → Calls Tryd.prog 13 #[.agg #[.int .i64 xo, .int .i64 xa, .int .i64 xb, .int .i64 xm]] W fun r w' => r = .returned (.tuple #[.int .u32 A, .int .i64 e]) ∧ Below W.heap.size W w'))
    (H5 : Hid (∀ W, Below w.heap.size w W → Calls Tryd.prog 14 #[.int .u32 wv] W fun r w' => r = .returned (.tuple #[.agg #[.int .i64 yo, .int .i64 ya, .int .i64 yb, .int .i64 ym], .int .i64 f]) ∧ Below W.heap.size W w'))
    (H6 : Hid (∀ W, Below w.heap.size w W → Calls Tryd.prog 15 #[.int .u32 wv] W fun r w' => r = .returned (.tuple #[.agg #[.int .i64 yo, .int .i64 ya, .int .i64 yb, .int .i64 ym], .int .i64 f]) ∧ Below W.heap.size W w'))
    (H7 : Hid (∀ W, Below w.heap.size w W → Calls Tryd.prog 16 #[.agg #[.int .i64 xo, .int .i64 xa, .int .i64 xb, .int .i64 xm]] W fun r w' => r = .returned (.tuple #[.string l, .int .i64 e]) ∧ Below W.heap.size W w'))
    (H8 : Hid (∀ W, Below w.heap.size w W → Calls Tryd.prog 17 #[.agg #[.int .i64 xo, .int .i64 xa, .int .i64 xb, .int .i64 xm]] W fun r w' => r = .returned (.tuple #[.string l, .int .i64 e]) ∧ Below W.heap.size W w'))
    (H9 : Hid (∀ W, Below w.heap.size w W → Calls Tryd.prog 18 #[.string s] W fun r w' => r = .returned (.tuple #[.agg #[.int .i64 uo, .int .i64 ua, .int .i64 ub, .int .i64 um], .int .i64 k]) ∧ Below W.heap.size W w'))
    (H10 : Hid (∀ W, Below w.heap.size w W → Calls Tryd.prog 19 #[.string s] W fun r w' => r = .returned (.tuple #[.agg #[.int .i64 uo, .int .i64 ua, .int .i64 ub, .int .i64 um], .int .i64 k]) ∧ Below W.heap.size W w'))
    (HN1 : Hid (∀ W, Below w.heap.size w W → Calls Tryd.prog 20 #[.int .i64 op] W fun r w' => r = .returned (.string nm) ∧ Below W.heap.size W w'))
    (HN2 : Hid (∀ W, Below w.heap.size w W → Calls Tryd.prog 21 #[.int .i64 op] W fun r w' => r = .returned (.string nm) ∧ Below W.heap.size W w'))
    (HEB : Hid ((bI = true ∧ e = 0) ∨ (bI = false ∧ e = 30))) :
    Calls Tryd.prog 3 #[.agg #[.int .i64 xo, .int .i64 xa, .int .i64 xb, .int .i64 xm], .int .u32 wv, .string s, .int .i64 op] w fun e w' => e = .returned (.bool true) ∧ Below w.heap.size w w' := by
  have HY := fun W => eqI_same ⟨yo, ya, yb, ym⟩ W
  have HU := fun W => eqI_same ⟨uo, ua, ub, um⟩ W
  dsimp only at HY HU
  have HBx := Lib.hid (Blk.new w 23 #[.int .i64 xo, .int .i64 xa, .int .i64 xb, .int .i64 xm])
  have HBW := Lib.hid ((Below.refl w.heap.size w).alloc (Nat.le_refl _) (.cells #[.int .i64 xo, .int .i64 xa, .int .i64 xb, .int .i64 xm] 23))
  have hs1 : ¬ (80 : Int) < (s.size : Int) := by omega
  go_enter Tryd.func3, Tryd.ntmps3
  · generalize hWx : World.alloc w (.cells #[.int .i64 xo, .int .i64 xa, .int .i64 xb, .int .i64 xm] 23) = Vx at *
    obtain ⟨x0, x1, x2, x3, x4⟩ := ccells HBx.out
    go_wp2_with fail
    refine (H1.out _ HBW.out).mono ?_
    rintro e V ⟨rfl, hb⟩
    clear x0 x1 x2 x3 x4
    have hnx := (HBx.out.below hb HBx.out.lt)
    have hbw := bl_step HBW.out hb
    clear hb HBx HBW
    have HBx := Lib.hid hnx
    have HBW := Lib.hid hbw
    clear hbw hnx
    obtain ⟨x0, x1, x2, x3, x4⟩ := ccells HBx.out
    go_wp2_with fail
    refine (H2.out _ HBW.out).mono ?_
    rintro e V ⟨rfl, hb⟩
    clear x0 x1 x2 x3 x4
    have hnx := (HBx.out.below hb HBx.out.lt)
    have hbw := bl_step HBW.out hb
    clear hb HBx HBW
    have HBx := Lib.hid hnx
    have HBW := Lib.hid hbw
    clear hbw hnx
    obtain ⟨x0, x1, x2, x3, x4⟩ := ccells HBx.out
    go_wp2_with fail
    refine (H3.out _ HBW.out).mono ?_
    rintro e V ⟨rfl, hb⟩
    clear x0 x1 x2 x3 x4
    have hnx := (HBx.out.below hb HBx.out.lt)
    have hbw := bl_step HBW.out hb
    clear hb HBx HBW
    have HBx := Lib.hid hnx
    have HBW := Lib.hid hbw
    clear hbw hnx
    obtain ⟨x0, x1, x2, x3, x4⟩ := ccells HBx.out
    go_wp2_with fail
    refine (H4.out _ HBW.out).mono ?_
    rintro e V ⟨rfl, hb⟩
    clear x0 x1 x2 x3 x4
    have hnx := (HBx.out.below hb HBx.out.lt)
    have hbw := bl_step HBW.out hb
    clear hb HBx HBW
    have HBx := Lib.hid hnx
    have HBW := Lib.hid hbw
    clear hbw hnx
    go_wp2_with fail
    refine (H5.out _ HBW.out).mono ?_
    rintro e V ⟨rfl, hb⟩
    have hnx := (HBx.out.below hb HBx.out.lt).alloc (.cells #[.int .i64 yo, .int .i64 ya, .int .i64 yb, .int .i64 ym] 23)
    have hny := Blk.new V 23 #[.int .i64 yo, .int .i64 ya, .int .i64 yb, .int .i64 ym]
    have hbw := bl_new (bl_step HBW.out hb) (.cells #[.int .i64 yo, .int .i64 ya, .int .i64 yb, .int .i64 ym] 23)
    clear hb HBx HBW
    have HBx := Lib.hid hnx
    have HBy := Lib.hid hny
    have HBW := Lib.hid hbw
    clear hbw hnx hny
    go_wp2_with fail
    generalize hWy : World.alloc V (.cells #[.int .i64 yo, .int .i64 ya, .int .i64 yb, .int .i64 ym] 23) = Vy at *
    generalize hAy : V.heap.size = Ay at *
    clear hWy hAy
    refine (H6.out _ HBW.out).mono ?_
    rintro e V ⟨rfl, hb⟩
    have hnx := (HBx.out.below hb HBx.out.lt).alloc (.cells #[.int .i64 yo, .int .i64 ya, .int .i64 yb, .int .i64 ym] 23)
    have hny := (HBy.out.below hb HBy.out.lt).alloc (.cells #[.int .i64 yo, .int .i64 ya, .int .i64 yb, .int .i64 ym] 23)
    have hnq := Blk.new V 23 #[.int .i64 yo, .int .i64 ya, .int .i64 yb, .int .i64 ym]
    have hbw := bl_new (bl_step HBW.out hb) (.cells #[.int .i64 yo, .int .i64 ya, .int .i64 yb, .int .i64 ym] 23)
    clear hb HBx HBy HBW
    have HBx := Lib.hid hnx
    have HBy := Lib.hid hny
    have HBq := Lib.hid hnq
    have HBW := Lib.hid hbw
    clear hbw hnx hny hnq
    obtain ⟨x0, x1, x2, x3, x4⟩ := ccells HBx.out
    go_wp2_with fail
    generalize hWq : World.alloc V (.cells #[.int .i64 yo, .int .i64 ya, .int .i64 yb, .int .i64 ym] 23) = Vq at *
    generalize hAq : V.heap.size = Aq at *
    clear hWq hAq
    refine (H7.out _ HBW.out).mono ?_
    rintro e V ⟨rfl, hb⟩
    clear x0 x1 x2 x3 x4
    have hnx := (HBx.out.below hb HBx.out.lt)
    have hny := (HBy.out.below hb HBy.out.lt)
    have hnq := (HBq.out.below hb HBq.out.lt)
    have hbw := bl_step HBW.out hb
    clear hb HBx HBy HBq HBW
    have HBx := Lib.hid hnx
    have HBy := Lib.hid hny
    have HBq := Lib.hid hnq
    have HBW := Lib.hid hbw
    clear hbw hnx hny hnq
    obtain ⟨x0, x1, x2, x3, x4⟩ := ccells HBx.out
    go_wp2_with fail
    refine (H8.out _ HBW.out).mono ?_
    rintro e V ⟨rfl, hb⟩
    clear x0 x1 x2 x3 x4
    have hnx := (HBx.out.below hb HBx.out.lt)
    have hny := (HBy.out.below hb HBy.out.lt)
    have hnq := (HBq.out.below hb HBq.out.lt)
    have hbw := bl_step HBW.out hb
    clear hb HBx HBy HBq HBW
    have HBx := Lib.hid hnx
    have HBy := Lib.hid hny
    have HBq := Lib.hid hnq
    have HBW := Lib.hid hbw
    clear hbw hnx hny hnq
    go_wp2_with fail
    refine (H9.out _ HBW.out).mono ?_
    rintro e V ⟨rfl, hb⟩
    have hnx := (HBx.out.below hb HBx.out.lt).alloc (.cells #[.int .i64 uo, .int .i64 ua, .int .i64 ub, .int .i64 um] 23)
    have hny := (HBy.out.below hb HBy.out.lt).alloc (.cells #[.int .i64 uo, .int .i64 ua, .int .i64 ub, .int .i64 um] 23)
    have hnq := (HBq.out.below hb HBq.out.lt).alloc (.cells #[.int .i64 uo, .int .i64 ua, .int .i64 ub, .int .i64 um] 23)
    have hnu := Blk.new V 23 #[.int .i64 uo, .int .i64 ua, .int .i64 ub, .int .i64 um]
    have hbw := bl_new (bl_step HBW.out hb) (.cells #[.int .i64 uo, .int .i64 ua, .int .i64 ub, .int .i64 um] 23)
    clear hb HBx HBy HBq HBW
    have HBx := Lib.hid hnx
    have HBy := Lib.hid hny
    have HBq := Lib.hid hnq
    have HBu := Lib.hid hnu
    have HBW := Lib.hid hbw
    clear hbw hnx hny hnq hnu
    go_wp2_with fail
    generalize hWu : World.alloc V (.cells #[.int .i64 uo, .int .i64 ua, .int .i64 ub, .int .i64 um] 23) = Vu at *
    generalize hAu : V.heap.size = Au at *
    clear hWu hAu
    refine (H10.out _ HBW.out).mono ?_
    rintro e V ⟨rfl, hb⟩
    have hnx := (HBx.out.below hb HBx.out.lt).alloc (.cells #[.int .i64 uo, .int .i64 ua, .int .i64 ub, .int .i64 um] 23)
    have hny := (HBy.out.below hb HBy.out.lt).alloc (.cells #[.int .i64 uo, .int .i64 ua, .int .i64 ub, .int .i64 um] 23)
    have hnq := (HBq.out.below hb HBq.out.lt).alloc (.cells #[.int .i64 uo, .int .i64 ua, .int .i64 ub, .int .i64 um] 23)
    have hnu := (HBu.out.below hb HBu.out.lt).alloc (.cells #[.int .i64 uo, .int .i64 ua, .int .i64 ub, .int .i64 um] 23)
    have hnv := Blk.new V 23 #[.int .i64 uo, .int .i64 ua, .int .i64 ub, .int .i64 um]
    have hbw := bl_new (bl_step HBW.out hb) (.cells #[.int .i64 uo, .int .i64 ua, .int .i64 ub, .int .i64 um] 23)
    clear hb HBx HBy HBq HBu HBW
    have HBx := Lib.hid hnx
    have HBy := Lib.hid hny
    have HBq := Lib.hid hnq
    have HBu := Lib.hid hnu
    have HBv := Lib.hid hnv
    have HBW := Lib.hid hbw
    clear hbw hnx hny hnq hnu hnv
    go_upto_region 13 with (fail)
    generalize hWv : World.alloc V (.cells #[.int .i64 uo, .int .i64 ua, .int .i64 ub, .int .i64 um] 23) = Vv at *
    generalize hAv : V.heap.size = Av at *
    clear hWv hAv
    have HKK := Lib.hid (fun X (hX : Below Vv.heap.size Vv X) => show X.cell? ⟨Ay, 0, none⟩ = some (.int .i64 yo) ∧ X.cell? ⟨Ay, 1, none⟩ = some (.int .i64 ya) ∧ X.cell? ⟨Ay, 2, none⟩ = some (.int .i64 yb) ∧ X.cell? ⟨Ay, 3, none⟩ = some (.int .i64 ym) ∧ X.cell? ⟨Aq, 0, none⟩ = some (.int .i64 yo) ∧ X.cell? ⟨Aq, 1, none⟩ = some (.int .i64 ya) ∧ X.cell? ⟨Aq, 2, none⟩ = some (.int .i64 yb) ∧ X.cell? ⟨Aq, 3, none⟩ = some (.int .i64 ym) ∧ X.cell? ⟨Au, 0, none⟩ = some (.int .i64 uo) ∧ X.cell? ⟨Au, 1, none⟩ = some (.int .i64 ua) ∧ X.cell? ⟨Au, 2, none⟩ = some (.int .i64 ub) ∧ X.cell? ⟨Au, 3, none⟩ = some (.int .i64 um) ∧ X.cell? ⟨Av, 0, none⟩ = some (.int .i64 uo) ∧ X.cell? ⟨Av, 1, none⟩ = some (.int .i64 ua) ∧ X.cell? ⟨Av, 2, none⟩ = some (.int .i64 ub) ∧ X.cell? ⟨Av, 3, none⟩ = some (.int .i64 um) from by
      obtain ⟨y0, y1, y2, y3, _⟩ := ccells (HBy.out.below hX HBy.out.lt)
      obtain ⟨q0, q1, q2, q3, _⟩ := ccells (HBq.out.below hX HBq.out.lt)
      obtain ⟨u0, u1, u2, u3, _⟩ := ccells (HBu.out.below hX HBu.out.lt)
      obtain ⟨v0, v1, v2, v3, _⟩ := ccells (HBv.out.below hX HBv.out.lt)
      exact ⟨y0, y1, y2, y3, q0, q1, q2, q3, u0, u1, u2, u3, v0, v1, v2, v3⟩)
    have HBX := Lib.hid (fun X (hX : Below Vv.heap.size Vv X) => HBW.out.trans (hX.mono HBW.out.size))
    have HM1 := Lib.hid (fun X (hX : Below Vv.heap.size Vv X) => (HN1.out _ (HBX.out _ hX)).mono (R' := fun r w' => r = .returned (.string nm) ∧ Below Vv.heap.size Vv w') fun r w' h => ⟨h.1, bl_step hX h.2⟩)
    have HM2 := Lib.hid (fun X (hX : Below Vv.heap.size Vv X) => (HN2.out _ (HBX.out _ hX)).mono (R' := fun r w' => r = .returned (.string nm) ∧ Below Vv.heap.size Vv w') fun r w' h => ⟨h.1, bl_step hX h.2⟩)
    have HR := Lib.hid (Below.refl Vv.heap.size Vv)
    clear H1 H2 H3 H4 H5 H6 H7 H8 H9 H10 HN1 HN2 HBW HBx HBy HBq HBu HBv
    rcases HEB.out with ⟨rfl, rfl⟩ | ⟨rfl, rfl⟩
    all_goals
      clear HEB
      obtain ⟨y0, y1, y2, y3, q0, q1, q2, q3, u0, u1, u2, u3, v0, v1, v2, v3⟩ := HKK.out _ HR.out
      go_wp2_with fail
      refine (HM1.out _ HR.out).mono ?_
      rintro e W6 ⟨rfl, hW6⟩
      have HW6 := Lib.hid hW6
      clear hW6
      go_wp2_with fail
      refine (HM2.out _ HW6.out).mono ?_
      rintro e W7 ⟨rfl, hW7⟩
      have HB := Lib.hid (HBX.out _ hW7)
      clear hW7
      go_wp2
      go_ret
      exact ⟨by first | rfl | simp, HB.out⟩

theorem wordsLaw_any {w : World} (hG : Ground w) (xo xa xb xm wv : Int) (hw : RangeW wv) (s : ByteArray) (hs : s.size ≤ maxLen) (op : Int) :
    Calls Tryd.prog 3 #[.agg #[.int .i64 xo, .int .i64 xa, .int .i64 xb, .int .i64 xm], .int .u32 wv, .string s, .int .i64 op] w fun e w' => e = .returned (.bool true) ∧ Below w.heap.size w w' := by
  by_cases hbig : 80 < s.size
  · have hb1 : (80 : Int) < (s.size : Int) := by unfold maxLen at hs; omega
    have hb0 := (Below.refl w.heap.size w).alloc (Nat.le_refl _) (.cells #[.int .i64 xo, .int .i64 xa, .int .i64 xb, .int .i64 xm] 23)
    have HB := Lib.hid hb0
    clear hw hG hb0
    go_enter Tryd.func3, Tryd.ntmps3
    go_wp2
    go_ret
    exact ⟨rfl, HB.out⟩
  · have hM := mayC
    obtain ⟨y, hy⟩ : ∃ y, decO wv = y := ⟨_, rfl⟩
    obtain ⟨u, hu⟩ : ∃ u, readX s.data.toList = u := ⟨_, rfl⟩
    refine words_walk xo xa xb xm wv (encW ⟨xo, xa, xb, xm⟩) (errI ⟨xo, xa, xb, xm⟩) y.op y.a y.b y.imm (errI (decI wv)) u.op u.a u.b u.imm (readE s.data.toList) op s (lineB ⟨xo, xa, xb, xm⟩) (fN (fR op)) (decide (MayI ⟨xo, xa, xb, xm⟩)) (by omega)
      (Lib.hid fun W hW => hM W xo xa xb xm)
      (Lib.hid fun W hW => check_any (hG.below hW).laid xo xa xb xm)
      (Lib.hid fun W hW => encode_any (hG.below hW).laid xo xa xb xm)
      (Lib.hid fun W hW => refEncode_any hM xo xa xb xm)
      (Lib.hid fun W hW => decC_any (hG.below hW) wv hw y _ hy rfl)
      (Lib.hid fun W hW => by have h := refDecode_any hM (w := W) wv hw; rw [hy] at h; exact h)
      (Lib.hid fun W hW => line_any (hG.below hW) ⟨xo, xa, xb, xm⟩)
      (Lib.hid fun W hW => ?_)
      (Lib.hid fun W hW => readC_any (hG.below hW) s (by omega) u _ hu rfl)
      (Lib.hid fun W hW => by have h := refRead_any hM (w := W) s (by omega); rw [hu] at h; exact h)
      (Lib.hid fun W hW => name_any (hG.below hW).laid op)
      (Lib.hid fun W hW => refName_any op)
      (Lib.hid ?_)
    · by_cases h : MayI ⟨xo, xa, xb, xm⟩
      · have h1 := refLine_yes hM (w := W) xo xa xb xm h
        have e : lineB ⟨xo, xa, xb, xm⟩ = ⟨(lineI ⟨xo, xa, xb, xm⟩).toArray⟩ := if_pos h
        rw [e, errI_yes h]
        exact h1
      · have h1 := refLine_no hM (w := W) xo xa xb xm h
        have e : lineB ⟨xo, xa, xb, xm⟩ = ⟨#[]⟩ := if_neg h
        rw [e, errI_no h]
        exact h1
    · by_cases h : MayI ⟨xo, xa, xb, xm⟩
      · exact .inl ⟨decide_eq_true h, errI_yes h⟩
      · exact .inr ⟨decide_eq_false h, errI_no h⟩
end Go.Proofs.YtkodeoocebimkaaDoor
