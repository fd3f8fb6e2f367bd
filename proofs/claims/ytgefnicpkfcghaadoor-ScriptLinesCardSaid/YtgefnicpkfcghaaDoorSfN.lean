/-
  The law ScriptLines, walked. Condition: the tables lie as the program's text, and the library's, lay them.
-/
import Derived.Test.YtgefnicpkfcghaaDoorSfR
import Derived.Test.YtgefnicpkfcghaaDoorScG
namespace Go.Proofs.YtgefnicpkfcghaaDoor
open Go.RowKit Go.Shelf
set_option linter.unusedVariables false
set_option linter.unusedSimpArgs false
attribute [local go_sem] Oper.semAt_some

set_option maxRecDepth 100000 in
set_option maxHeartbeats 8000000 in
theorem lines_walk {w0 : World} (xk xco xn xp xs xm yk yco yn yp ys ym e g kd : Int) (xw yw s l nm : ByteArray) (hs : ¬ (300 : Int) < (s.size : Int)) (hxw : ¬ (300 : Int) < (xw.size : Int))
    (H1 : Hid (∀ W, Below w0.heap.size w0 W → Calls Tryd.prog 10 #[.agg #[.int .i64 xk, .int .i64 xco, .int .i64 xn, .int .i64 xp, .int .i64 xs, .int .u32 xm, .string xw]] W fun r w' => r = .returned (.tuple #[.string l, .int .i64 e]) ∧ Below W.heap.size W w'))
    (H2 : Hid (∀ W, Below w0.heap.size w0 W → Calls Tryd.prog 11 #[.agg #[.int .i64 xk, .int .i64 xco, .int .i64 xn, .int .i64 xp, .int .i64 xs, .int .u32 xm, .string xw]] W fun r w' => r = .returned (.tuple #[.string l, .int .i64 e]) ∧ Below W.heap.size W w'))
    (H3 : Hid (∀ W, Below w0.heap.size w0 W → Calls Tryd.prog 12 #[.string s] W fun r w' => r = .returned (.tuple #[.agg #[.int .i64 yk, .int .i64 yco, .int .i64 yn, .int .i64 yp, .int .i64 ys, .int .u32 ym, .string yw], .int .i64 g]) ∧ Below W.heap.size W w'))
    (H4 : Hid (∀ W, Below w0.heap.size w0 W → Calls Tryd.prog 13 #[.string s] W fun r w' => r = .returned (.tuple #[.agg #[.int .i64 yk, .int .i64 yco, .int .i64 yn, .int .i64 yp, .int .i64 ys, .int .u32 ym, .string yw], .int .i64 g]) ∧ Below W.heap.size W w'))
    (H5 : Hid (∀ W, Below w0.heap.size w0 W → Calls Tryd.prog 14 #[.agg #[.int .i64 xk, .int .i64 xco, .int .i64 xn, .int .i64 xp, .int .i64 xs, .int .u32 xm, .string xw]] W fun r w' => r = .returned (.int .i64 e) ∧ Below W.heap.size W w'))
    (H6 : Hid (∀ W, Below w0.heap.size w0 W → Calls Tryd.prog 15 #[.int .i64 kd] W fun r w' => r = .returned (.string nm) ∧ Below W.heap.size W w'))
    (H7 : Hid (∀ W, Below w0.heap.size w0 W → Calls Tryd.prog 16 #[.int .i64 kd] W fun r w' => r = .returned (.string nm) ∧ Below W.heap.size W w')) :
    Calls Tryd.prog 3 #[.agg #[.int .i64 xk, .int .i64 xco, .int .i64 xn, .int .i64 xp, .int .i64 xs, .int .u32 xm, .string xw], .string s, .int .i64 kd] w0 fun e w' => e = .returned (.bool true) ∧ Below w0.heap.size w0 w' := by
  have HY := fun W => eqO ⟨yk, yco, yn, yp, ys, ym, yw⟩ ⟨yk, yco, yn, yp, ys, ym, yw⟩ W
  simp only [O.cells, decide_true] at HY
  have HBx := Lib.hid (Blk.new w0 24 #[.int .i64 xk, .int .i64 xco, .int .i64 xn, .int .i64 xp, .int .i64 xs, .int .u32 xm, .string xw])
  have HBW := Lib.hid ((Below.refl w0.heap.size w0).alloc (Nat.le_refl _) (.cells #[.int .i64 xk, .int .i64 xco, .int .i64 xn, .int .i64 xp, .int .i64 xs, .int .u32 xm, .string xw] 24))
  go_enter Tryd.func3, Tryd.ntmps3
  obtain ⟨x0, x1, x2, x3, x4, x5, x6⟩ := ocells HBx.out
  have xlt := HBx.out.lt
  go_wp2_with fail
  refine (H1.out _ HBW.out).mono ?_
  rintro e0 V ⟨rfl, hb⟩
  clear x0 x1 x2 x3 x4 x5 x6 xlt
  have hnx := (HBx.out.below hb HBx.out.lt)
  have hbw := HBW.out.trans (hb.mono HBW.out.size)
  clear hb HBx HBW H1
  have HBx := Lib.hid hnx
  have HBW := Lib.hid hbw
  clear hbw hnx
  obtain ⟨x0, x1, x2, x3, x4, x5, x6⟩ := ocells HBx.out
  have xlt := HBx.out.lt
  go_wp2_with fail
  refine (H2.out _ HBW.out).mono ?_
  rintro e0 V ⟨rfl, hb⟩
  clear x0 x1 x2 x3 x4 x5 x6 xlt
  have hnx := (HBx.out.below hb HBx.out.lt)
  have hbw := HBW.out.trans (hb.mono HBW.out.size)
  clear hb HBx HBW H2
  have HBx := Lib.hid hnx
  have HBW := Lib.hid hbw
  clear hbw hnx
  go_wp2_with fail
  refine (H3.out _ HBW.out).mono ?_
  rintro e0 V ⟨rfl, hb⟩
  have hnx := (HBx.out.below hb HBx.out.lt).alloc (.cells #[.int .i64 yk, .int .i64 yco, .int .i64 yn, .int .i64 yp, .int .i64 ys, .int .u32 ym, .string yw] 24)
  have hny := Blk.new V 24 #[.int .i64 yk, .int .i64 yco, .int .i64 yn, .int .i64 yp, .int .i64 ys, .int .u32 ym, .string yw]
  have hbw := (HBW.out.trans (hb.mono HBW.out.size)).alloc (Nat.le_trans HBW.out.size hb.size) (.cells #[.int .i64 yk, .int .i64 yco, .int .i64 yn, .int .i64 yp, .int .i64 ys, .int .u32 ym, .string yw] 24)
  clear hb HBx HBW H3
  have HBx := Lib.hid hnx
  have HBy := Lib.hid hny
  have HBW := Lib.hid hbw
  clear hbw hnx hny
  go_wp2_with fail
  generalize hWy : World.alloc V (.cells #[.int .i64 yk, .int .i64 yco, .int .i64 yn, .int .i64 yp, .int .i64 ys, .int .u32 ym, .string yw] 24) = Vy at *
  generalize hAy : V.heap.size = Ay at *
  clear hWy hAy
  refine (H4.out _ HBW.out).mono ?_
  rintro e0 V ⟨rfl, hb⟩
  have hnx := (HBx.out.below hb HBx.out.lt).alloc (.cells #[.int .i64 yk, .int .i64 yco, .int .i64 yn, .int .i64 yp, .int .i64 ys, .int .u32 ym, .string yw] 24)
  have hny := (HBy.out.below hb HBy.out.lt).alloc (.cells #[.int .i64 yk, .int .i64 yco, .int .i64 yn, .int .i64 yp, .int .i64 ys, .int .u32 ym, .string yw] 24)
  have hnq := Blk.new V 24 #[.int .i64 yk, .int .i64 yco, .int .i64 yn, .int .i64 yp, .int .i64 ys, .int .u32 ym, .string yw]
  have hbw := (HBW.out.trans (hb.mono HBW.out.size)).alloc (Nat.le_trans HBW.out.size hb.size) (.cells #[.int .i64 yk, .int .i64 yco, .int .i64 yn, .int .i64 yp, .int .i64 ys, .int .u32 ym, .string yw] 24)
  clear hb HBx HBy HBW H4
  have HBx := Lib.hid hnx
  have HBy := Lib.hid hny
  have HBq := Lib.hid hnq
  have HBW := Lib.hid hbw
  clear hbw hnx hny hnq
  obtain ⟨x0, x1, x2, x3, x4, x5, x6⟩ := ocells HBx.out
  have xlt := HBx.out.lt
  go_wp2_with fail
  generalize hWq : World.alloc V (.cells #[.int .i64 yk, .int .i64 yco, .int .i64 yn, .int .i64 yp, .int .i64 ys, .int .u32 ym, .string yw] 24) = Vq at *
  generalize hAq : V.heap.size = Aq at *
  clear hWq hAq
  refine (H5.out _ HBW.out).mono ?_
  rintro e0 V ⟨rfl, hb⟩
  clear x0 x1 x2 x3 x4 x5 x6 xlt
  have hnx := (HBx.out.below hb HBx.out.lt)
  have hny := (HBy.out.below hb HBy.out.lt)
  have hnq := (HBq.out.below hb HBq.out.lt)
  have hbw := HBW.out.trans (hb.mono HBW.out.size)
  clear hb HBx HBy HBq HBW H5
  have HBx := Lib.hid hnx
  have HBy := Lib.hid hny
  have HBq := Lib.hid hnq
  have HBW := Lib.hid hbw
  clear hbw hnx hny hnq
  obtain ⟨y0, y1, y2, y3, y4, y5, y6⟩ := ocells HBy.out
  have ylt := HBy.out.lt
  obtain ⟨q0, q1, q2, q3, q4, q5, q6⟩ := ocells HBq.out
  have qlt := HBq.out.lt
  go_wp2_with fail
  refine (H6.out _ HBW.out).mono ?_
  rintro e6 W6 ⟨rfl, hb⟩
  have HB6 := Lib.hid (HBW.out.trans (hb.mono HBW.out.size))
  clear hb HBW HBx HBy HBq y0 y1 y2 y3 y4 y5 y6 ylt q0 q1 q2 q3 q4 q5 q6 qlt
  go_wp2_with fail
  refine (H7.out _ HB6.out).mono ?_
  rintro e7 W7 ⟨rfl, hb⟩
  have HB7 := Lib.hid (HB6.out.trans (hb.mono HB6.out.size))
  clear hb HB6
  go_wp2
  go_ret
  exact ⟨by first | rfl | (simp; done), HB7.out⟩

theorem linesLaw_any {w0 : World} (hG : Ground w0) (x : O) (hr : RangeO x) (s : ByteArray) (kd : Int) :
    Calls Tryd.prog 3 #[.agg x.cells.toArray, .string s, .int .i64 kd] w0 fun e w' => e = .returned (.bool true) ∧ Below w0.heap.size w0 w' := by
  by_cases hbig : 300 < s.size ∨ 300 < x.w.size
  · have hcc : (300 : Int) < (s.size : Int) ∨ (¬ (300 : Int) < (s.size : Int) ∧ (300 : Int) < (x.w.size : Int)) := by omega
    obtain ⟨xk, xco, xn, xp, xs, xm, xw⟩ := x
    simp only [O.cells] at hcc ⊢
    have HBx := Lib.hid (Blk.new w0 24 #[.int .i64 xk, .int .i64 xco, .int .i64 xn, .int .i64 xp, .int .i64 xs, .int .u32 xm, .string xw])
    have HBW := Lib.hid ((Below.refl w0.heap.size w0).alloc (Nat.le_refl _) (.cells #[.int .i64 xk, .int .i64 xco, .int .i64 xn, .int .i64 xp, .int .i64 xs, .int .u32 xm, .string xw] 24))
    obtain ⟨x0, x1, x2, x3, x4, x5, x6⟩ := ocells HBx.out
    have xlt := HBx.out.lt
    clear hG hr hbig
    rcases hcc with h1 | ⟨h1, h2⟩
    all_goals
      go_enter Tryd.func3, Tryd.ntmps3
      go_wp2
      go_ret
      exact ⟨rfl, HBW.out⟩
  · obtain ⟨yk, yco, yn, yp, ys, ym, yw, hy⟩ : ∃ yk yco yn yp ys ym yw, opA (readO s.data.toList) = #[.int .i64 yk, .int .i64 yco, .int .i64 yn, .int .i64 yp, .int .i64 ys, .int .u32 ym, .string yw] := by
      cases readO s.data.toList with
      | none => exact ⟨0, 0, 0, 0, 0, 0, ⟨#[]⟩, rfl⟩
      | some y => exact ⟨y.k, y.co, y.n, y.p, y.s, y.m, y.w, rfl⟩
    refine lines_walk x.k x.co x.n x.p x.s x.m yk yco yn yp ys ym (lineEr x) (errO (readO s.data.toList)) kd x.w yw s (lineBy x) ⟨(kindW kd).toArray⟩ (by omega) (by omega)
      (Lib.hid fun W hW => ?_) (Lib.hid fun W hW => refLine_any x (by omega) hr) (Lib.hid fun W hW => by have h := read_any (hG.below hW) s (by omega); rw [hy] at h; exact h)
      (Lib.hid fun W hW => by have h := refRead_any (w := W) s (by omega); rw [hy] at h; exact h) (Lib.hid fun W hW => check_any (hG.below hW).words x hr)
      (Lib.hid fun W hW => (name_any (hG.below hW).words kd).mono fun e w' h => ⟨h.1, h.2 ▸ Below.refl _ _⟩) (Lib.hid fun W hW => refKind_any kd)
    by_cases hm : MayO x
    · have h := line_yes (hG.below hW) x hr hm
      unfold lineBy lineEr
      rw [if_pos hm, if_pos hm]
      exact h
    · have h := line_no (hG.below hW) x.k x.co x.n x.p x.s x.m x.w hr hm
      unfold lineBy lineEr
      rw [if_neg hm, if_neg hm]
      exact h
section
open Go.ChangeShapes Go.WideShapes Go.ChangeAt Go.ChangeMaps Go.Deep
variable {H : Type} {enc : TypeId × Value → H} {w : World}
set_option maxRecDepth 100000 in
/-- An operation that came in. -/
theorem open_op {r : Reach} {b0 : Nat} {v : Value} {d : DataW H} {p : List MemPlace} (hv : Value.okWide Tryd.prog w r b0 24 v)
    (h : DataW.Trod enc Tryd.prog w 0 (fun _ => true) true 24 v d p) : ∃ x : O, v = .agg x.cells.toArray ∧ RangeO x := by
  obtain ⟨cs, rfl, hsz⟩ := okWide_struct Tryd.underlying24 hv
  obtain ⟨fuel, hf⟩ := h
  obtain ⟨⟨x, hx⟩, e⟩ := trod_op hf
  exact ⟨x, by have e2 : cs.toList = x.cells := e; rw [← e2], hx⟩
end
end Go.Proofs.YtgefnicpkfcghaaDoor
