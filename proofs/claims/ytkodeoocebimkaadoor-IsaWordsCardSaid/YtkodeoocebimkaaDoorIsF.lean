/-
  The law IsaBack, walked. Condition: the tables lie as the program's text, and the library's, lay them.
-/
import Derived.Test.YtkodeoocebimkaaDoorIsE
import Derived.Test.YtkodeoocebimkaaDoorIsPm
namespace Go.Proofs.YtkodeoocebimkaaDoor
open Go.RowKit Go.Shelf
set_option linter.unusedVariables false
set_option linter.unusedSimpArgs false
attribute [local go_sem] Oper.semAt_some

theorem eqI (x y : Ins) (w : World) : (Op.equalIn 10000 23 (.agg #[.int .i64 x.op, .int .i64 x.a, .int .i64 x.b, .int .i64 x.imm]) (.agg #[.int .i64 y.op, .int .i64 y.a, .int .i64 y.b, .int .i64 y.imm])).run Tryd.prog w = .ok (decide (x = y)) w := by
  rw [show (10000 : Nat) = 9999 + 1 from rfl, run_equalIn_agg w 9999 23 _ _ (by kernel_rfl) Tryd.stoodInHeld23]
  have a3 := Tryd.isAgg3
  simp only [Program.fieldsOf, Tryd.underlying23]
  obtain ⟨n, a, b, c⟩ := x
  obtain ⟨n', a', b', c'⟩ := y
  go_simp
  by_cases h1 : n = n'
  case neg => simp [h1]
  by_cases h2 : a = a'
  case neg => simp [h1, h2]
  by_cases h3 : b = b'
  case neg => simp [h1, h2, h3]
  by_cases h4 : c = c' <;> simp [h1, h2, h3, h4]
theorem eqI_same (x : Ins) (w : World) : (Op.equalIn 10000 23 (.agg #[.int .i64 x.op, .int .i64 x.a, .int .i64 x.b, .int .i64 x.imm]) (.agg #[.int .i64 x.op, .int .i64 x.a, .int .i64 x.b, .int .i64 x.imm])).run Tryd.prog w = .ok (.true) w := by
  have h := eqI x x w
  rw [decide_eq_true rfl] at h
  exact h

set_option maxRecDepth 100000 in
set_option maxHeartbeats 8000000 in
theorem back_walk {w : World} (xo xa xb xm wv A e yo ya yb ym f zo za zb zm h po pa pb pm i b j qo qa qb qm k m : Int) (s l t : ByteArray) (hs : s.size ≤ 80)
    (HAL : Hid (Calls Tryd.prog 22 #[] (w.alloc (.cells #[.int .i64 xo, .int .i64 xa, .int .i64 xb, .int .i64 xm] 23)) fun e w' => e = .returned (.bool true) ∧ Below (w.alloc (.cells #[.int .i64 xo, .int .i64 xa, .int .i64 xb, .int .i64 xm] 23)).heap.size (w.alloc (.cells #[.int .i64 xo, .int .i64 xa, .int .i64 xb, .int .i64 xm] 23)) w'))
    (H1 : Hid (∀ W, Below w.heap.size w W → Calls Tryd.prog 12 #[.agg #[.int .i64 xo, .int .i64 xa, .int .i64 xb, .int .i64 xm]] W fun r w' => r = .returned (.tuple #[.int .u32 A, .int .i64 e]) ∧ Below W.heap.size W w'))
    (H2 : Hid (∀ W, Below w.heap.size w W → Calls Tryd.prog 14 #[.int .u32 A] W fun r w' => r = .returned (.tuple #[.agg #[.int .i64 yo, .int .i64 ya, .int .i64 yb, .int .i64 ym], .int .i64 f]) ∧ Below W.heap.size W w'))
    (H3 : Hid (∀ W, Below w.heap.size w W → Calls Tryd.prog 16 #[.agg #[.int .i64 xo, .int .i64 xa, .int .i64 xb, .int .i64 xm]] W fun r w' => r = .returned (.tuple #[.string l, .int .i64 e]) ∧ Below W.heap.size W w'))
    (H4 : Hid (∀ W, Below w.heap.size w W → Calls Tryd.prog 18 #[.string l] W fun r w' => r = .returned (.tuple #[.agg #[.int .i64 zo, .int .i64 za, .int .i64 zb, .int .i64 zm], .int .i64 h]) ∧ Below W.heap.size W w'))
    (H5 : Hid (∀ W, Below w.heap.size w W → Calls Tryd.prog 14 #[.int .u32 wv] W fun r w' => r = .returned (.tuple #[.agg #[.int .i64 po, .int .i64 pa, .int .i64 pb, .int .i64 pm], .int .i64 i]) ∧ Below W.heap.size W w'))
    (H6 : Hid (∀ W, Below w.heap.size w W → Calls Tryd.prog 12 #[.agg #[.int .i64 po, .int .i64 pa, .int .i64 pb, .int .i64 pm]] W fun r w' => r = .returned (.tuple #[.int .u32 b, .int .i64 j]) ∧ Below W.heap.size W w'))
    (H7 : Hid (∀ W, Below w.heap.size w W → Calls Tryd.prog 18 #[.string s] W fun r w' => r = .returned (.tuple #[.agg #[.int .i64 qo, .int .i64 qa, .int .i64 qb, .int .i64 qm], .int .i64 k]) ∧ Below W.heap.size W w'))
    (H8 : Hid (∀ W, Below w.heap.size w W → Calls Tryd.prog 16 #[.agg #[.int .i64 qo, .int .i64 qa, .int .i64 qb, .int .i64 qm]] W fun r w' => r = .returned (.tuple #[.string t, .int .i64 m]) ∧ Below W.heap.size W w'))
    (c1 : e = 30 ∨ (e = 0 ∧ f = 0 ∧ h = 0 ∧ (yo = xo ∧ ya = xa ∧ yb = xb ∧ ym = xm) ∧ (zo = xo ∧ za = xa ∧ zb = xb ∧ zm = xm))) (c2 : i = 30 ∨ (i = 0 ∧ j = 0 ∧ b = wv)) (c3 : k = 30 ∨ (k = 0 ∧ m = 0 ∧ t = s)) :
    Calls Tryd.prog 5 #[.agg #[.int .i64 xo, .int .i64 xa, .int .i64 xb, .int .i64 xm], .int .u32 wv, .string s] w fun e w' => e = .returned (.bool true) ∧ Below w.heap.size w w' := by
  have HE := eqI_same ⟨xo, xa, xb, xm⟩
  dsimp only at HE
  have hs1 : ¬ (80 : Int) < (s.size : Int) := by omega
  have hx0 := Blk.new w 23 #[.int .i64 xo, .int .i64 xa, .int .i64 xb, .int .i64 xm]
  have hb0 := (Below.refl w.heap.size w).alloc (Nat.le_refl _) (.cells #[.int .i64 xo, .int .i64 xa, .int .i64 xb, .int .i64 xm] 23)
  rcases c1 with rfl | ⟨rfl, rfl, rfl, hyy, hzz⟩ <;> rcases c2 with rfl | ⟨rfl, rfl, rfl⟩ <;> rcases c3 with rfl | ⟨rfl, rfl, rfl⟩
  all_goals
    try have HY := Lib.hid hyy
    try have HZ := Lib.hid hzz
    try clear hyy
    try clear hzz
    go_enter Tryd.func5, Tryd.ntmps5
    have HBx := Lib.hid hx0
    have HBW := Lib.hid hb0
    clear hx0 hb0
    go_wp2_with fail
    refine HAL.out.mono ?_
    rintro e V ⟨rfl, hb⟩
    have hnx := (HBx.out.below hb HBx.out.lt)
    have hbw := bl_step HBW.out hb
    clear hb HBx HBW
    have HBx := Lib.hid hnx
    have HBW := Lib.hid hbw
    clear hbw hnx
    obtain ⟨x0, x1, x2, x3, x4⟩ := ccells HBx.out
    go_wp2_with fail
    refine (H1.out _ HBW.out).mono ?_
    rintro e V ⟨rfl, hb⟩
    clear x0 x1 x2 x3 x4
    have hnx := (HBx.out.below hb HBx.out.lt)
    have hbw := bl_step HBW.out hb
    clear hb HBx HBW
    have HBx := Lib.hid hnx
    have HBW := Lib.hid hbw
    clear hbw hnx
    go_wp2_with fail
    refine (H2.out _ HBW.out).mono ?_
    rintro e V ⟨rfl, hb⟩
    have hnx := (HBx.out.below hb HBx.out.lt).alloc (.cells #[.int .i64 yo, .int .i64 ya, .int .i64 yb, .int .i64 ym] 23)
    have hny := Blk.new V 23 #[.int .i64 yo, .int .i64 ya, .int .i64 yb, .int .i64 ym]
    have hbw := bl_new (bl_step HBW.out hb) (.cells #[.int .i64 yo, .int .i64 ya, .int .i64 yb, .int .i64 ym] 23)
    clear hb HBx HBW
    have HBx := Lib.hid hnx
    have HBy := Lib.hid hny
    have HBW := Lib.hid hbw
    clear hbw hnx hny
    obtain ⟨x0, x1, x2, x3, x4⟩ := ccells HBx.out
    go_wp2_with fail
    refine (H3.out _ HBW.out).mono ?_
    rintro e V ⟨rfl, hb⟩
    clear x0 x1 x2 x3 x4
    have hnx := (HBx.out.below hb HBx.out.lt)
    have hny := (HBy.out.below hb HBy.out.lt)
    have hbw := bl_step HBW.out hb
    clear hb HBx HBy HBW
    have HBx := Lib.hid hnx
    have HBy := Lib.hid hny
    have HBW := Lib.hid hbw
    clear hbw hnx hny
    go_wp2_with fail
    refine (H4.out _ HBW.out).mono ?_
    rintro e V ⟨rfl, hb⟩
    have hnx := (HBx.out.below hb HBx.out.lt).alloc (.cells #[.int .i64 zo, .int .i64 za, .int .i64 zb, .int .i64 zm] 23)
    have hny := (HBy.out.below hb HBy.out.lt).alloc (.cells #[.int .i64 zo, .int .i64 za, .int .i64 zb, .int .i64 zm] 23)
    have hnz := Blk.new V 23 #[.int .i64 zo, .int .i64 za, .int .i64 zb, .int .i64 zm]
    have hbw := bl_new (bl_step HBW.out hb) (.cells #[.int .i64 zo, .int .i64 za, .int .i64 zb, .int .i64 zm] 23)
    clear hb HBx HBy HBW
    have HBx := Lib.hid hnx
    have HBy := Lib.hid hny
    have HBz := Lib.hid hnz
    have HBW := Lib.hid hbw
    clear hbw hnx hny hnz
    go_wp2_with fail
    refine (H5.out _ HBW.out).mono ?_
    rintro e V ⟨rfl, hb⟩
    have hnx := (HBx.out.below hb HBx.out.lt).alloc (.cells #[.int .i64 po, .int .i64 pa, .int .i64 pb, .int .i64 pm] 23)
    have hny := (HBy.out.below hb HBy.out.lt).alloc (.cells #[.int .i64 po, .int .i64 pa, .int .i64 pb, .int .i64 pm] 23)
    have hnz := (HBz.out.below hb HBz.out.lt).alloc (.cells #[.int .i64 po, .int .i64 pa, .int .i64 pb, .int .i64 pm] 23)
    have hnp := Blk.new V 23 #[.int .i64 po, .int .i64 pa, .int .i64 pb, .int .i64 pm]
    have hbw := bl_new (bl_step HBW.out hb) (.cells #[.int .i64 po, .int .i64 pa, .int .i64 pb, .int .i64 pm] 23)
    clear hb HBx HBy HBz HBW
    have HBx := Lib.hid hnx
    have HBy := Lib.hid hny
    have HBz := Lib.hid hnz
    have HBp := Lib.hid hnp
    have HBW := Lib.hid hbw
    clear hbw hnx hny hnz hnp
    obtain ⟨p0, p1, p2, p3, p4⟩ := ccells HBp.out
    go_wp2_with fail
    refine (H6.out _ HBW.out).mono ?_
    rintro e V ⟨rfl, hb⟩
    clear p0 p1 p2 p3 p4
    have hnx := (HBx.out.below hb HBx.out.lt)
    have hny := (HBy.out.below hb HBy.out.lt)
    have hnz := (HBz.out.below hb HBz.out.lt)
    have hnp := (HBp.out.below hb HBp.out.lt)
    have hbw := bl_step HBW.out hb
    clear hb HBx HBy HBz HBp HBW
    have HBx := Lib.hid hnx
    have HBy := Lib.hid hny
    have HBz := Lib.hid hnz
    have HBp := Lib.hid hnp
    have HBW := Lib.hid hbw
    clear hbw hnx hny hnz hnp
    go_wp2_with fail
    refine (H7.out _ HBW.out).mono ?_
    rintro e V ⟨rfl, hb⟩
    have hnx := (HBx.out.below hb HBx.out.lt).alloc (.cells #[.int .i64 qo, .int .i64 qa, .int .i64 qb, .int .i64 qm] 23)
    have hny := (HBy.out.below hb HBy.out.lt).alloc (.cells #[.int .i64 qo, .int .i64 qa, .int .i64 qb, .int .i64 qm] 23)
    have hnz := (HBz.out.below hb HBz.out.lt).alloc (.cells #[.int .i64 qo, .int .i64 qa, .int .i64 qb, .int .i64 qm] 23)
    have hnp := (HBp.out.below hb HBp.out.lt).alloc (.cells #[.int .i64 qo, .int .i64 qa, .int .i64 qb, .int .i64 qm] 23)
    have hnq := Blk.new V 23 #[.int .i64 qo, .int .i64 qa, .int .i64 qb, .int .i64 qm]
    have hbw := bl_new (bl_step HBW.out hb) (.cells #[.int .i64 qo, .int .i64 qa, .int .i64 qb, .int .i64 qm] 23)
    clear hb HBx HBy HBz HBp HBW
    have HBx := Lib.hid hnx
    have HBy := Lib.hid hny
    have HBz := Lib.hid hnz
    have HBp := Lib.hid hnp
    have HBq := Lib.hid hnq
    have HBW := Lib.hid hbw
    clear hbw hnx hny hnz hnp hnq
    obtain ⟨q0, q1, q2, q3, q4⟩ := ccells HBq.out
    go_wp2_with fail
    refine (H8.out _ HBW.out).mono ?_
    rintro e V ⟨rfl, hb⟩
    clear q0 q1 q2 q3 q4
    have hnx := (HBx.out.below hb HBx.out.lt)
    have hny := (HBy.out.below hb HBy.out.lt)
    have hnz := (HBz.out.below hb HBz.out.lt)
    have hnp := (HBp.out.below hb HBp.out.lt)
    have hnq := (HBq.out.below hb HBq.out.lt)
    have hbw := bl_step HBW.out hb
    clear hb HBx HBy HBz HBp HBq HBW
    have HBx := Lib.hid hnx
    have HBy := Lib.hid hny
    have HBz := Lib.hid hnz
    have HBp := Lib.hid hnp
    have HBq := Lib.hid hnq
    have HBW := Lib.hid hbw
    clear hbw hnx hny hnz hnp hnq
    try obtain ⟨rfl, rfl, rfl, rfl⟩ := HY.out
    try obtain ⟨rfl, rfl, rfl, rfl⟩ := HZ.out
    obtain ⟨x0, x1, x2, x3, x4⟩ := ccells HBx.out
    obtain ⟨y0, y1, y2, y3, y4⟩ := ccells HBy.out
    obtain ⟨z0, z1, z2, z3, z4⟩ := ccells HBz.out
    go_wp2
    go_ret
    exact ⟨by first | rfl | simp, HBW.out⟩
-- LAW
end Go.Proofs.YtkodeoocebimkaaDoor
