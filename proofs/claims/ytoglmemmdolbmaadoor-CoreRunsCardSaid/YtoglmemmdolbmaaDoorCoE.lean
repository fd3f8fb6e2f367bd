/-
  A Cpu is the same as itself (the document's Same), walked. No condition.
-/
import Derived.Test.YtoglmemmdolbmaaDoorCo2
namespace Go.Proofs.YtoglmemmdolbmaaDoor
open Go.RowKit
set_option linter.unusedVariables false
set_option linter.unusedSimpArgs false
attribute [local go_sem] Oper.semAt_some

theorem eq_u32 (a : Int) (w : World) : (Op.equalIn 9999 22 (.int .u32 a) (.int .u32 a)).run Tryd.prog w = .ok true w := by
  go_simp
theorem eq8 (r : Nat → Int) (w : World) : (Op.equalIn 10000 24 (.agg #[.int .u32 (r 0), .int .u32 (r 1), .int .u32 (r 2), .int .u32 (r 3), .int .u32 (r 4), .int .u32 (r 5), .int .u32 (r 6), .int .u32 (r 7)]) (.agg #[.int .u32 (r 0), .int .u32 (r 1), .int .u32 (r 2), .int .u32 (r 3), .int .u32 (r 4), .int .u32 (r 5), .int .u32 (r 6), .int .u32 (r 7)])).run Tryd.prog w = .ok true w := by
  have e := fun a w => eq_u32 a w
  have a1 := Tryd.isAgg22
  have p0 := fun w : World => show (part 22 #[.int .u32 (r 0), .int .u32 (r 1), .int .u32 (r 2), .int .u32 (r 3), .int .u32 (r 4), .int .u32 (r 5), .int .u32 (r 6), .int .u32 (r 7)] 0).run Tryd.prog w = .ok (.int .u32 (r 0)) w from by
    unfold part
    go_simp
  have p1 := fun w : World => show (part 22 #[.int .u32 (r 0), .int .u32 (r 1), .int .u32 (r 2), .int .u32 (r 3), .int .u32 (r 4), .int .u32 (r 5), .int .u32 (r 6), .int .u32 (r 7)] 1).run Tryd.prog w = .ok (.int .u32 (r 1)) w from by
    unfold part
    go_simp
  have p2 := fun w : World => show (part 22 #[.int .u32 (r 0), .int .u32 (r 1), .int .u32 (r 2), .int .u32 (r 3), .int .u32 (r 4), .int .u32 (r 5), .int .u32 (r 6), .int .u32 (r 7)] 2).run Tryd.prog w = .ok (.int .u32 (r 2)) w from by
    unfold part
    go_simp
  have p3 := fun w : World => show (part 22 #[.int .u32 (r 0), .int .u32 (r 1), .int .u32 (r 2), .int .u32 (r 3), .int .u32 (r 4), .int .u32 (r 5), .int .u32 (r 6), .int .u32 (r 7)] 3).run Tryd.prog w = .ok (.int .u32 (r 3)) w from by
    unfold part
    go_simp
  have p4 := fun w : World => show (part 22 #[.int .u32 (r 0), .int .u32 (r 1), .int .u32 (r 2), .int .u32 (r 3), .int .u32 (r 4), .int .u32 (r 5), .int .u32 (r 6), .int .u32 (r 7)] 4).run Tryd.prog w = .ok (.int .u32 (r 4)) w from by
    unfold part
    go_simp
  have p5 := fun w : World => show (part 22 #[.int .u32 (r 0), .int .u32 (r 1), .int .u32 (r 2), .int .u32 (r 3), .int .u32 (r 4), .int .u32 (r 5), .int .u32 (r 6), .int .u32 (r 7)] 5).run Tryd.prog w = .ok (.int .u32 (r 5)) w from by
    unfold part
    go_simp
  have p6 := fun w : World => show (part 22 #[.int .u32 (r 0), .int .u32 (r 1), .int .u32 (r 2), .int .u32 (r 3), .int .u32 (r 4), .int .u32 (r 5), .int .u32 (r 6), .int .u32 (r 7)] 6).run Tryd.prog w = .ok (.int .u32 (r 6)) w from by
    unfold part
    go_simp
  have p7 := fun w : World => show (part 22 #[.int .u32 (r 0), .int .u32 (r 1), .int .u32 (r 2), .int .u32 (r 3), .int .u32 (r 4), .int .u32 (r 5), .int .u32 (r 6), .int .u32 (r 7)] 7).run Tryd.prog w = .ok (.int .u32 (r 7)) w from by
    unfold part
    go_simp
  rw [show (10000 : Nat) = 9999 + 1 from rfl, Op.equalIn]
  simp only [Sem.run_bind, run_underlying Tryd.underlying24, Result.andThen_ok]
  simp only [Std.Legacy.Range.forIn_eq_forIn_range', Std.Legacy.Range.size, Nat.sub_zero, Nat.add_sub_cancel, Nat.div_one, List.range'_succ, List.range'_zero, List.forIn_cons, List.forIn_nil]
  simp only [Sem.run_bind, Tryd.sizeOf22, Result.andThen_ok, Nat.reduceMul, Nat.reduceAdd, Nat.zero_mul, Nat.mul_one, Nat.one_mul, e, p0, p1, p2, p3, p4, p5, p6, p7]
  simp [Sem.run_bind, p0, p1, p2, p3, p4, p5, p6, p7, e]
set_option maxRecDepth 100000 in
set_option maxHeartbeats 16000000 in
theorem same_self {w : World} (c : Cp) : Calls Tryd.prog 17 #[.agg c.arr, .agg c.arr] w fun e w' => e = .returned (.bool true) ∧ Below w.heap.size w w' := by
  have hX := (Blk.new w 28 c.arr).alloc (.cells c.arr 28)
  have hY := Blk.new (w.alloc (.cells c.arr 28)) 28 c.arr
  have HB := Lib.hid (bl_new (bl_new (Below.refl w.heap.size w) (.cells c.arr 28)) (.cells c.arr 28))
  rw [World.size_alloc] at hY
  have he := fun w => eq8 c.r w
  have HX := Lib.hid hX
  have HY := Lib.hid hY
  obtain ⟨x0, x1, x2, x3, x4, x5, x6, x7, x8, x9, x10, xlt⟩ := cp_all hX
  obtain ⟨y0, y1, y2, y3, y4, y5, y6, y7, y8, y9, y10, ylt⟩ := cp_all hY
  obtain ⟨r, z, pc⟩ := c
  dsimp only at *
  obtain ⟨⟨p, q⟩, hz0⟩ : ∃ v, v = z 0 := ⟨_, rfl⟩
  obtain ⟨⟨s, t⟩, hz1⟩ : ∃ v, v = z 1 := ⟨_, rfl⟩
  rw [← hz0] at x8 y8
  rw [← hz1] at x9 y9
  have hz0 := Lib.hid hz0
  have hz1 := Lib.hid hz1
  clear hX hY
  go_enter Tryd.func17, Tryd.ntmps17
  go_wp2_with (fail)
  generalize (w.alloc (.cells (Cp.mk r z pc).arr 28)).alloc (.cells (Cp.mk r z pc).arr 28) = W at *
  go_loopw [5] (fun i wr => ∃ k : Nat, i = .int .i64 (k : Int) ∧ k ≤ 2 ∧ CpAt wr w.heap.size (Cp.mk r z pc) ∧ CpAt wr (w.heap.size + 1) (Cp.mk r z pc) ∧ Below w.heap.size w wr) (fun i _ => 2 - (intOf i).toNat)
  case atStart => exact ⟨0, rfl, by omega, HX.out, HY.out, HB.out⟩
  case round =>
    obtain ⟨k, rfl, hk, hx, hy, hbr⟩ := hrel
    have GX := Lib.hid hx
    have GY := Lib.hid hy
    have GB := Lib.hid hbr
    clear x0 x1 x2 x3 x4 x5 x6 x7 x8 x9 x10 xlt y0 y1 y2 y3 y4 y5 y6 y7 y8 y9 y10 ylt
    obtain ⟨x0, x1, x2, x3, x4, x5, x6, x7, x8, x9, x10, xlt⟩ := cp_all hx
    obtain ⟨y0, y1, y2, y3, y4, y5, y6, y7, y8, y9, y10, ylt⟩ := cp_all hy
    dsimp only at *
    have Z0 := hz0.out
    have Z1 := hz1.out
    rw [← Z0] at x8 y8
    rw [← Z1] at x9 y9
    clear hx hy hbr Z0 Z1
    rcases (show k = 0 ∨ k = 1 ∨ k = 2 by omega) with rfl | rfl | rfl
    · cases hb : ((FloatKind.f64.format.order p p == some .eq) && (FloatKind.f64.format.order q q == some .eq))
      all_goals
        have kN := fun w : World => show (binOp .neq 25 (.complex .f64 p q) (.complex .f64 p q)).run Tryd.prog w = .ok (.bool (!((FloatKind.f64.format.order p p == some .eq) && (FloatKind.f64.format.order q q == some .eq)))) w from run_neq_complex w _ _ _ _ _ _
        have kE := fun w : World => show (binOp .eql 25 (.complex .f64 p q) (.complex .f64 p q)).run Tryd.prog w = .ok (.bool ((FloatKind.f64.format.order p p == some .eq) && (FloatKind.f64.format.order q q == some .eq))) w from run_eql_complex w _ _ _ _ _ _
        rw [hb] at kN kE
        clear hb
        go_wp2_with (go_quiet (fail))
        go_roundw
        case rel => exact ⟨1, by first | rfl | simp, by omega, GX.out, GY.out, below_drewN GB.out _⟩
        case measure => simp [intOf]
    · cases hb : ((FloatKind.f64.format.order s s == some .eq) && (FloatKind.f64.format.order t t == some .eq))
      all_goals
        have kN := fun w : World => show (binOp .neq 25 (.complex .f64 s t) (.complex .f64 s t)).run Tryd.prog w = .ok (.bool (!((FloatKind.f64.format.order s s == some .eq) && (FloatKind.f64.format.order t t == some .eq)))) w from run_neq_complex w _ _ _ _ _ _
        have kE := fun w : World => show (binOp .eql 25 (.complex .f64 s t) (.complex .f64 s t)).run Tryd.prog w = .ok (.bool ((FloatKind.f64.format.order s s == some .eq) && (FloatKind.f64.format.order t t == some .eq))) w from run_eql_complex w _ _ _ _ _ _
        rw [hb] at kN kE
        clear hb
        go_wp2_with (go_quiet (fail))
        go_roundw
        case rel => exact ⟨2, by first | rfl | simp, by omega, GX.out, GY.out, below_drewN GB.out _⟩
        case measure => simp [intOf]
    · go_wp2
      go_ret
      exact ⟨rfl, GB.out⟩
end Go.Proofs.YtoglmemmdolbmaaDoor
