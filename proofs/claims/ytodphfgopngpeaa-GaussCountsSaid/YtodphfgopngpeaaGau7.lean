/-
  The law's walk over package gauss beside its reference. No condition.
-/
import Derived.Test.YtodphfgopngpeaaGau6
namespace Go.Proofs.Ytodphfgopngpeaa
open Go.RowKit Go.Shelf
set_option linter.unusedVariables false
set_option linter.unusedSimpArgs false
attribute [local irreducible] floatOfInt wz

theorem mk_eql (p q : Int) (w : World) : (binOp .eql 23 (mk p q) (mk p q)).run Try.prog w = .ok (.bool true) w := by
  have h : ∀ n : Int, FloatKind.f64.format.order (floatOfInt .f64 (wz n)) (floatOfInt .f64 (wz n)) = some .eq := fun n => by
    have hf := flo_int (n := wz n) (by have := wz_range n; omega)
    rw [flo_order hf hf, compare_eq.2 rfl]
  unfold mk
  rw [run_eql_complex, h, h]
  rfl

theorem mk_guard (p q : Int) (x y : Operand) (w : World) : (eqGuard .eql 23 x y (mk p q) (mk p q)).run Try.prog w = .ok () w := by
  unfold mk
  simp [eqGuard, go_sem]
set_option maxRecDepth 100000 in
set_option maxHeartbeats 4000000 in
theorem gaussLaw_any {w : World} (a b c d : Nat) (n m : Int) : Calls Try.prog 3 #[.float .f64 a, .float .f64 b, .float .f64 c, .float .f64 d, .int .i64 n, .int .i64 m] w fun e w' => e = .returned (.bool true) ∧ Below w.heap.size w w' := by
  have r1 := re_range a b
  have m1 := mul_bound r1.1 r1.1
  have m2 := mul_bound r1.2 r1.2
  have n1 := sq0 (re a b)
  have n2 := sq0 (im a b)
  have HRP := Lib.hid (fun W => rParts_any (w := W) a b)
  have HGP := Lib.hid (fun W => gParts_any (w := W) a b)
  have HM := Lib.hid (fun W => may_any (w := W) a b)
  have HGM := Lib.hid (fun W p q => gMake_any (w := W) p q)
  have HRM := Lib.hid (fun W p q => rMake_any (w := W) p q)
  have HGA := Lib.hid (fun W => gAdd_any (w := W) a b c d)
  have HRA := Lib.hid (fun W => rAdd_any (w := W) a b c d)
  have HGX := Lib.hid (fun W => gMul_any (w := W) a b c d)
  have HRX := Lib.hid (fun W => rMul_any (w := W) a b c d)
  have HGC := Lib.hid (fun W => gConj_any (w := W) a b)
  have HGN := Lib.hid (fun W => gNorm_any (w := W) a b)
  have w1 : wrap64 (re a b * re a b) = re a b * re a b := IntWalk.wrap64_in _ (by omega)
  have w2 : wrap64 (im a b * im a b) = im a b * im a b := IntWalk.wrap64_in _ (by omega)
  have w3 : wrap64 (-im a b) = -im a b := IntWalk.wrap64_in _ (by omega)
  have u1 : re a b * re a b % 18446744073709551616 = re a b * re a b := by omega
  have u2 : im a b * im a b % 18446744073709551616 = im a b * im a b := by omega
  have u3 : (re a b * re a b + im a b * im a b) % 18446744073709551616 = re a b * re a b + im a b * im a b := by omega
  have k1 := fun w : World => mk_eql n m w
  have g1 := fun (x y : Operand) (w : World) => mk_guard n m x y w
  have g2 := fun (x y : Operand) (w : World) => mk_guard (re a b + re c d) (im a b + im c d) x y w
  have g3 := fun (x y : Operand) (w : World) => mk_guard (re a b * re c d - im a b * im c d) (re a b * im c d + im a b * re c d) x y w
  have g4 := fun (x y : Operand) (w : World) => mk_guard (re a b) (-im a b) x y w
  have k2 := fun w : World => mk_eql (re a b + re c d) (im a b + im c d) w
  have k3 := fun w : World => mk_eql (re a b * re c d - im a b * im c d) (re a b * im c d + im a b * re c d) w
  have k4 := fun w : World => mk_eql (re a b) (-im a b) w
  generalize mk (re a b + re c d) (im a b + im c d) = vA at *
  generalize mk (re a b * re c d - im a b * im c d) (re a b * im c d + im a b * re c d) = vX at *
  generalize re a b = p at *
  generalize im a b = q at *
  generalize isP a b = is at *
  clear r1 m1 m2
  go_enter Try.func3, Try.ntmps3
  go_wp2_with fail
  refine (HRP.out _).mono ?_
  rintro e w1' ⟨rfl, rfl⟩
  go_wp2_with fail
  refine (HGP.out _).mono ?_
  rintro e w2' ⟨rfl, hb2⟩
  have HB2 := Lib.hid hb2
  clear hb2
  go_wp2_with fail
  refine (HM.out _).mono ?_
  rintro e w3' ⟨rfl, hb3⟩
  have HB3 := Lib.hid (HB2.out.trans (hb3.mono HB2.out.size))
  clear hb3
  go_wp2_with fail
  refine (HGM.out _ _ _).mono ?_
  rintro e w4' ⟨rfl, rfl⟩
  go_wp2_with fail
  refine (HRM.out _ _ _).mono ?_
  rintro e w4' ⟨rfl, rfl⟩
  go_wp2_with fail
  refine (HGA.out _).mono ?_
  rintro e w5' ⟨rfl, hb5⟩
  have HB5 := Lib.hid (HB3.out.trans (hb5.mono HB3.out.size))
  clear hb5
  go_wp2_with fail
  refine (HRA.out _).mono ?_
  rintro e w6' ⟨rfl, rfl⟩
  go_wp2_with fail
  refine (HGX.out _).mono ?_
  rintro e w7' ⟨rfl, hb7⟩
  have HB7 := Lib.hid (HB5.out.trans (hb7.mono HB5.out.size))
  clear hb7
  go_wp2_with fail
  refine (HRX.out _).mono ?_
  rintro e w8' ⟨rfl, rfl⟩
  go_wp2_with fail
  refine (HGC.out _).mono ?_
  rintro e w9' ⟨rfl, hb9⟩
  have HB9 := Lib.hid (HB7.out.trans (hb9.mono HB7.out.size))
  clear hb9
  go_wp2_with fail
  refine (HRM.out _ _ _).mono ?_
  rintro e w10' ⟨rfl, rfl⟩
  go_wp2_with fail
  refine (HGN.out _).mono ?_
  rintro e w11' ⟨rfl, hb11⟩
  have HB11 := Lib.hid (HB9.out.trans (hb11.mono HB9.out.size))
  clear hb11
  go_wp2
  go_ret
  exact ⟨by first | rfl | simp, HB11.out⟩
end Go.Proofs.Ytodphfgopngpeaa
