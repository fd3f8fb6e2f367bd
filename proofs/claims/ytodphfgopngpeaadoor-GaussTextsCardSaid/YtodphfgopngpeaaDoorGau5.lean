/-
  Walks over package gauss: sums, products, conjugates, norms. No condition.
-/
import Derived.Test.YtodphfgopngpeaaDoorGau4
namespace Go.Proofs.YtodphfgopngpeaaDoor
open Go.RowKit Go.Shelf
set_option linter.unusedVariables false
set_option linter.unusedSimpArgs false
attribute [local irreducible] floatOfInt wz

theorem mul_bound {u v : Int} (hu : -524288 ≤ u ∧ u ≤ 524287) (hv : -524288 ≤ v ∧ v ≤ 524287) : -274877906944 ≤ u * v ∧ u * v ≤ 274877906944 := by
  have h : (u * v).natAbs ≤ 274877906944 := by
    rw [Int.natAbs_mul]
    exact Nat.le_trans (Nat.mul_le_mul (show u.natAbs ≤ 524288 by omega) (show v.natAbs ≤ 524288 by omega)) (by decide)
  omega
theorem sq0 (x : Int) : 0 ≤ x * x := by
  rcases Int.le_total 0 x with h | h
  · exact Int.mul_nonneg h h
  · have := Int.mul_nonneg (show 0 ≤ -x by omega) (show 0 ≤ -x by omega)
    rwa [Int.neg_mul_neg] at this
theorem gAdd_any {w : World} (a b c d : Nat) : Calls Tryd.prog 10 #[.complex .f64 a b, .complex .f64 c d] w fun e w' => e = .returned (mk (re a b + re c d) (im a b + im c d)) ∧ Below w.heap.size w w' := by
  obtain ⟨f1, f2⟩ := own_flo a b
  obtain ⟨f3, f4⟩ := own_flo c d
  have r1 := re_range a b
  have r2 := re_range c d
  obtain ⟨x, y, hxy, hx, hy⟩ := flo_csum f1 f2 f3 f4 (by omega) (by omega)
  have H1 := Lib.hid (fun W a b => gOwn_any (w := W) a b)
  have H2 := Lib.hid (fun W => gFit_any (w := W) hx hy (by omega) (by omega))
  have k1 := fun w : World => run_complex_sum (P := Tryd.prog) w .add (.inl rfl) 23 .f64 _ _ _ _ x y hxy
  clear f1 f2 f3 f4 hx hy hxy r1 r2
  generalize mk (re a b + re c d) (im a b + im c d) = r at *
  go_enter Tryd.func10, Tryd.ntmps10
  go_wp2_with fail
  refine (H1.out _ _ _).mono ?_
  rintro e w1 ⟨rfl, hb1⟩
  go_wp2_with fail
  refine (H1.out _ _ _).mono ?_
  rintro e w2 ⟨rfl, hb2⟩
  have HB := Lib.hid (hb1.trans (hb2.mono hb1.size))
  clear hb1 hb2
  go_wp2_with fail
  refine (H2.out _).mono ?_
  rintro e w3 ⟨rfl, rfl⟩
  go_wp2
  go_ret
  exact ⟨rfl, HB.out⟩
theorem gMul_any {w : World} (a b c d : Nat) : Calls Tryd.prog 11 #[.complex .f64 a b, .complex .f64 c d] w fun e w' => e = .returned (mk (re a b * re c d - im a b * im c d) (re a b * im c d + im a b * re c d)) ∧ Below w.heap.size w w' := by
  obtain ⟨f1, f2⟩ := own_flo a b
  obtain ⟨f3, f4⟩ := own_flo c d
  have r1 := re_range a b
  have r2 := re_range c d
  obtain ⟨x, y, hxy, hx, hy⟩ := flo_cmul f1 f2 f3 f4 (by omega) (by omega) (by omega) (by omega)
  have m1 := mul_bound r1.1 r2.1
  have m2 := mul_bound r1.2 r2.2
  have m3 := mul_bound r1.1 r2.2
  have m4 := mul_bound r1.2 r2.1
  have H1 := Lib.hid (fun W a b => gOwn_any (w := W) a b)
  have H2 := Lib.hid (fun W => gFit_any (w := W) hx hy (by omega) (by omega))
  have k1 := fun w : World => run_complex_mul (P := Tryd.prog) w 23 _ _ _ _ x y hxy
  clear f1 f2 f3 f4 hx hy hxy r1 r2 m1 m2 m3 m4
  generalize mk (re a b * re c d - im a b * im c d) (re a b * im c d + im a b * re c d) = r at *
  go_enter Tryd.func11, Tryd.ntmps11
  go_wp2_with fail
  refine (H1.out _ _ _).mono ?_
  rintro e w1 ⟨rfl, hb1⟩
  go_wp2_with fail
  refine (H1.out _ _ _).mono ?_
  rintro e w2 ⟨rfl, hb2⟩
  have HB := Lib.hid (hb1.trans (hb2.mono hb1.size))
  clear hb1 hb2
  go_wp2_with fail
  refine (H2.out _).mono ?_
  rintro e w3 ⟨rfl, rfl⟩
  go_wp2
  go_ret
  exact ⟨rfl, HB.out⟩
theorem gConj_any {w : World} (a b : Nat) : Calls Tryd.prog 12 #[.complex .f64 a b] w fun e w' => e = .returned (mk (re a b) (-im a b)) ∧ Below w.heap.size w w' := by
  obtain ⟨r1, r2, r3⟩ := re_range a b
  have H1 := Lib.hid (fun W => gParts_any (w := W) a b)
  have H2 := Lib.hid (fun W p q => gMake_any (w := W) p q)
  have w1 : wrap64 (-im a b) = -im a b := IntWalk.wrap64_in _ (by omega)
  generalize re a b = p at *
  generalize im a b = q at *
  clear r1
  go_enter Tryd.func12, Tryd.ntmps12
  go_wp2_with fail
  refine (H1.out _).mono ?_
  rintro e w2 ⟨rfl, hb1⟩
  have HB := Lib.hid hb1
  clear hb1
  go_wp2_with fail
  refine (H2.out _ _ _).mono ?_
  rintro e w3 ⟨rfl, rfl⟩
  go_wp2
  go_ret
  exact ⟨by first | rfl | (simp only [w1]; rfl), HB.out⟩
theorem gNorm_any {w : World} (a b : Nat) : Calls Tryd.prog 14 #[.complex .f64 a b] w fun e w' => e = .returned (.int .u64 (re a b * re a b + im a b * im a b)) ∧ Below w.heap.size w w' := by
  have r := re_range a b
  have m1 := mul_bound r.1 r.1
  have m2 := mul_bound r.2 r.2
  have n1 : 0 ≤ re a b * re a b := sq0 _
  have n2 : 0 ≤ im a b * im a b := sq0 _
  have H1 := Lib.hid (fun W => gParts_any (w := W) a b)
  have w1 : wrap64 (re a b * re a b) = re a b * re a b := IntWalk.wrap64_in _ (by omega)
  have w2 : wrap64 (im a b * im a b) = im a b * im a b := IntWalk.wrap64_in _ (by omega)
  have w3 : wrap64 (re a b * re a b + im a b * im a b) = re a b * re a b + im a b * im a b := IntWalk.wrap64_in _ (by omega)
  have w4 : (re a b * re a b + im a b * im a b) % 18446744073709551616 = re a b * re a b + im a b * im a b := by omega
  generalize re a b = p at *
  generalize im a b = q at *
  clear r m1 m2
  go_enter Tryd.func14, Tryd.ntmps14
  go_wp2_with fail
  refine (H1.out _).mono ?_
  rintro e w2 ⟨rfl, hb1⟩
  have HB := Lib.hid hb1
  clear hb1
  go_wp2
  go_ret
  exact ⟨by first | rfl | (simp only [w1, w2, w3, w4]; rfl), HB.out⟩
end Go.Proofs.YtodphfgopngpeaaDoor
