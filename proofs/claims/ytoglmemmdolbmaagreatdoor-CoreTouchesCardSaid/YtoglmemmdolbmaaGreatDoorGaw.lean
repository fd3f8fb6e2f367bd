/-
  Walks over package gauss and its reference: a number's words, words' number. Condition: words are words.
-/
import Derived.Test.YtoglmemmdolbmaaGreatDoorGau4
namespace Go.Proofs.YtoglmemmdolbmaaGreatDoor
section
open Go.RowKit Go.Shelf
set_option linter.unusedVariables false
set_option linter.unusedSimpArgs false
attribute [local irreducible] floatOfInt wz

theorem mul_bound {u v : Int} (hu : -524288 ≤ u ∧ u ≤ 524287) (hv : -524288 ≤ v ∧ v ≤ 524287) : -274877906944 ≤ u * v ∧ u * v ≤ 274877906944 := by
  have h : (u * v).natAbs ≤ 274877906944 := by
    rw [Int.natAbs_mul]
    exact Nat.le_trans (Nat.mul_le_mul (show u.natAbs ≤ 524288 by omega) (show v.natAbs ≤ 524288 by omega)) (by decide)
  omega
theorem sq0 (x : Int) : 0 ≤ x * x := by
  rcases Int.le_total 0 x with h | h
  · exact Int.mul_nonneg h h
  · have := Int.mul_nonneg (show 0 ≤ -x by omega) (show 0 ≤ -x by omega)
    rwa [Int.neg_mul_neg] at this
theorem gAdd_any {w : World} (a b c d : Nat) : Calls Tryz.prog 24 #[.complex .f64 a b, .complex .f64 c d] w fun e w' => e = .returned (mk (re a b + re c d) (im a b + im c d)) ∧ Below w.heap.size w w' := by
  obtain ⟨f1, f2⟩ := own_flo a b
  obtain ⟨f3, f4⟩ := own_flo c d
  have r1 := re_range a b
  have r2 := re_range c d
  obtain ⟨x, y, hxy, hx, hy⟩ := flo_csum f1 f2 f3 f4 (by omega) (by omega)
  have H1 := Lib.hid (fun W a b => gOwn_any (w := W) a b)
  have H2 := Lib.hid (fun W => gFit_any (w := W) hx hy (by omega) (by omega))
  have k1 := fun w : World => run_complex_sum (P := Tryz.prog) w .add (.inl rfl) 28 .f64 _ _ _ _ x y hxy
  clear f1 f2 f3 f4 hx hy hxy r1 r2
  generalize mk (re a b + re c d) (im a b + im c d) = r at *
  go_enter Tryz.func24, Tryz.ntmps24
  go_wp2_with fail
  refine (H1.out _ _ _).mono ?_
  rintro e w1 ⟨rfl, hb1⟩
  go_wp2_with fail
  refine (H1.out _ _ _).mono ?_
  rintro e w2 ⟨rfl, hb2⟩
  have HB := Lib.hid (hb1.trans (hb2.mono hb1.size))
  clear hb1 hb2
  go_wp2_with fail
  refine (H2.out _).mono ?_
  rintro e w3 ⟨rfl, rfl⟩
  go_wp2
  go_ret
  exact ⟨rfl, HB.out⟩
theorem gMul_any {w : World} (a b c d : Nat) : Calls Tryz.prog 25 #[.complex .f64 a b, .complex .f64 c d] w fun e w' => e = .returned (mk (re a b * re c d - im a b * im c d) (re a b * im c d + im a b * re c d)) ∧ Below w.heap.size w w' := by
  obtain ⟨f1, f2⟩ := own_flo a b
  obtain ⟨f3, f4⟩ := own_flo c d
  have r1 := re_range a b
  have r2 := re_range c d
  obtain ⟨x, y, hxy, hx, hy⟩ := flo_cmul f1 f2 f3 f4 (by omega) (by omega) (by omega) (by omega)
  have m1 := mul_bound r1.1 r2.1
  have m2 := mul_bound r1.2 r2.2
  have m3 := mul_bound r1.1 r2.2
  have m4 := mul_bound r1.2 r2.1
  have H1 := Lib.hid (fun W a b => gOwn_any (w := W) a b)
  have H2 := Lib.hid (fun W => gFit_any (w := W) hx hy (by omega) (by omega))
  have k1 := fun w : World => run_complex_mul (P := Tryz.prog) w 28 _ _ _ _ x y hxy
  clear f1 f2 f3 f4 hx hy hxy r1 r2 m1 m2 m3 m4
  generalize mk (re a b * re c d - im a b * im c d) (re a b * im c d + im a b * re c d) = r at *
  go_enter Tryz.func25, Tryz.ntmps25
  go_wp2_with fail
  refine (H1.out _ _ _).mono ?_
  rintro e w1 ⟨rfl, hb1⟩
  go_wp2_with fail
  refine (H1.out _ _ _).mono ?_
  rintro e w2 ⟨rfl, hb2⟩
  have HB := Lib.hid (hb1.trans (hb2.mono hb1.size))
  clear hb1 hb2
  go_wp2_with fail
  refine (H2.out _).mono ?_
  rintro e w3 ⟨rfl, rfl⟩
  go_wp2
  go_ret
  exact ⟨rfl, HB.out⟩
theorem gConj_any {w : World} (a b : Nat) : Calls Tryz.prog 26 #[.complex .f64 a b] w fun e w' => e = .returned (mk (re a b) (-im a b)) ∧ Below w.heap.size w w' := by
  obtain ⟨r1, r2, r3⟩ := re_range a b
  have H1 := Lib.hid (fun W => gParts_any (w := W) a b)
  have H2 := Lib.hid (fun W p q => gMake_any (w := W) p q)
  have w1 : wrap64 (-im a b) = -im a b := IntWalk.wrap64_in _ (by omega)
  generalize re a b = p at *
  generalize im a b = q at *
  clear r1
  go_enter Tryz.func26, Tryz.ntmps26
  go_wp2_with fail
  refine (H1.out _).mono ?_
  rintro e w2 ⟨rfl, hb1⟩
  have HB := Lib.hid hb1
  clear hb1
  go_wp2_with fail
  refine (H2.out _ _ _).mono ?_
  rintro e w3 ⟨rfl, rfl⟩
  go_wp2
  go_ret
  exact ⟨by first | rfl | (simp only [w1]; rfl), HB.out⟩
end
end Go.Proofs.YtoglmemmdolbmaaGreatDoor
namespace Go.Proofs.YtoglmemmdolbmaaGreatDoor
section
open Go.RowKit Go.Shelf
set_option linter.unusedVariables false
set_option linter.unusedSimpArgs false
attribute [local irreducible] floatOfInt wz

noncomputable def wh (x : Nat) : Bool := @decide (∃ n, Whole x n) (Classical.propDecidable _)
theorem wh_iff (x : Nat) : wh x = true ↔ ∃ n, Whole x n := by unfold wh; exact @decide_eq_true_iff _ (Classical.propDecidable _)
theorem wh_no {x : Nat} (h : ∀ n, ¬ Whole x n) : wh x = false := by
  cases h' : wh x with
  | false => rfl
  | true => obtain ⟨n, hn⟩ := (wh_iff x).1 h'; exact absurd hn (h n)
theorem isP_wh (a b : Nat) : isP a b = (wh a && wh b) := by
  have h1 := isP_iff a b
  have h2 := wh_iff a
  have h3 := wh_iff b
  rw [← h2, ← h3] at h1
  cases h : isP a b <;> cases ha : wh a <;> cases hb : wh b <;> simp_all

end
end Go.Proofs.YtoglmemmdolbmaaGreatDoor
namespace Go.Proofs.YtoglmemmdolbmaaGreatDoor
section
open Go.RowKit Go.Shelf
set_option linter.unusedVariables false
set_option linter.unusedSimpArgs false
attribute [local irreducible] floatOfInt wz

theorem wrap32_in {x : Int} (h0 : 0 ≤ x) (h1 : x ≤ 4294967295) : wrap32 x = if 2147483648 ≤ x then x - 4294967296 else x := by
  unfold wrap32
  split <;> omega
theorem gFromWords_any {w : World} (x y : Int) (hx : 0 ≤ x ∧ x ≤ 4294967295) (hy : 0 ≤ y ∧ y ≤ 4294967295) : Calls Tryz.prog 22 #[.int .u32 x, .int .u32 y] w fun e w' => e = .returned (mk (wrap32 x) (wrap32 y)) ∧ w = w' := by
  have k1 : ∀ n : Int, wrap64 (wrap32 n) = wrap32 n := fun n => by simp only [wrap64, wrap32]; omega
  have H1 := Lib.hid (fun W => show Calls Tryz.prog 11 #[.int .i64 (wrap64 (wrap32 x)), .int .i64 (wrap64 (wrap32 y))] W fun e w' => e = .returned (mk (wrap32 x) (wrap32 y)) ∧ W = w' from
    (gMake_any (w := W) (wrap64 (wrap32 x)) (wrap64 (wrap32 y))).mono fun e w' h => by rw [k1, k1] at h; exact h)
  clear k1
  go_enter Tryz.func22, Tryz.ntmps22
  go_wp2_with fail
  refine H1.out w |>.mono ?_
  rintro e w1 ⟨rfl, rfl⟩
  go_wp2
  go_ret
  exact ⟨rfl, rfl⟩
theorem gWords_any {w : World} (a b : Nat) : Calls Tryz.prog 23 #[.complex .f64 a b] w fun e w' => e = .returned (.tuple #[.int .u32 (re a b % 4294967296), .int .u32 (im a b % 4294967296)]) ∧ Below w.heap.size w w' := by
  have H1 := Lib.hid (fun W => gParts_any (w := W) a b)
  generalize re a b = p at *
  generalize im a b = q at *
  go_enter Tryz.func23, Tryz.ntmps23
  go_wp2_with fail
  refine H1.out w |>.mono ?_
  rintro e w1 ⟨rfl, hb⟩
  have HB := Lib.hid hb
  clear hb
  go_wp2
  go_ret2
  exact ⟨rfl, HB.out⟩
end
end Go.Proofs.YtoglmemmdolbmaaGreatDoor
