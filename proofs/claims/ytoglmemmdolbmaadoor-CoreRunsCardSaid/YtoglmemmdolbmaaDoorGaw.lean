/-
  Walks over package gauss and its reference: a number's words, words' number. Condition: words are words.
-/
import Derived.Test.YtoglmemmdolbmaaDoorGau4
namespace Go.Proofs.YtoglmemmdolbmaaDoor
section
open Go.RowKit Go.Shelf
set_option linter.unusedVariables false
set_option linter.unusedSimpArgs false
attribute [local irreducible] floatOfInt wz

theorem mul_bound {u v : Int} (hu : -524288 ≤ u ∧ u ≤ 524287) (hv : -524288 ≤ v ∧ v ≤ 524287) : -274877906944 ≤ u * v ∧ u * v ≤ 274877906944 := by
  have h : (u * v).natAbs ≤ 274877906944 := by
    rw [Int.natAbs_mul]
    exact Nat.le_trans (Nat.mul_le_mul (show u.natAbs ≤ 524288 by omega) (show v.natAbs ≤ 524288 by omega)) (by decide)
  omega
theorem sq0 (x : Int) : 0 ≤ x * x := by
  rcases Int.le_total 0 x with h | h
  · exact Int.mul_nonneg h h
  · have := Int.mul_nonneg (show 0 ≤ -x by omega) (show 0 ≤ -x by omega)
    rwa [Int.neg_mul_neg] at this
theorem gAdd_any {w : World} (a b c d : Nat) : Calls Tryd.prog 56 #[.complex .f64 a b, .complex .f64 c d] w fun e w' => e = .returned (mk (re a b + re c d) (im a b + im c d)) ∧ Below w.heap.size w w' := by
  obtain ⟨f1, f2⟩ := own_flo a b
  obtain ⟨f3, f4⟩ := own_flo c d
  have r1 := re_range a b
  have r2 := re_range c d
  obtain ⟨x, y, hxy, hx, hy⟩ := flo_csum f1 f2 f3 f4 (by omega) (by omega)
  have H1 := Lib.hid (fun W a b => gOwn_any (w := W) a b)
  have H2 := Lib.hid (fun W => gFit_any (w := W) hx hy (by omega) (by omega))
  have k1 := fun w : World => run_complex_sum (P := Tryd.prog) w .add (.inl rfl) 25 .f64 _ _ _ _ x y hxy
  clear f1 f2 f3 f4 hx hy hxy r1 r2
  generalize mk (re a b + re c d) (im a b + im c d) = r at *
  go_enter Tryd.func56, Tryd.ntmps56
  go_wp2_with fail
  refine (H1.out _ _ _).mono ?_
  rintro e w1 ⟨rfl, hb1⟩
  go_wp2_with fail
  refine (H1.out _ _ _).mono ?_
  rintro e w2 ⟨rfl, hb2⟩
  have HB := Lib.hid (hb1.trans (hb2.mono hb1.size))
  clear hb1 hb2
  go_wp2_with fail
  refine (H2.out _).mono ?_
  rintro e w3 ⟨rfl, rfl⟩
  go_wp2
  go_ret
  exact ⟨rfl, HB.out⟩
theorem gMul_any {w : World} (a b c d : Nat) : Calls Tryd.prog 57 #[.complex .f64 a b, .complex .f64 c d] w fun e w' => e = .returned (mk (re a b * re c d - im a b * im c d) (re a b * im c d + im a b * re c d)) ∧ Below w.heap.size w w' := by
  obtain ⟨f1, f2⟩ := own_flo a b
  obtain ⟨f3, f4⟩ := own_flo c d
  have r1 := re_range a b
  have r2 := re_range c d
  obtain ⟨x, y, hxy, hx, hy⟩ := flo_cmul f1 f2 f3 f4 (by omega) (by omega) (by omega) (by omega)
  have m1 := mul_bound r1.1 r2.1
  have m2 := mul_bound r1.2 r2.2
  have m3 := mul_bound r1.1 r2.2
  have m4 := mul_bound r1.2 r2.1
  have H1 := Lib.hid (fun W a b => gOwn_any (w := W) a b)
  have H2 := Lib.hid (fun W => gFit_any (w := W) hx hy (by omega) (by omega))
  have k1 := fun w : World => run_complex_mul (P := Tryd.prog) w 25 _ _ _ _ x y hxy
  clear f1 f2 f3 f4 hx hy hxy r1 r2 m1 m2 m3 m4
  generalize mk (re a b * re c d - im a b * im c d) (re a b * im c d + im a b * re c d) = r at *
  go_enter Tryd.func57, Tryd.ntmps57
  go_wp2_with fail
  refine (H1.out _ _ _).mono ?_
  rintro e w1 ⟨rfl, hb1⟩
  go_wp2_with fail
  refine (H1.out _ _ _).mono ?_
  rintro e w2 ⟨rfl, hb2⟩
  have HB := Lib.hid (hb1.trans (hb2.mono hb1.size))
  clear hb1 hb2
  go_wp2_with fail
  refine (H2.out _).mono ?_
  rintro e w3 ⟨rfl, rfl⟩
  go_wp2
  go_ret
  exact ⟨rfl, HB.out⟩
theorem gConj_any {w : World} (a b : Nat) : Calls Tryd.prog 58 #[.complex .f64 a b] w fun e w' => e = .returned (mk (re a b) (-im a b)) ∧ Below w.heap.size w w' := by
  obtain ⟨r1, r2, r3⟩ := re_range a b
  have H1 := Lib.hid (fun W => gParts_any (w := W) a b)
  have H2 := Lib.hid (fun W p q => gMake_any (w := W) p q)
  have w1 : wrap64 (-im a b) = -im a b := IntWalk.wrap64_in _ (by omega)
  generalize re a b = p at *
  generalize im a b = q at *
  clear r1
  go_enter Tryd.func58, Tryd.ntmps58
  go_wp2_with fail
  refine (H1.out _).mono ?_
  rintro e w2 ⟨rfl, hb1⟩
  have HB := Lib.hid hb1
  clear hb1
  go_wp2_with fail
  refine (H2.out _ _ _).mono ?_
  rintro e w3 ⟨rfl, rfl⟩
  go_wp2
  go_ret
  exact ⟨by first | rfl | (simp only [w1]; rfl), HB.out⟩
end
end Go.Proofs.YtoglmemmdolbmaaDoor
namespace Go.Proofs.YtoglmemmdolbmaaDoor
section
open Go.RowKit Go.Shelf
set_option linter.unusedVariables false
set_option linter.unusedSimpArgs false
attribute [local irreducible] floatOfInt wz

noncomputable def wh (x : Nat) : Bool := @decide (∃ n, Whole x n) (Classical.propDecidable _)
theorem wh_iff (x : Nat) : wh x = true ↔ ∃ n, Whole x n := by unfold wh; exact @decide_eq_true_iff _ (Classical.propDecidable _)
theorem wh_no {x : Nat} (h : ∀ n, ¬ Whole x n) : wh x = false := by
  cases h' : wh x with
  | false => rfl
  | true => obtain ⟨n, hn⟩ := (wh_iff x).1 h'; exact absurd hn (h n)
theorem isP_wh (a b : Nat) : isP a b = (wh a && wh b) := by
  have h1 := isP_iff a b
  have h2 := wh_iff a
  have h3 := wh_iff b
  rw [← h2, ← h3] at h1
  cases h : isP a b <;> cases ha : wh a <;> cases hb : wh b <;> simp_all

theorem rPart_any {w : World} (x : Nat) : Calls Tryd.prog 60 #[.float .f64 x] w fun e w' => ∃ k, e = .returned (.tuple #[.int .i64 k, .bool (wh x)]) ∧ (wh x = true → k = prt x) ∧ w = w' := by
  rcases part_cases x with ⟨g0, hno⟩ | ⟨g0, g1, hno⟩ | ⟨g0, g1, g2, hno⟩ | ⟨g0, g1, g2, k, b, hk, hb, hiff, heq⟩
  · rw [wh_no hno]
    clear hno
    go_enter Tryd.func60, Tryd.ntmps60
    go_wp2
    go_ret2
    exact ⟨_, rfl, (fun h => by cases h), rfl⟩
  · rw [wh_no hno]
    clear hno
    go_enter Tryd.func60, Tryd.ntmps60
    go_wp2
    go_ret2
    exact ⟨_, rfl, (fun h => by cases h), rfl⟩
  · rw [wh_no hno]
    clear hno
    go_enter Tryd.func60, Tryd.ntmps60
    go_wp2
    go_ret2
    exact ⟨_, rfl, (fun h => by cases h), rfl⟩
  · have hwb : wh x = b := by
      have h2 := wh_iff x
      rw [← hiff] at h2
      cases h : wh x <;> cases h' : b <;> simp_all
    have hkp : wh x = true → k = prt x := fun h => by
      have h3 := prt_whole ((wh_iff x).1 h)
      exact heq _ h3
    rw [hwb] at hkp ⊢
    have k1 := fun w : World => run_convert_float_int (P := Tryd.prog) w 80 2 .f64 .i64 x k (by rw [Tryd.underlying80]; rfl) Tryd.underlying2 hk
    have HK := Lib.hid hkp
    clear hiff heq hkp hk hwb
    generalize prt x = p at *
    go_enter Tryd.func60, Tryd.ntmps60
    go_wp2
    go_ret2
    exact ⟨k, rfl, HK.out, rfl⟩

set_option maxHeartbeats 1000000 in
theorem rParts_any {w : World} (a b : Nat) : Calls Tryd.prog 42 #[.complex .f64 a b] w fun e w' => e = .returned (.tuple #[.int .i64 (re a b), .int .i64 (im a b), .bool (isP a b)]) ∧ w = w' := by
  have H1 := Lib.hid (fun W x => rPart_any (w := W) x)
  unfold re im
  rw [isP_wh]
  cases ha : wh a with
  | false =>
    simp only [Bool.false_and, if_false, Bool.false_eq_true]
    have HA := Lib.hid (fun W => (by have h := H1.out W a; rw [ha] at h; exact h))
    have HB := Lib.hid (fun W => H1.out W b)
    generalize wh b = v at *
    clear ha H1
    go_enter Tryd.func42, Tryd.ntmps42
    go_wp2_with fail
    refine (HA.out _).mono ?_
    rintro e w1 ⟨k, rfl, hk, rfl⟩
    go_wp2_with fail
    refine (HB.out _).mono ?_
    rintro e w2 ⟨k2, rfl, hk2, rfl⟩
    clear hk hk2
    go_wp2
    go_ret3
    exact ⟨rfl, rfl⟩
  | true =>
    have HA := Lib.hid (fun W => (by have h := H1.out W a; rw [ha] at h; exact h))
    cases hb : wh b with
    | false =>
      simp only [Bool.true_and, if_false, Bool.false_eq_true]
      have HB := Lib.hid (fun W => (by have h := H1.out W b; rw [hb] at h; exact h))
      clear ha hb H1
      go_enter Tryd.func42, Tryd.ntmps42
      go_wp2_with fail
      refine (HA.out _).mono ?_
      rintro e w1 ⟨k, rfl, hk, rfl⟩
      go_wp2_with fail
      refine (HB.out _).mono ?_
      rintro e w2 ⟨k2, rfl, hk2, rfl⟩
      clear hk hk2
      go_wp2
      go_ret3
      exact ⟨rfl, rfl⟩
    | true =>
      simp only [Bool.true_and, if_true]
      have HB := Lib.hid (fun W => (by have h := H1.out W b; rw [hb] at h; exact h))
      clear ha hb H1
      go_enter Tryd.func42, Tryd.ntmps42
      go_wp2_with fail
      refine (HA.out _).mono ?_
      rintro e w1 ⟨k, rfl, hk, rfl⟩
      obtain rfl := hk (by simp)
      go_wp2_with fail
      refine (HB.out _).mono ?_
      rintro e w2 ⟨k2, rfl, hk2, rfl⟩
      obtain rfl := hk2 (by simp)
      clear hk hk2
      go_wp2
      go_ret3
      exact ⟨rfl, rfl⟩

theorem rAdd_any {w : World} (a b c d : Nat) : Calls Tryd.prog 40 #[.complex .f64 a b, .complex .f64 c d] w fun e w' => e = .returned (mk (re a b + re c d) (im a b + im c d)) ∧ w = w' := by
  have r1 := re_range a b
  have r2 := re_range c d
  have H1 := Lib.hid (fun W a b => rParts_any (w := W) a b)
  have H2 := Lib.hid (fun W p q => rMake_any (w := W) p q)
  have w1 : wrap64 (re a b + re c d) = re a b + re c d := IntWalk.wrap64_in _ (by omega)
  have w2 : wrap64 (im a b + im c d) = im a b + im c d := IntWalk.wrap64_in _ (by omega)
  clear r1 r2
  go_enter Tryd.func40, Tryd.ntmps40
  go_wp2_with fail
  refine (H1.out _ _ _).mono ?_
  rintro e w1 ⟨rfl, rfl⟩
  go_wp2_with fail
  refine (H1.out _ _ _).mono ?_
  rintro e w1 ⟨rfl, rfl⟩
  go_wp2_with fail
  refine (H2.out _ _ _).mono ?_
  rintro e w3 ⟨rfl, rfl⟩
  go_wp2
  go_ret
  exact ⟨by first | rfl | (simp only [w1, w2]; rfl), rfl⟩
theorem rMul_any {w : World} (a b c d : Nat) : Calls Tryd.prog 41 #[.complex .f64 a b, .complex .f64 c d] w fun e w' => e = .returned (mk (re a b * re c d - im a b * im c d) (re a b * im c d + im a b * re c d)) ∧ w = w' := by
  have r1 := re_range a b
  have r2 := re_range c d
  have m1 := mul_bound r1.1 r2.1
  have m2 := mul_bound r1.2 r2.2
  have m3 := mul_bound r1.1 r2.2
  have m4 := mul_bound r1.2 r2.1
  have H1 := Lib.hid (fun W a b => rParts_any (w := W) a b)
  have H2 := Lib.hid (fun W p q => rMake_any (w := W) p q)
  have v1 : wrap64 (re a b * re c d) = re a b * re c d := IntWalk.wrap64_in _ (by omega)
  have v2 : wrap64 (im a b * im c d) = im a b * im c d := IntWalk.wrap64_in _ (by omega)
  have v3 : wrap64 (re a b * im c d) = re a b * im c d := IntWalk.wrap64_in _ (by omega)
  have v4 : wrap64 (im a b * re c d) = im a b * re c d := IntWalk.wrap64_in _ (by omega)
  have v5 : wrap64 (re a b * re c d - im a b * im c d) = re a b * re c d - im a b * im c d := IntWalk.wrap64_in _ (by omega)
  have v6 : wrap64 (re a b * im c d + im a b * re c d) = re a b * im c d + im a b * re c d := IntWalk.wrap64_in _ (by omega)
  clear r1 r2 m1 m2 m3 m4
  go_enter Tryd.func41, Tryd.ntmps41
  go_wp2_with fail
  refine (H1.out _ _ _).mono ?_
  rintro e w1 ⟨rfl, rfl⟩
  go_wp2_with fail
  refine (H1.out _ _ _).mono ?_
  rintro e w1 ⟨rfl, rfl⟩
  go_wp2_with fail
  refine (H2.out _ _ _).mono ?_
  rintro e w3 ⟨rfl, rfl⟩
  go_wp2
  go_ret
  exact ⟨by first | rfl | (simp only [v1, v2, v3, v4, v5, v6]; rfl), rfl⟩
end
end Go.Proofs.YtoglmemmdolbmaaDoor
namespace Go.Proofs.YtoglmemmdolbmaaDoor
section
open Go.RowKit Go.Shelf
set_option linter.unusedVariables false
set_option linter.unusedSimpArgs false
attribute [local irreducible] floatOfInt wz

theorem wrap32_in {x : Int} (h0 : 0 ≤ x) (h1 : x ≤ 4294967295) : wrap32 x = if 2147483648 ≤ x then x - 4294967296 else x := by
  unfold wrap32
  split <;> omega
theorem gFromWords_any {w : World} (x y : Int) (hx : 0 ≤ x ∧ x ≤ 4294967295) (hy : 0 ≤ y ∧ y ≤ 4294967295) : Calls Tryd.prog 54 #[.int .u32 x, .int .u32 y] w fun e w' => e = .returned (mk (wrap32 x) (wrap32 y)) ∧ w = w' := by
  have k1 : ∀ n : Int, wrap64 (wrap32 n) = wrap32 n := fun n => by simp only [wrap64, wrap32]; omega
  have H1 := Lib.hid (fun W => show Calls Tryd.prog 22 #[.int .i64 (wrap64 (wrap32 x)), .int .i64 (wrap64 (wrap32 y))] W fun e w' => e = .returned (mk (wrap32 x) (wrap32 y)) ∧ W = w' from
    (gMake_any (w := W) (wrap64 (wrap32 x)) (wrap64 (wrap32 y))).mono fun e w' h => by rw [k1, k1] at h; exact h)
  clear k1
  go_enter Tryd.func54, Tryd.ntmps54
  go_wp2_with fail
  refine H1.out w |>.mono ?_
  rintro e w1 ⟨rfl, rfl⟩
  go_wp2
  go_ret
  exact ⟨rfl, rfl⟩
theorem rFromWords_any {w : World} (x y : Int) (hx : 0 ≤ x ∧ x ≤ 4294967295) (hy : 0 ≤ y ∧ y ≤ 4294967295) : Calls Tryd.prog 38 #[.int .u32 x, .int .u32 y] w fun e w' => e = .returned (mk (wrap32 x) (wrap32 y)) ∧ w = w' := by
  have H1 := Lib.hid (fun W => rMake_any (w := W) (wrap32 x) (wrap32 y))
  have e1 := wrap32_in hx.1 hx.2
  have e2 := wrap32_in hy.1 hy.2
  obtain ⟨hx0, hx1⟩ := hx
  obtain ⟨hy0, hy1⟩ := hy
  by_cases h1 : 2147483648 ≤ x <;> by_cases h2 : 2147483648 ≤ y
  all_goals
    simp only [h1, h2, if_true, if_false] at e1 e2
    rw [e1, e2] at H1 ⊢
    clear e1 e2
    go_enter Tryd.func38, Tryd.ntmps38
    go_wp2_with fail
    refine H1.out w |>.mono ?_
    rintro e w1 ⟨rfl, rfl⟩
    go_wp2
    go_ret
    exact ⟨rfl, rfl⟩
theorem gWords_any {w : World} (a b : Nat) : Calls Tryd.prog 55 #[.complex .f64 a b] w fun e w' => e = .returned (.tuple #[.int .u32 (re a b % 4294967296), .int .u32 (im a b % 4294967296)]) ∧ Below w.heap.size w w' := by
  have H1 := Lib.hid (fun W => gParts_any (w := W) a b)
  generalize re a b = p at *
  generalize im a b = q at *
  go_enter Tryd.func55, Tryd.ntmps55
  go_wp2_with fail
  refine H1.out w |>.mono ?_
  rintro e w1 ⟨rfl, hb⟩
  have HB := Lib.hid hb
  clear hb
  go_wp2
  go_ret2
  exact ⟨rfl, HB.out⟩
theorem rWords_any {w : World} (a b : Nat) : Calls Tryd.prog 39 #[.complex .f64 a b] w fun e w' => e = .returned (.tuple #[.int .u32 (re a b % 4294967296), .int .u32 (im a b % 4294967296)]) ∧ w = w' := by
  have H1 := Lib.hid (fun W => rParts_any (w := W) a b)
  obtain ⟨⟨p0, p1⟩, p2, p3⟩ := re_range a b
  generalize re a b = p at *
  generalize im a b = q at *
  generalize isP a b = t at *
  have e1 : p % 4294967296 = if p < 0 then p + 4294967296 else p := by split <;> omega
  have e2 : q % 4294967296 = if q < 0 then q + 4294967296 else q := by split <;> omega
  by_cases h1 : p < 0 <;> by_cases h2 : q < 0
  all_goals
    simp only [h1, h2, if_true, if_false] at e1 e2
    rw [e1, e2]
    have E1 := Lib.hid e1
    have E2 := Lib.hid e2
    clear e1 e2
    go_enter Tryd.func39, Tryd.ntmps39
    go_wp2_with fail
    refine H1.out w |>.mono ?_
    rintro e w1 ⟨rfl, rfl⟩
    go_wp2
    go_ret2
    exact ⟨by first | rfl | simp, rfl⟩
end
end Go.Proofs.YtoglmemmdolbmaaDoor
