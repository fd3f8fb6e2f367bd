/-
  Walks over package gauss and its reference: numbers made, their parts. No condition.
-/
import Derived.Test.YtodphfgopngpeaaDoorGau3
namespace Go.Proofs.YtodphfgopngpeaaDoor
open Go.RowKit Go.Shelf
set_option linter.unusedVariables false
set_option linter.unusedSimpArgs false
attribute [local irreducible] floatOfInt wz

theorem gMake_any {w : World} (p q : Int) : Calls Tryd.prog 9 #[.int .i64 p, .int .i64 q] w fun e w' => e = .returned (mk p q) ∧ w = w' := by
  have H1 := Lib.hid (fun W n => gWrap_any (w := W) n)
  unfold mk
  go_enter Tryd.func9, Tryd.ntmps9
  go_wp2_with (go_at_call 24; refine (H1.out _ _).mono ?_; rintro e w1 ⟨rfl, rfl⟩)
  go_ret
  exact ⟨rfl, rfl⟩
theorem rMake_any {w : World} (p q : Int) : Calls Tryd.prog 32 #[.int .i64 p, .int .i64 q] w fun e w' => e = .returned (mk p q) ∧ w = w' := by
  have H1 := Lib.hid (fun W n => rWrap_any (w := W) n)
  unfold mk
  go_enter Tryd.func32, Tryd.ntmps32
  go_wp2_with (go_at_call 46; refine (H1.out _ _).mono ?_; rintro e w1 ⟨rfl, rfl⟩)
  go_ret
  exact ⟨rfl, rfl⟩

/-! ## the parts of any complex number -/
theorem may_any {w : World} (a b : Nat) : Calls Tryd.prog 23 #[.complex .f64 a b] w fun e w' => e = .returned (.bool (isP a b)) ∧ Below w.heap.size w w' := callsIn_wide.1 (may_in 8 (Nat.le_refl _) a b w)
noncomputable def prt (x : Nat) : Int := @dite _ (∃ n, Whole x n) (Classical.propDecidable _) (fun h => Classical.choose h) (fun _ => 0)
theorem prt_eq {x : Nat} {n : Int} (h : Whole x n) : prt x = n := by
  unfold prt
  have he : ∃ n, Whole x n := ⟨n, h⟩
  rw [dif_pos he]
  exact flo_inj (Classical.choose_spec he).1 h.1
theorem prt_whole {x : Nat} (h : ∃ n, Whole x n) : Whole x (prt x) := by
  obtain ⟨n, hn⟩ := h
  rw [prt_eq hn]; exact hn
noncomputable def re (a b : Nat) : Int := if isP a b then prt a else 0
noncomputable def im (a b : Nat) : Int := if isP a b then prt b else 0
theorem re_range (a b : Nat) : (-524288 ≤ re a b ∧ re a b ≤ 524287) ∧ -524288 ≤ im a b ∧ im a b ≤ 524287 := by
  unfold re im
  by_cases h : isP a b = true
  · obtain ⟨h1, h2⟩ := (isP_iff a b).1 h
    simp only [h, if_true]
    exact ⟨(prt_whole h1).2, (prt_whole h2).2⟩
  · simp only [h, if_false]; simp

theorem gParts_any {w : World} (a b : Nat) : Calls Tryd.prog 13 #[.complex .f64 a b] w fun e w' => e = .returned (.tuple #[.int .i64 (re a b), .int .i64 (im a b)]) ∧ Below w.heap.size w w' := by
  have HM := Lib.hid (fun W => may_any (w := W) a b)
  unfold re im
  cases h : isP a b with
  | true =>
    obtain ⟨h1, h2⟩ := (isP_iff a b).1 h
    have p1 := prt_whole h1
    have p2 := prt_whole h2
    have k1 := fun w : World => run_convert_float_int (P := Tryd.prog) w 34 2 .f64 .i64 a (prt a) (by rw [Tryd.underlying34]; rfl) Tryd.underlying2 (flo_toInt p1.1 (by have := p1.2; omega) (by have := p1.2; omega))
    have k2 := fun w : World => run_convert_float_int (P := Tryd.prog) w 34 2 .f64 .i64 b (prt b) (by rw [Tryd.underlying34]; rfl) Tryd.underlying2 (flo_toInt p2.1 (by have := p2.2; omega) (by have := p2.2; omega))
    rw [h] at HM
    simp only [if_true]
    clear p1 p2 h1 h2 h
    generalize prt a = p at *
    generalize prt b = q at *
    go_enter Tryd.func13, Tryd.ntmps13
    go_wp2_with (go_at_call 23; refine (HM.out _).mono ?_; rintro e w1 ⟨rfl, hb1⟩; have HB := Lib.hid hb1; clear hb1)
    go_ret2
    exact ⟨rfl, HB.out⟩
  | false =>
    rw [h] at HM
    simp only [if_false, Bool.false_eq_true]
    clear h
    go_enter Tryd.func13, Tryd.ntmps13
    go_wp2_with (go_at_call 23; refine (HM.out _).mono ?_; rintro e w1 ⟨rfl, hb1⟩; have HB := Lib.hid hb1; clear hb1)
    go_ret2
    exact ⟨rfl, HB.out⟩

noncomputable def ownX (a b x : Nat) : Nat := if isP a b then x else 0
theorem gOwn_any {w : World} (a b : Nat) : Calls Tryd.prog 26 #[.complex .f64 a b] w fun e w' => e = .returned (.complex .f64 (ownX a b a) (ownX a b b)) ∧ Below w.heap.size w w' := by
  have HM := Lib.hid (fun W => may_any (w := W) a b)
  unfold ownX
  cases h : isP a b with
  | true =>
    rw [h] at HM
    simp only [if_true]
    clear h
    go_enter Tryd.func26, Tryd.ntmps26
    go_wp2_with (go_at_call 23; refine (HM.out _).mono ?_; rintro e w1 ⟨rfl, hb1⟩; have HB := Lib.hid hb1; clear hb1)
    go_ret
    exact ⟨rfl, HB.out⟩
  | false =>
    rw [h] at HM
    simp only [if_false, Bool.false_eq_true]
    clear h
    go_enter Tryd.func26, Tryd.ntmps26
    go_wp2_with (go_at_call 23; refine (HM.out _).mono ?_; rintro e w1 ⟨rfl, hb1⟩; have HB := Lib.hid hb1; clear hb1)
    go_ret
    exact ⟨rfl, HB.out⟩
theorem own_flo (a b : Nat) : Flo (ownX a b a) (re a b) ∧ Flo (ownX a b b) (im a b) := by
  unfold ownX re im
  by_cases h : isP a b = true
  · obtain ⟨h1, h2⟩ := (isP_iff a b).1 h
    simp only [h, if_true]
    exact ⟨(prt_whole h1).1, (prt_whole h2).1⟩
  · simp only [h, if_false]
    exact ⟨flo_zero, flo_zero⟩
theorem gFit_any {w : World} {x y : Nat} {p q : Int} (hx : Flo x p) (hy : Flo y q) (b1 : -9223372036854775808 ≤ p ∧ p ≤ 9223372036854775807) (b2 : -9223372036854775808 ≤ q ∧ q ≤ 9223372036854775807) :
    Calls Tryd.prog 25 #[.complex .f64 x y] w fun e w' => e = .returned (mk p q) ∧ w = w' := by
  have H1 := Lib.hid (fun W => gMake_any (w := W) p q)
  have k1 := fun w : World => run_convert_float_int (P := Tryd.prog) w 34 2 .f64 .i64 x p (by rw [Tryd.underlying34]; rfl) Tryd.underlying2 (flo_toInt hx b1.1 b1.2)
  have k2 := fun w : World => run_convert_float_int (P := Tryd.prog) w 34 2 .f64 .i64 y q (by rw [Tryd.underlying34]; rfl) Tryd.underlying2 (flo_toInt hy b2.1 b2.2)
  clear hx hy b1 b2
  generalize mk p q = r at *
  go_enter Tryd.func25, Tryd.ntmps25
  go_wp2_with (go_at_call 9; refine (H1.out _).mono ?_; rintro e w1 ⟨rfl, rfl⟩)
  go_ret
  exact ⟨rfl, rfl⟩
end Go.Proofs.YtodphfgopngpeaaDoor
