/-
  Floats that stand for whole numbers: what is written is read; a float in a range that is its floor is a whole number. Plain: no program in sight. No condition.
-/
import Derived.KernelRfl
import Derived.Test.YtodphfgopngpeaaDoorFlo1
namespace Go.Proofs.YtodphfgopngpeaaDoor
open Ieee
set_option linter.unusedVariables false
set_option linter.unusedSimpArgs false

theorem d_binade : double.binade = 4503599627370496 := by decide
theorem d_inf : double.infRung = 9218868437227405312 := by decide
theorem d_sign : double.signWeight = 9223372036854775808 := by decide
theorem d_least : double.leastPlace = -1074 := by decide
theorem d_frac : double.fractionBits = 52 := rfl
theorem d_word (s : Bool) (R : Nat) : double.word s R = if s then 9223372036854775808 + R else R := by unfold Format.word; rw [d_sign]

theorem word_parts (s : Bool) {R : Nat} (h : R < 9223372036854775808) : (double.word s R / 9223372036854775808 % 2 == 1) = s ∧ double.word s R % 9223372036854775808 = R := by
  rw [d_word]
  cases s
  · simp only [Bool.false_eq_true, if_false]
    refine ⟨?_, by omega⟩
    rw [Nat.div_eq_of_lt h]; rfl
  · simp only [if_true]
    refine ⟨?_, by omega⟩
    have : (9223372036854775808 + R) / 9223372036854775808 % 2 = 1 := by omega
    rw [this]; rfl
theorem read_zero (s : Bool) : double.read (double.word s 0) = .number s 0 (-1074) := by
  obtain ⟨h1, h2⟩ := word_parts s (R := 0) (by decide)
  unfold Format.read
  simp only [d_sign, d_binade, d_least, h1, h2]
  rfl
theorem read_word (s : Bool) {R : Nat} (h0 : 4503599627370496 ≤ R) (h1 : R < 9218868437227405312) :
    double.read (double.word s R) = .number s (4503599627370496 + R % 4503599627370496) (-1074 + ((R / 4503599627370496 - 1 : Nat) : Int)) := by
  obtain ⟨g1, g2⟩ := word_parts s (R := R) (by omega)
  unfold Format.read
  simp only [d_sign, d_binade, d_least, d_inf, g1, g2]
  rw [if_neg (by omega), if_pos h1]

theorem log2_up {a : Nat} (h : a ≠ 0) (k : Nat) : (a * 2 ^ k).log2 = a.log2 + k := by
  obtain ⟨h1, h2⟩ := log2_bounds h
  have hp := Nat.two_pow_pos k
  refine (Nat.log2_eq_iff (by have := Nat.mul_pos (Nat.pos_of_ne_zero h) hp; omega)).2 ⟨?_, ?_⟩
  · rw [Nat.pow_add]; exact Nat.mul_le_mul_right _ h1
  · rw [show a.log2 + k + 1 = (a.log2 + 1) + k by omega, Nat.pow_add]; exact Nat.mul_lt_mul_of_pos_right h2 hp
theorem pw_shiftN {X Y p q p' q' : Nat} (h : X * 2 ^ p = Y * 2 ^ q) (e : p + q' = p' + q) : X * 2 ^ p' = Y * 2 ^ q' := by
  have := pw_shift (X := (X : Int)) (Y := (Y : Int)) (p := p) (q := q) (p' := p') (q' := q') (by exact_mod_cast h) e
  exact_mod_cast this

theorem stand_write {d : Datum} {n : Int} (h : Stand d n) (hn : n.natAbs < 9007199254740992) : Stand (double.read (double.write d)) n := by
  obtain ⟨s, m, e, rfl, hA⟩ := h
  obtain ⟨hm, hs⟩ := stand_nat hA
  show Stand (double.read (double.nearest s m e)) n
  unfold Format.nearest
  by_cases h0 : m = 0
  · subst h0
    have hn0 : n = 0 := by
      rw [Nat.zero_mul] at hm
      have := Nat.two_pow_pos (-e).toNat
      rcases Nat.mul_eq_zero.1 hm.symm with h | h <;> omega
    subst hn0
    rw [if_pos rfl, read_zero]
    exact ⟨s, 0, _, rfl, by rw [show signed s 0 0 = 0 from by cases s <;> rfl, Int.zero_mul, Int.zero_mul]⟩
  · rw [if_neg h0]
    have hN0 : n.natAbs ≠ 0 := fun h => by
      rw [h, Nat.zero_mul] at hm
      have := Nat.two_pow_pos e.toNat
      rcases Nat.mul_eq_zero.1 hm with h | h <;> omega
    have hsg := signed_abs hs
    generalize n.natAbs = N at *
    have hlog : m.log2 + e.toNat = N.log2 + (-e).toNat := by rw [← log2_up h0, ← log2_up hN0, hm]
    have hL : N.log2 < 53 := (Nat.log2_lt hN0).2 hn
    obtain ⟨b1, b2⟩ := log2_bounds hN0
    have hlast : max (e + (m.log2 : Int) - ((52 : Nat) : Int)) (-1074) = (N.log2 : Int) - 52 := by omega
    simp only [d_frac, d_least, d_binade, d_inf, hlast, Nat.shiftLeft_eq]
    generalize N.log2 = L at *
    have hmk : m * 2 ^ (e - ((L : Int) - 52)).toNat = (N * 2 ^ (52 - L)) * 2 ^ ((L : Int) - 52 - e).toNat := by
      rw [Nat.mul_assoc, ← Nat.pow_add]
      exact pw_shiftN hm (by omega)
    have k1 : 4503599627370496 ≤ N * 2 ^ (52 - L) := by
      have := Nat.mul_le_mul_right (2 ^ (52 - L)) b1
      rw [← Nat.pow_add, show L + (52 - L) = 52 by omega] at this
      exact this
    have k2 : N * 2 ^ (52 - L) < 9007199254740992 := by
      have := Nat.mul_lt_mul_of_pos_right b2 (Nat.two_pow_pos (52 - L))
      rw [← Nat.pow_add, show L + 1 + (52 - L) = 53 by omega] at this
      exact this
    have hup : signed s (N * 2 ^ (52 - L)) 0 = n * 2 ^ (52 - L) := by
      rw [← hsg, ← signed_up]
      unfold signed
      simp [Nat.shiftLeft_eq]
    rw [hmk, cut_exact]
    generalize N * 2 ^ (52 - L) = K at *
    rw [show ((L : Int) - 52 - -1074).toNat = L + 1022 by omega, Nat.min_eq_left (by omega), read_word s (by omega) (by omega)]
    have e1 : 4503599627370496 + ((L + 1022) * 4503599627370496 + K) % 4503599627370496 = K := by omega
    have e2 : -1074 + ((((L + 1022) * 4503599627370496 + K) / 4503599627370496 - 1 : Nat) : Int) = (L : Int) - 52 := by omega
    rw [e1, e2]
    refine ⟨s, K, _, rfl, ?_⟩
    rw [hup, show ((L : Int) - 52).toNat = 0 by omega, show (-((L : Int) - 52)).toNat = 52 - L by omega]
    simp

/-! ## the floats -/
/-- These bits are a float that stands for n. -/
def Flo (x : Nat) (n : Int) : Prop := Stand (FloatKind.f64.decode x) n
theorem flo_add {x y : Nat} {a b : Int} (hx : Flo x a) (hy : Flo y b) (h : (a + b).natAbs < 9007199254740992) : ∃ r, floatBits .add .f64 x y = some r ∧ Flo r (a + b) := by
  obtain ⟨d, h1, h2⟩ := stand_sum hx hy
  exact ⟨double.write d, by show ((double.read x).sum (double.read y)).map double.write = _; rw [show (double.read x).sum (double.read y) = some d from h1]; rfl, stand_write h2 h⟩
theorem flo_sub {x y : Nat} {a b : Int} (hx : Flo x a) (hy : Flo y b) (h : (a - b).natAbs < 9007199254740992) : ∃ r, floatBits .sub .f64 x y = some r ∧ Flo r (a - b) := by
  obtain ⟨d, h1, h2⟩ := stand_sum hx (stand_opposite hy)
  rw [← Int.sub_eq_add_neg] at h2
  exact ⟨double.write d, by show ((double.read x).sum (double.read y).opposite).map double.write = _; rw [show (double.read x).sum (double.read y).opposite = some d from h1]; rfl, stand_write h2 h⟩
theorem flo_mul {x y : Nat} {a b : Int} (hx : Flo x a) (hy : Flo y b) (h : (a * b).natAbs < 9007199254740992) : ∃ r, floatBits .mul .f64 x y = some r ∧ Flo r (a * b) := by
  obtain ⟨d, h1, h2⟩ := stand_product hx hy
  exact ⟨double.write d, by show ((double.read x).product (double.read y)).map double.write = _; rw [show (double.read x).product (double.read y) = some d from h1]; rfl, stand_write h2 h⟩
theorem flo_order {x y : Nat} {a b : Int} (hx : Flo x a) (hy : Flo y b) : FloatKind.f64.format.order x y = some (compare a b) := stand_order hx hy
theorem flo_int {n : Int} (h : n.natAbs < 9007199254740992) : Flo (floatOfInt .f64 n) n :=
  stand_write (stand_number (signed_abs fun _ => rfl)) h
theorem flo_toInt {x : Nat} {n : Int} (hx : Flo x n) (h0 : -9223372036854775808 ≤ n) (h1 : n ≤ 9223372036854775807) : floatToIntVal .f64 x .i64 = some n := by
  unfold floatToIntVal
  rw [stand_toInt (way := .zero) hx]
  simp only
  rw [if_pos ⟨by simpa [IntKind.min, IntKind.signed, IntKind.bits] using h0, by simpa [IntKind.max, IntKind.signed, IntKind.bits] using h1⟩]
/-- (a, b) + (c, d) and (a, b) * (c, d), as complex numbers. -/
theorem flo_csum {x1 x2 y1 y2 : Nat} {a b c d : Int} (h1 : Flo x1 a) (h2 : Flo x2 b) (h3 : Flo y1 c) (h4 : Flo y2 d) (k1 : (a + c).natAbs < 9007199254740992) (k2 : (b + d).natAbs < 9007199254740992) :
    ∃ r s, cSumBits .add .f64 x1 x2 y1 y2 = some (r, s) ∧ Flo r (a + c) ∧ Flo s (b + d) := by
  obtain ⟨r, e1, f1⟩ := flo_add h1 h3 k1
  obtain ⟨s, e2, f2⟩ := flo_add h2 h4 k2
  exact ⟨r, s, by simp [cSumBits, e1, e2], f1, f2⟩
theorem flo_cmul {x1 x2 y1 y2 : Nat} {a b c d : Int} (h1 : Flo x1 a) (h2 : Flo x2 b) (h3 : Flo y1 c) (h4 : Flo y2 d) (ka : a.natAbs ≤ 524288) (kb : b.natAbs ≤ 524288) (kc : c.natAbs ≤ 524288) (kd : d.natAbs ≤ 524288) :
    ∃ r s, cMulBits x1 x2 y1 y2 = some (r, s) ∧ Flo r (a * c - b * d) ∧ Flo s (a * d + b * c) := by
  have bound : ∀ {u v : Int}, u.natAbs ≤ 524288 → v.natAbs ≤ 524288 → (u * v).natAbs ≤ 274877906944 := fun {u v} hu hv => by
    rw [Int.natAbs_mul]
    exact Nat.le_trans (Nat.mul_le_mul hu hv) (by decide)
  have m1 := bound ka kc
  have m2 := bound kb kd
  have m3 := bound ka kd
  have m4 := bound kb kc
  obtain ⟨r1, e1, f1⟩ := flo_mul h1 h3 (by omega)
  obtain ⟨r2, e2, f2⟩ := flo_mul h2 h4 (by omega)
  obtain ⟨r3, e3, f3⟩ := flo_sub f1 f2 (by omega)
  obtain ⟨r4, e4, f4⟩ := flo_mul h1 h4 (by omega)
  obtain ⟨r5, e5, f5⟩ := flo_mul h2 h3 (by omega)
  obtain ⟨r6, e6, f6⟩ := flo_add f4 f5 (by omega)
  exact ⟨r3, r6, by simp [cMulBits, e1, e2, e3, e4, e5, e6], f3, f6⟩
end Go.Proofs.YtodphfgopngpeaaDoor
