/-
  Which floats are parts: the code's way, and the document's. Plain: no program in sight. No condition.
-/
import Derived.Laws.ComplexArith
import Derived.KernelRfl
namespace Go.Proofs.YtoglmemmdolbmaaDoor
section
open Ieee
set_option linter.unusedVariables false
set_option linter.unusedSimpArgs false

theorem two_pos (k : Nat) : (0 : Int) < 2 ^ k := by
  have : (0 : Int) < ((2 ^ k : Nat) : Int) := by have := Nat.two_pow_pos k; omega
  simpa using this
theorem pw_shift {X Y : Int} {p q p' q' : Nat} (h : X * 2 ^ p = Y * 2 ^ q) (e : p + q' = p' + q) : X * 2 ^ p' = Y * 2 ^ q' := by
  have h2 : X * 2 ^ p' * 2 ^ q = Y * 2 ^ q' * 2 ^ q := by
    rw [Int.mul_assoc, ← Int.pow_add, ← e, Int.pow_add, ← Int.mul_assoc, h]
    rw [Int.mul_assoc, Int.mul_assoc, Int.mul_comm (2 ^ q) (2 ^ q')]
  have := two_pos q
  exact Int.eq_of_mul_eq_mul_right (by omega) h2

theorem signed_up (s : Bool) (m k : Nat) : signed s m k = signed s m 0 * 2 ^ k := by
  unfold signed
  simp only [Nat.shiftLeft_eq, Nat.pow_zero, Nat.mul_one]
  cases s <;> simp [Int.neg_mul]
theorem signed_mul (s t : Bool) (m n : Nat) : signed (s ^^ t) (m * n) 0 = signed s m 0 * signed t n 0 := by
  unfold signed
  cases s <;> cases t <;> simp [Nat.shiftLeft_eq, Int.neg_mul, Int.mul_neg]
theorem signed_abs {x : Int} {g : Bool} (h : x ≠ 0 → g = decide (x < 0)) : signed g x.natAbs 0 = x := by
  unfold signed
  simp only [Nat.shiftLeft_eq, Nat.pow_zero, Nat.mul_one]
  by_cases hx : x = 0
  · subst hx; cases g <;> simp
  · rw [h hx]; split <;> rename_i hd <;> simp at hd <;> omega

/-- What a datum stands for is the whole number n. -/
def Stand (d : Datum) (n : Int) : Prop := ∃ (s : Bool) (m : Nat) (e : Int), d = .number s m e ∧ signed s m 0 * 2 ^ e.toNat = n * 2 ^ (-e).toNat

theorem stand_scale {S a : Int} {e b : Int} (h : S * 2 ^ e.toNat = a * 2 ^ (-e).toNat) (hb : b ≤ e) : S * 2 ^ (e - b).toNat * 2 ^ b.toNat = a * 2 ^ (-b).toNat := by
  rw [Int.mul_assoc, ← Int.pow_add]
  exact pw_shift h (by omega)
theorem stand_number {s : Bool} {m : Nat} {n : Int} (h : signed s m 0 = n) : Stand (.number s m 0) n := ⟨s, m, 0, rfl, by simp [h]⟩

theorem stand_sum {d d' : Datum} {a b : Int} (ha : Stand d a) (hb : Stand d' b) : ∃ r, d.sum d' = some r ∧ Stand r (a + b) := by
  obtain ⟨s, m, i, rfl, hA⟩ := ha
  obtain ⟨t, n, j, rfl, hB⟩ := hb
  refine ⟨_, rfl, _, _, min i j, rfl, ?_⟩
  rw [signed_abs (fun hx => by simp only [hx, if_false])]
  rw [signed_up s, signed_up t, Int.add_mul, Int.add_mul, stand_scale hA (by omega), stand_scale hB (by omega)]

theorem stand_product {d d' : Datum} {a b : Int} (ha : Stand d a) (hb : Stand d' b) : ∃ r, d.product d' = some r ∧ Stand r (a * b) := by
  obtain ⟨s, m, i, rfl, hA⟩ := ha
  obtain ⟨t, n, j, rfl, hB⟩ := hb
  refine ⟨_, rfl, _, _, i + j, rfl, ?_⟩
  rw [signed_mul]
  have h : signed s m 0 * signed t n 0 * 2 ^ (i.toNat + j.toNat) = a * b * 2 ^ ((-i).toNat + (-j).toNat) := by
    rw [Int.pow_add, Int.pow_add]
    have e : ∀ x y p q : Int, x * y * (p * q) = (x * p) * (y * q) := fun x y p q => by
      rw [Int.mul_assoc, Int.mul_assoc, Int.mul_left_comm y p q]
    rw [e (signed s m 0) (signed t n 0), e a b, hA, hB]
  exact pw_shift h (by omega)

theorem stand_opposite {d : Datum} {a : Int} (ha : Stand d a) : Stand d.opposite (-a) := by
  obtain ⟨s, m, i, rfl, hA⟩ := ha
  refine ⟨_, _, i, rfl, ?_⟩
  have e : signed (!s) m 0 = -signed s m 0 := by unfold signed; cases s <;> simp
  rw [e, Int.neg_mul, hA, Int.neg_mul]

theorem compare_scale {X Y a b P Q : Int} (hP : 0 < P) (hQ : 0 < Q) (hX : X * P = a * Q) (hY : Y * P = b * Q) : compare X Y = compare a b := by
  have hlt : X < Y ↔ a < b := by
    constructor
    · intro h
      have h1 : X * P < Y * P := Int.mul_lt_mul_of_pos_right h hP
      rw [hX, hY] at h1
      exact Int.lt_of_mul_lt_mul_right h1 (Int.le_of_lt hQ)
    · intro h
      have h1 : a * Q < b * Q := Int.mul_lt_mul_of_pos_right h hQ
      rw [← hX, ← hY] at h1
      exact Int.lt_of_mul_lt_mul_right h1 (Int.le_of_lt hP)
  have heq : X = Y ↔ a = b := by
    constructor
    · intro h
      subst h
      exact Int.eq_of_mul_eq_mul_right (by omega) (hX.symm.trans hY)
    · intro h
      subst h
      exact Int.eq_of_mul_eq_mul_right (by omega) (hX.trans hY.symm)
  simp only [compare, compareOfLessAndEq, hlt, heq]

theorem stand_order {d d' : Datum} {a b : Int} (ha : Stand d a) (hb : Stand d' b) : d.order d' = some (compare a b) := by
  obtain ⟨s, m, i, rfl, hA⟩ := ha
  obtain ⟨t, n, j, rfl, hB⟩ := hb
  show some _ = some _
  congr 1
  refine compare_scale (two_pos (min i j).toNat) (two_pos (-(min i j)).toNat) ?_ ?_
  · rw [signed_up s]; exact stand_scale hA (by omega)
  · rw [signed_up t]; exact stand_scale hB (by omega)

/-! ## to a whole number -/
theorem log2_bounds {n : Nat} (h : n ≠ 0) : 2 ^ n.log2 ≤ n ∧ n < 2 ^ (n.log2 + 1) := ⟨Nat.log2_self_le h, Nat.lt_log2_self⟩
theorem cut_low (n d : Nat) : n / (1 <<< min d (n.log2 + 2)) = n / 2 ^ d := by
  rw [Nat.shiftLeft_eq, Nat.one_mul]
  by_cases h : d ≤ n.log2 + 2
  · rw [Nat.min_eq_left h]
  · rw [Nat.min_eq_right (by omega)]
    have h1 : n < 2 ^ (n.log2 + 1) := Nat.lt_log2_self
    have h2 : 2 ^ (n.log2 + 1) ≤ 2 ^ (n.log2 + 2) := Nat.pow_le_pow_right (by decide) (by omega)
    have h3 : 2 ^ (n.log2 + 1) ≤ 2 ^ d := Nat.pow_le_pow_right (by decide) (by omega)
    rw [Nat.div_eq_of_lt (by omega), Nat.div_eq_of_lt (by omega)]
theorem cut_rest (n d : Nat) : (n % (1 <<< min d (n.log2 + 2)) = 0) ↔ (n % 2 ^ d = 0) := by
  rw [Nat.shiftLeft_eq, Nat.one_mul]
  by_cases h : d ≤ n.log2 + 2
  · rw [Nat.min_eq_left h]
  · rw [Nat.min_eq_right (by omega)]
    have h1 : n < 2 ^ (n.log2 + 1) := Nat.lt_log2_self
    have h2 : 2 ^ (n.log2 + 1) ≤ 2 ^ (n.log2 + 2) := Nat.pow_le_pow_right (by decide) (by omega)
    have h3 : 2 ^ (n.log2 + 1) ≤ 2 ^ d := Nat.pow_le_pow_right (by decide) (by omega)
    rw [Nat.mod_eq_of_lt (by omega), Nat.mod_eq_of_lt (by omega)]
/-- A whole multiple is cut exactly, whatever the way. -/
theorem cut_exact (way : Toward) (s : Bool) (K d : Nat) : way.cut s (K * 2 ^ d) d = K := by
  have hl := cut_low (K * 2 ^ d) d
  have hr := (cut_rest (K * 2 ^ d) d).2 (Nat.mul_mod_left _ _)
  have hg : 0 < 1 <<< min d ((K * 2 ^ d).log2 + 2) := by rw [Nat.shiftLeft_eq, Nat.one_mul]; exact Nat.two_pow_pos _
  unfold Toward.cut
  simp only [hl, hr, Nat.mul_div_cancel _ (Nat.two_pow_pos d)]
  cases way <;> simp <;> omega
theorem cut_zero (s : Bool) (n d : Nat) : Toward.zero.cut s n d = n / 2 ^ d := by
  unfold Toward.cut
  simp only [cut_low]
  simp

theorem stand_nat {s : Bool} {m : Nat} {e n : Int} (h : signed s m 0 * 2 ^ e.toNat = n * 2 ^ (-e).toNat) : m * 2 ^ e.toNat = n.natAbs * 2 ^ (-e).toNat ∧ (n ≠ 0 → s = decide (n < 0)) := by
  have h1 : (signed s m 0).natAbs = m := by unfold signed; cases s <;> simp
  have h2 : (m : Int).natAbs = m := rfl
  constructor
  · have := congrArg Int.natAbs h
    rw [Int.natAbs_mul, Int.natAbs_mul, h1] at this
    have e2 : ∀ k : Nat, ((2 : Int) ^ k).natAbs = 2 ^ k := fun k => by rw [Int.natAbs_pow]; rfl
    rwa [e2, e2] at this
  · intro hn
    have p1 := two_pos e.toNat
    have p2 := two_pos (-e).toNat
    unfold signed at h
    simp only [Nat.shiftLeft_eq, Nat.pow_zero, Nat.mul_one] at h
    by_cases hneg : n < 0
    · have : n * 2 ^ (-e).toNat < 0 := Int.mul_neg_of_neg_of_pos hneg p2
      cases s with
      | true => simp [hneg]
      | false =>
        simp only [Bool.false_eq_true, if_false] at h
        have : (0 : Int) ≤ (m : Int) * 2 ^ e.toNat := Int.mul_nonneg (by omega) (by omega)
        omega
    · have hpos : 0 < n := by omega
      have : 0 < n * 2 ^ (-e).toNat := Int.mul_pos hpos p2
      cases s with
      | false => simp [hneg]
      | true =>
        simp only [if_true] at h
        have : (0 : Int) ≤ (m : Int) * 2 ^ e.toNat := Int.mul_nonneg (by omega) (by omega)
        rw [Int.neg_mul] at h
        omega
theorem stand_integral {way : Toward} {d : Datum} {n : Int} (h : Stand d n) : Stand (d.integral way) n := by
  obtain ⟨s, m, e, rfl, hA⟩ := h
  obtain ⟨hm, hs⟩ := stand_nat hA
  unfold Datum.integral
  simp only [Nat.shiftLeft_eq, hm, cut_exact]
  exact stand_number (signed_abs hs)
theorem stand_toInt {way : Toward} {d : Datum} {n : Int} (h : Stand d n) : d.toInt way = some n := by
  obtain ⟨s, m, e, rfl, hA⟩ := h
  obtain ⟨hm, hs⟩ := stand_nat hA
  unfold Datum.toInt Datum.integral
  simp only [Nat.shiftLeft_eq, hm, cut_exact]
  rw [signed_abs hs]
end
end Go.Proofs.YtoglmemmdolbmaaDoor
namespace Go.Proofs.YtoglmemmdolbmaaDoor
section
open Ieee
set_option linter.unusedVariables false
set_option linter.unusedSimpArgs false

theorem d_binade : double.binade = 4503599627370496 := by decide
theorem d_inf : double.infRung = 9218868437227405312 := by decide
theorem d_sign : double.signWeight = 9223372036854775808 := by decide
theorem d_least : double.leastPlace = -1074 := by decide
theorem d_frac : double.fractionBits = 52 := rfl
theorem d_word (s : Bool) (R : Nat) : double.word s R = if s then 9223372036854775808 + R else R := by unfold Format.word; rw [d_sign]

theorem word_parts (s : Bool) {R : Nat} (h : R < 9223372036854775808) : (double.word s R / 9223372036854775808 % 2 == 1) = s ∧ double.word s R % 9223372036854775808 = R := by
  rw [d_word]
  cases s
  · simp only [Bool.false_eq_true, if_false]
    refine ⟨?_, by omega⟩
    rw [Nat.div_eq_of_lt h]; rfl
  · simp only [if_true]
    refine ⟨?_, by omega⟩
    have : (9223372036854775808 + R) / 9223372036854775808 % 2 = 1 := by omega
    rw [this]; rfl
theorem read_zero (s : Bool) : double.read (double.word s 0) = .number s 0 (-1074) := by
  obtain ⟨h1, h2⟩ := word_parts s (R := 0) (by decide)
  unfold Format.read
  simp only [d_sign, d_binade, d_least, h1, h2]
  rfl
theorem read_word (s : Bool) {R : Nat} (h0 : 4503599627370496 ≤ R) (h1 : R < 9218868437227405312) :
    double.read (double.word s R) = .number s (4503599627370496 + R % 4503599627370496) (-1074 + ((R / 4503599627370496 - 1 : Nat) : Int)) := by
  obtain ⟨g1, g2⟩ := word_parts s (R := R) (by omega)
  unfold Format.read
  simp only [d_sign, d_binade, d_least, d_inf, g1, g2]
  rw [if_neg (by omega), if_pos h1]

theorem log2_up {a : Nat} (h : a ≠ 0) (k : Nat) : (a * 2 ^ k).log2 = a.log2 + k := by
  obtain ⟨h1, h2⟩ := log2_bounds h
  have hp := Nat.two_pow_pos k
  refine (Nat.log2_eq_iff (by have := Nat.mul_pos (Nat.pos_of_ne_zero h) hp; omega)).2 ⟨?_, ?_⟩
  · rw [Nat.pow_add]; exact Nat.mul_le_mul_right _ h1
  · rw [show a.log2 + k + 1 = (a.log2 + 1) + k by omega, Nat.pow_add]; exact Nat.mul_lt_mul_of_pos_right h2 hp
theorem pw_shiftN {X Y p q p' q' : Nat} (h : X * 2 ^ p = Y * 2 ^ q) (e : p + q' = p' + q) : X * 2 ^ p' = Y * 2 ^ q' := by
  have := pw_shift (X := (X : Int)) (Y := (Y : Int)) (p := p) (q := q) (p' := p') (q' := q') (by exact_mod_cast h) e
  exact_mod_cast this

theorem stand_write {d : Datum} {n : Int} (h : Stand d n) (hn : n.natAbs < 9007199254740992) : Stand (double.read (double.write d)) n := by
  obtain ⟨s, m, e, rfl, hA⟩ := h
  obtain ⟨hm, hs⟩ := stand_nat hA
  show Stand (double.read (double.nearest s m e)) n
  unfold Format.nearest
  by_cases h0 : m = 0
  · subst h0
    have hn0 : n = 0 := by
      rw [Nat.zero_mul] at hm
      have := Nat.two_pow_pos (-e).toNat
      rcases Nat.mul_eq_zero.1 hm.symm with h | h <;> omega
    subst hn0
    rw [if_pos rfl, read_zero]
    exact ⟨s, 0, _, rfl, by rw [show signed s 0 0 = 0 from by cases s <;> rfl, Int.zero_mul, Int.zero_mul]⟩
  · rw [if_neg h0]
    have hN0 : n.natAbs ≠ 0 := fun h => by
      rw [h, Nat.zero_mul] at hm
      have := Nat.two_pow_pos e.toNat
      rcases Nat.mul_eq_zero.1 hm with h | h <;> omega
    have hsg := signed_abs hs
    generalize n.natAbs = N at *
    have hlog : m.log2 + e.toNat = N.log2 + (-e).toNat := by rw [← log2_up h0, ← log2_up hN0, hm]
    have hL : N.log2 < 53 := (Nat.log2_lt hN0).2 hn
    obtain ⟨b1, b2⟩ := log2_bounds hN0
    have hlast : max (e + (m.log2 : Int) - ((52 : Nat) : Int)) (-1074) = (N.log2 : Int) - 52 := by omega
    simp only [d_frac, d_least, d_binade, d_inf, hlast, Nat.shiftLeft_eq]
    generalize N.log2 = L at *
    have hmk : m * 2 ^ (e - ((L : Int) - 52)).toNat = (N * 2 ^ (52 - L)) * 2 ^ ((L : Int) - 52 - e).toNat := by
      rw [Nat.mul_assoc, ← Nat.pow_add]
      exact pw_shiftN hm (by omega)
    have k1 : 4503599627370496 ≤ N * 2 ^ (52 - L) := by
      have := Nat.mul_le_mul_right (2 ^ (52 - L)) b1
      rw [← Nat.pow_add, show L + (52 - L) = 52 by omega] at this
      exact this
    have k2 : N * 2 ^ (52 - L) < 9007199254740992 := by
      have := Nat.mul_lt_mul_of_pos_right b2 (Nat.two_pow_pos (52 - L))
      rw [← Nat.pow_add, show L + 1 + (52 - L) = 53 by omega] at this
      exact this
    have hup : signed s (N * 2 ^ (52 - L)) 0 = n * 2 ^ (52 - L) := by
      rw [← hsg, ← signed_up]
      unfold signed
      simp [Nat.shiftLeft_eq]
    rw [hmk, cut_exact]
    generalize N * 2 ^ (52 - L) = K at *
    rw [show ((L : Int) - 52 - -1074).toNat = L + 1022 by omega, Nat.min_eq_left (by omega), read_word s (by omega) (by omega)]
    have e1 : 4503599627370496 + ((L + 1022) * 4503599627370496 + K) % 4503599627370496 = K := by omega
    have e2 : -1074 + ((((L + 1022) * 4503599627370496 + K) / 4503599627370496 - 1 : Nat) : Int) = (L : Int) - 52 := by omega
    rw [e1, e2]
    refine ⟨s, K, _, rfl, ?_⟩
    rw [hup, show ((L : Int) - 52).toNat = 0 by omega, show (-((L : Int) - 52)).toNat = 52 - L by omega]
    simp

/-! ## the floats -/
/-- These bits are a float that stands for n. -/
def Flo (x : Nat) (n : Int) : Prop := Stand (FloatKind.f64.decode x) n
theorem flo_add {x y : Nat} {a b : Int} (hx : Flo x a) (hy : Flo y b) (h : (a + b).natAbs < 9007199254740992) : ∃ r, floatBits .add .f64 x y = some r ∧ Flo r (a + b) := by
  obtain ⟨d, h1, h2⟩ := stand_sum hx hy
  exact ⟨double.write d, by show ((double.read x).sum (double.read y)).map double.write = _; rw [show (double.read x).sum (double.read y) = some d from h1]; rfl, stand_write h2 h⟩
theorem flo_sub {x y : Nat} {a b : Int} (hx : Flo x a) (hy : Flo y b) (h : (a - b).natAbs < 9007199254740992) : ∃ r, floatBits .sub .f64 x y = some r ∧ Flo r (a - b) := by
  obtain ⟨d, h1, h2⟩ := stand_sum hx (stand_opposite hy)
  rw [← Int.sub_eq_add_neg] at h2
  exact ⟨double.write d, by show ((double.read x).sum (double.read y).opposite).map double.write = _; rw [show (double.read x).sum (double.read y).opposite = some d from h1]; rfl, stand_write h2 h⟩
theorem flo_mul {x y : Nat} {a b : Int} (hx : Flo x a) (hy : Flo y b) (h : (a * b).natAbs < 9007199254740992) : ∃ r, floatBits .mul .f64 x y = some r ∧ Flo r (a * b) := by
  obtain ⟨d, h1, h2⟩ := stand_product hx hy
  exact ⟨double.write d, by show ((double.read x).product (double.read y)).map double.write = _; rw [show (double.read x).product (double.read y) = some d from h1]; rfl, stand_write h2 h⟩
theorem flo_order {x y : Nat} {a b : Int} (hx : Flo x a) (hy : Flo y b) : FloatKind.f64.format.order x y = some (compare a b) := stand_order hx hy
theorem flo_int {n : Int} (h : n.natAbs < 9007199254740992) : Flo (floatOfInt .f64 n) n :=
  stand_write (stand_number (signed_abs fun _ => rfl)) h
theorem flo_toInt {x : Nat} {n : Int} (hx : Flo x n) (h0 : -9223372036854775808 ≤ n) (h1 : n ≤ 9223372036854775807) : floatToIntVal .f64 x .i64 = some n := by
  unfold floatToIntVal
  rw [stand_toInt (way := .zero) hx]
  simp only
  rw [if_pos ⟨by simpa [IntKind.min, IntKind.signed, IntKind.bits] using h0, by simpa [IntKind.max, IntKind.signed, IntKind.bits] using h1⟩]
/-- (a, b) + (c, d) and (a, b) * (c, d), as complex numbers. -/
theorem flo_csum {x1 x2 y1 y2 : Nat} {a b c d : Int} (h1 : Flo x1 a) (h2 : Flo x2 b) (h3 : Flo y1 c) (h4 : Flo y2 d) (k1 : (a + c).natAbs < 9007199254740992) (k2 : (b + d).natAbs < 9007199254740992) :
    ∃ r s, cSumBits .add .f64 x1 x2 y1 y2 = some (r, s) ∧ Flo r (a + c) ∧ Flo s (b + d) := by
  obtain ⟨r, e1, f1⟩ := flo_add h1 h3 k1
  obtain ⟨s, e2, f2⟩ := flo_add h2 h4 k2
  exact ⟨r, s, by simp [cSumBits, e1, e2], f1, f2⟩
theorem flo_cmul {x1 x2 y1 y2 : Nat} {a b c d : Int} (h1 : Flo x1 a) (h2 : Flo x2 b) (h3 : Flo y1 c) (h4 : Flo y2 d) (ka : a.natAbs ≤ 524288) (kb : b.natAbs ≤ 524288) (kc : c.natAbs ≤ 524288) (kd : d.natAbs ≤ 524288) :
    ∃ r s, cMulBits x1 x2 y1 y2 = some (r, s) ∧ Flo r (a * c - b * d) ∧ Flo s (a * d + b * c) := by
  have bound : ∀ {u v : Int}, u.natAbs ≤ 524288 → v.natAbs ≤ 524288 → (u * v).natAbs ≤ 274877906944 := fun {u v} hu hv => by
    rw [Int.natAbs_mul]
    exact Nat.le_trans (Nat.mul_le_mul hu hv) (by decide)
  have m1 := bound ka kc
  have m2 := bound kb kd
  have m3 := bound ka kd
  have m4 := bound kb kc
  obtain ⟨r1, e1, f1⟩ := flo_mul h1 h3 (by omega)
  obtain ⟨r2, e2, f2⟩ := flo_mul h2 h4 (by omega)
  obtain ⟨r3, e3, f3⟩ := flo_sub f1 f2 (by omega)
  obtain ⟨r4, e4, f4⟩ := flo_mul h1 h4 (by omega)
  obtain ⟨r5, e5, f5⟩ := flo_mul h2 h3 (by omega)
  obtain ⟨r6, e6, f6⟩ := flo_add f4 f5 (by omega)
  exact ⟨r3, r6, by simp [cMulBits, e1, e2, e3, e4, e5, e6], f3, f6⟩
end
end Go.Proofs.YtoglmemmdolbmaaDoor
namespace Go.Proofs.YtoglmemmdolbmaaDoor
section
open Ieee
set_option linter.unusedVariables false
set_option linter.unusedSimpArgs false

/-- A number beside a whole one. -/
theorem num_order {s : Bool} {m : Nat} {e : Int} {d' : Datum} {a : Int} (h : Stand d' a) :
    (Datum.number s m e).order d' = some (compare (signed s m 0 * 2 ^ e.toNat) (a * 2 ^ (-e).toNat)) ∧ d'.order (Datum.number s m e) = some (compare (a * 2 ^ (-e).toNat) (signed s m 0 * 2 ^ e.toNat)) := by
  obtain ⟨t, n, j, rfl, hB⟩ := h
  have hX : ∀ b : Int, b ≤ e → signed s m (e - b).toNat * (2 ^ b.toNat * 2 ^ (-e).toNat) = (signed s m 0 * 2 ^ e.toNat) * 2 ^ (-b).toNat := fun b hb => by
    rw [signed_up s, Int.mul_assoc, Int.mul_assoc, ← Int.pow_add, ← Int.pow_add, ← Int.pow_add]
    congr 2
    omega
  have hY : ∀ b : Int, b ≤ j → signed t n (j - b).toNat * (2 ^ b.toNat * 2 ^ (-e).toNat) = (a * 2 ^ (-e).toNat) * 2 ^ (-b).toNat := fun b hb => by
    rw [← Int.mul_assoc, signed_up t, stand_scale hB hb, Int.mul_assoc, Int.mul_assoc, Int.mul_comm (2 ^ (-b).toNat)]
  have hP : ∀ b : Int, (0 : Int) < 2 ^ b.toNat * 2 ^ (-e).toNat := fun b => Int.mul_pos (two_pos _) (two_pos _)
  constructor
  · show some _ = some _
    congr 1
    exact compare_scale (hP (min e j)) (two_pos (-(min e j)).toNat) (hX _ (by omega)) (hY _ (by omega))
  · show some _ = some _
    congr 1
    exact compare_scale (hP (min j e)) (two_pos (-(min j e)).toNat) (hY _ (by omega)) (hX _ (by omega))

theorem compare_lt {a b : Int} : compare a b = .lt ↔ a < b := by
  simp only [compare, compareOfLessAndEq]
  split <;> rename_i h
  · simp [h]
  · split <;> simp [h]
theorem compare_eq {a b : Int} : compare a b = .eq ↔ a = b := by
  simp only [compare, compareOfLessAndEq]
  split <;> rename_i h
  · simp; omega
  · split <;> simp_all
theorem compare_gt {a b : Int} : compare a b = .gt ↔ b < a := by
  simp only [compare, compareOfLessAndEq]
  split <;> rename_i h
  · simp; omega
  · split <;> rename_i h2
    · simp; omega
    · simp; omega

/-- The floor of a number, and what it stands for. -/
theorem floor_stand (s : Bool) (m : Nat) (e : Int) : ∃ k : Int, Stand ((Datum.number s m e).integral .down) k ∧ k * 2 ^ (-e).toNat ≤ signed s m 0 * 2 ^ e.toNat ∧ signed s m 0 * 2 ^ e.toNat < (k + 1) * 2 ^ (-e).toNat := by
  unfold Datum.integral
  obtain ⟨M, hM⟩ : ∃ M, M = m <<< e.toNat := ⟨_, rfl⟩
  have hS : signed s m 0 * 2 ^ e.toNat = if s then -(M : Int) else (M : Int) := by
    rw [← signed_up, hM]; rfl
  rw [hS]
  simp only [← hM]
  have hq := Nat.two_pow_pos (-e).toNat
  have hdm := Nat.div_add_mod M (2 ^ (-e).toNat)
  have hml := Nat.mod_lt M hq
  have hcast : ((2 : Int) ^ (-e).toNat) = ((2 ^ (-e).toNat : Nat) : Int) := by simp
  rw [hcast]
  have hcut : Toward.down.cut s M (-e).toNat = M / 2 ^ (-e).toNat + (s && decide (M % 2 ^ (-e).toNat ≠ 0)).toNat := by
    have hr := cut_rest M (-e).toNat
    unfold Toward.cut
    simp only [cut_low]
    congr 2
    cases s
    · simp
    · by_cases h : M % 2 ^ (-e).toNat = 0
      · simp [h, hr.2 h]
      · have : ¬ M % (1 <<< min (-e).toNat (M.log2 + 2)) = 0 := fun h' => h (hr.1 h')
        simp [h, this]
  rw [hcut]
  generalize 2 ^ (-e).toNat = Q at *
  generalize M / Q = D at *
  generalize M % Q = R at *
  cases s with
  | false =>
    refine ⟨(D : Int), stand_number (by simp [signed]), ?_, ?_⟩
    · simp only [Bool.false_eq_true, if_false]
      have : (D : Int) * (Q : Int) = ((Q * D : Nat) : Int) := by rw [Int.mul_comm]; simp
      rw [this]; omega
    · simp only [Bool.false_eq_true, if_false]
      have : ((D : Int) + 1) * (Q : Int) = ((Q * D : Nat) : Int) + Q := by rw [Int.add_mul, Int.mul_comm]; simp
      rw [this]; omega
  | true =>
    by_cases hR : R = 0
    · refine ⟨-(D : Int), stand_number (by simp [signed, hR]), ?_, ?_⟩
      · simp only [if_true]
        have : -(D : Int) * (Q : Int) = -((Q * D : Nat) : Int) := by rw [Int.neg_mul, Int.mul_comm]; simp
        rw [this]; omega
      · simp only [if_true]
        have : (-(D : Int) + 1) * (Q : Int) = -((Q * D : Nat) : Int) + Q := by rw [Int.add_mul, Int.neg_mul, Int.mul_comm]; simp
        rw [this]; omega
    · refine ⟨-((D : Int) + 1), stand_number (by simp [signed, hR]), ?_, ?_⟩
      · simp only [if_true]
        have : -((D : Int) + 1) * (Q : Int) = -((Q * D : Nat) : Int) - Q := by rw [Int.neg_mul, Int.add_mul, Int.mul_comm]; simp; omega
        rw [this]; omega
      · simp only [if_true]
        have : (-((D : Int) + 1) + 1) * (Q : Int) = -((Q * D : Nat) : Int) := by rw [show -((D : Int) + 1) + 1 = -(D : Int) by omega, Int.neg_mul, Int.mul_comm]; simp
        rw [this]; omega
/-- A number cut towards nought. -/
theorem trunc_some (s : Bool) (m : Nat) (e : Int) : ∃ k : Int, (Datum.number s m e).toInt .zero = some k ∧ k.natAbs * 2 ^ (-e).toNat ≤ (signed s m 0 * 2 ^ e.toNat).natAbs := by
  refine ⟨_, rfl, ?_⟩
  have h1 : ∀ u v : Nat, (signed s u v).natAbs = u * 2 ^ v := fun u v => by
    unfold signed
    rw [Nat.shiftLeft_eq]
    generalize u * 2 ^ v = z
    cases s <;> simp
  simp only [cut_zero, h1, ← signed_up, Nat.shiftLeft_eq, Nat.pow_zero, Nat.mul_one]
  exact Nat.div_mul_le_self _ _

/-- The float is a part of a number of the document. -/
def Whole (x : Nat) (n : Int) : Prop := Flo x n ∧ -524288 ≤ n ∧ n ≤ 524287
theorem flo_lo : Flo 13916122848574832640 (-524288) := ⟨true, 4503599627370496, -33, by decide, by decide⟩
theorem flo_hi : Flo 4692750811720056832 524288 := ⟨false, 4503599627370496, -33, by decide, by decide⟩
theorem flo_top : Flo 4692750794540187648 524287 := ⟨false, 9007182074871808, -34, by decide, by decide⟩
theorem flo_zero : Flo 0 0 := ⟨false, 0, -1074, by decide, by rw [show signed false 0 0 = 0 from rfl, Int.zero_mul, Int.zero_mul]⟩
theorem flo_inj {x : Nat} {a b : Int} (h : Flo x a) (k : Flo x b) : a = b := by
  have h1 := flo_order h k
  have h2 := flo_order h h
  rw [h2] at h1
  injection h1 with h1
  exact compare_eq.1 (h1.symm.trans (compare_eq.2 rfl))
end
end Go.Proofs.YtoglmemmdolbmaaDoor
namespace Go.Proofs.YtoglmemmdolbmaaDoor
section
open Ieee
set_option linter.unusedVariables false
set_option linter.unusedSimpArgs false

abbrev ord (x y : Nat) : Option Ordering := FloatKind.f64.format.order x y
theorem dec_lo : (double.read 13916122848574832640) = .number true 4503599627370496 (-33) := by decide
theorem dec_hi : (double.read 4692750811720056832) = .number false 4503599627370496 (-33) := by decide
theorem dec_top : (double.read 4692750794540187648) = .number false 9007182074871808 (-34) := by decide
theorem whole_num {x : Nat} {s : Bool} {m : Nat} {e : Int} (hx : FloatKind.f64.decode x = .number s m e) (n : Int) : Flo x n ↔ signed s m 0 * 2 ^ e.toNat = n * 2 ^ (-e).toNat := by
  unfold Flo
  rw [hx]
  constructor
  · rintro ⟨s', m', e', he, h⟩
    injection he with h1 h2 h3
    subst h1 h2 h3
    exact h
  · intro h; exact ⟨s, m, e, rfl, h⟩
theorem not_flo {x : Nat} (h : ∀ s m e, FloatKind.f64.decode x ≠ .number s m e) (n : Int) : ¬ Flo x n := by
  rintro ⟨s, m, e, he, _⟩
  exact h s m e he
theorem ord_num {x y : Nat} {s : Bool} {m : Nat} {e : Int} {a : Int} (hx : FloatKind.f64.decode x = .number s m e) (hy : Flo y a) :
    ord x y = some (compare (signed s m 0 * 2 ^ e.toNat) (a * 2 ^ (-e).toNat)) ∧ ord y x = some (compare (a * 2 ^ (-e).toNat) (signed s m 0 * 2 ^ e.toNat)) := by
  have h := num_order (s := s) (m := m) (e := e) hy
  rw [← hx] at h
  exact h

theorem may_cases (x : Nat) :
    (((ord x 13916122848574832640 == some .gt || ord x 13916122848574832640 == some .eq) = false) ∧ ∀ n, ¬ Whole x n) ∨
    (((ord x 13916122848574832640 == some .gt || ord x 13916122848574832640 == some .eq) = true) ∧ ((ord x 4692750811720056832 == some .lt) = false) ∧ ∀ n, ¬ Whole x n) ∨
    (((ord x 13916122848574832640 == some .gt || ord x 13916122848574832640 == some .eq) = true) ∧ ((ord x 4692750811720056832 == some .lt) = true) ∧
      ∃ s m e, FloatKind.f64.decode x = .number s m e ∧ ∃ b, (ord (FloatKind.f64.encode ((Datum.number s m e).integral .down)) x == some .eq) = b ∧ (b = true ↔ ∃ n, Whole x n)) := by
  cases hx : FloatKind.f64.decode x with
  | nan s t =>
    refine .inl ⟨?_, fun n h => not_flo (fun _ _ _ h' => by rw [hx] at h'; cases h') n h.1⟩
    have : ∀ y, ord x y = none := fun y => by show (FloatKind.f64.decode x).order _ = none; rw [hx]; rfl
    rw [this]; rfl
  | infinity s =>
    have h1 : ord x 13916122848574832640 = some (if s then .lt else .gt) := by
      show (FloatKind.f64.decode x).order (double.read 13916122848574832640) = _
      rw [hx, dec_lo]; rfl
    have h2 : ord x 4692750811720056832 = some (if s then .lt else .gt) := by
      show (FloatKind.f64.decode x).order (double.read 4692750811720056832) = _
      rw [hx, dec_hi]; rfl
    have hn : ∀ n, ¬ Whole x n := fun n h => not_flo (fun _ _ _ h' => by rw [hx] at h'; cases h') n h.1
    rw [h1, h2]
    cases s
    · exact .inr (.inl ⟨rfl, rfl, hn⟩)
    · exact .inl ⟨rfl, hn⟩
  | number s m e =>
    have hw := whole_num hx
    obtain ⟨k, hk, k1, k2⟩ := floor_stand s m e
    rw [(ord_num hx flo_lo).1, (ord_num hx flo_hi).1]
    have hQ := two_pos (-e).toNat
    have hord : k.natAbs < 9007199254740992 → ord (FloatKind.f64.encode ((Datum.number s m e).integral .down)) x = some (compare (k * 2 ^ (-e).toNat) (signed s m 0 * 2 ^ e.toNat)) := fun h => (ord_num hx (stand_write hk h)).2
    generalize signed s m 0 * 2 ^ e.toNat = X at *
    generalize (2 : Int) ^ (-e).toNat = Q at *
    by_cases c0 : X < -524288 * Q
    · refine .inl ⟨?_, fun n h => ?_⟩
      · rw [show compare X (-524288 * Q) = .lt from compare_lt.2 c0]; rfl
      · have := (hw n).1 h.1
        have h3 : -524288 * Q ≤ n * Q := Int.mul_le_mul_of_nonneg_right h.2.1 (by omega)
        omega
    · have g0 : ((some (compare X (-524288 * Q)) == some Ordering.gt || some (compare X (-524288 * Q)) == some Ordering.eq) = true) := by
        by_cases h : X = -524288 * Q
        · rw [compare_eq.2 h]; rfl
        · rw [compare_gt.2 (by omega)]; rfl
      by_cases c1 : X < 524288 * Q
      · refine .inr (.inr ⟨g0, by rw [compare_lt.2 c1]; rfl, s, m, e, rfl, _, rfl, ?_⟩)
        have b1 : -524289 < k := by
          have : -524289 * Q < k * Q := by
            have e1 : (k + 1) * Q = k * Q + Q := by rw [Int.add_mul, Int.one_mul]
            omega
          exact Int.lt_of_mul_lt_mul_right this (by omega)
        have b2 : k < 524288 := by
          have : k * Q < 524288 * Q := by omega
          exact Int.lt_of_mul_lt_mul_right this (by omega)
        rw [hord (by omega)]
        constructor
        · intro h
          have heq : k * Q = X := by
            have h' : compare (k * Q) X = .eq := by
              generalize compare (k * Q) X = o at h
              cases o <;> first | rfl | cases h
            exact compare_eq.1 h'
          have b3 : -524288 ≤ k := by
            have : -524288 * Q ≤ k * Q := by omega
            exact Int.le_of_mul_le_mul_right this hQ
          exact ⟨k, (hw k).2 heq.symm, b3, by omega⟩
        · rintro ⟨n, hf, n1, n2⟩
          have hXn := (hw n).1 hf
          have e1 : (k + 1) * Q = k * Q + Q := by rw [Int.add_mul, Int.one_mul]
          have l1 : k ≤ n := Int.le_of_mul_le_mul_right (by omega : k * Q ≤ n * Q) hQ
          have l2 : n < k + 1 := Int.lt_of_mul_lt_mul_right (by omega : n * Q < (k + 1) * Q) (by omega)
          have : k = n := by omega
          subst this
          rw [compare_eq.2 hXn.symm]; rfl
      · refine .inr (.inl ⟨g0, ?_, fun n h => ?_⟩)
        · by_cases h : X = 524288 * Q
          · rw [compare_eq.2 h]; rfl
          · rw [compare_gt.2 (by omega)]; rfl
        · have := (hw n).1 h.1
          have h3 : n * Q < 524288 * Q := Int.mul_lt_mul_of_pos_right (by have := h.2.2; omega) hQ
          omega

theorem part_cases (x : Nat) :
    (((ord x x != some .eq) = true) ∧ ∀ n, ¬ Whole x n) ∨
    (((ord x x != some .eq) = false) ∧ ((ord x 13916122848574832640 == some .lt) = true) ∧ ∀ n, ¬ Whole x n) ∨
    (((ord x x != some .eq) = false) ∧ ((ord x 13916122848574832640 == some .lt) = false) ∧ ((ord x 4692750794540187648 == some .gt) = true) ∧ ∀ n, ¬ Whole x n) ∨
    (((ord x x != some .eq) = false) ∧ ((ord x 13916122848574832640 == some .lt) = false) ∧ ((ord x 4692750794540187648 == some .gt) = false) ∧
      ∃ k b, floatToIntVal .f64 x .i64 = some k ∧ (ord (floatOfInt .f64 k) x == some .eq) = b ∧ (b = true ↔ ∃ n, Whole x n) ∧ ∀ n, Whole x n → k = n) := by
  cases hx : FloatKind.f64.decode x with
  | nan s t =>
    refine .inl ⟨?_, fun n h => not_flo (fun _ _ _ h' => by rw [hx] at h'; cases h') n h.1⟩
    have : ∀ y, ord x y = none := fun y => by show (FloatKind.f64.decode x).order _ = none; rw [hx]; rfl
    rw [this]; rfl
  | infinity s =>
    have h0 : ord x x = some .eq := by
      show (FloatKind.f64.decode x).order (FloatKind.f64.decode x) = _
      rw [hx]; cases s <;> rfl
    have h1 : ord x 13916122848574832640 = some (if s then .lt else .gt) := by
      show (FloatKind.f64.decode x).order (double.read 13916122848574832640) = _
      rw [hx, dec_lo]; rfl
    have h2 : ord x 4692750794540187648 = some (if s then .lt else .gt) := by
      show (FloatKind.f64.decode x).order (double.read 4692750794540187648) = _
      rw [hx, dec_top]; rfl
    have hn : ∀ n, ¬ Whole x n := fun n h => not_flo (fun _ _ _ h' => by rw [hx] at h'; cases h') n h.1
    rw [h0, h1, h2]
    cases s
    · exact .inr (.inr (.inl ⟨rfl, rfl, rfl, hn⟩))
    · exact .inr (.inl ⟨rfl, rfl, hn⟩)
  | number s m e =>
    have hw := whole_num hx
    have h0 : ord x x = some .eq := by
      show (FloatKind.f64.decode x).order (FloatKind.f64.decode x) = _
      rw [hx]
      show some (compare _ _) = _
      rw [compare_eq.2 rfl]
    obtain ⟨k, hk, k1⟩ := trunc_some s m e
    have hst : ∀ n, Flo x n → k = n := fun n h => by
      have h2 := stand_toInt (way := .zero) h
      rw [hx, hk] at h2
      injection h2
    rw [h0, (ord_num hx flo_lo).1, (ord_num hx flo_top).1]
    have hQ := two_pos (-e).toNat
    have hord : k.natAbs < 9007199254740992 → ord (floatOfInt .f64 k) x = some (compare (k * 2 ^ (-e).toNat) (signed s m 0 * 2 ^ e.toNat)) := fun h => (ord_num hx (flo_int h)).2
    have k1' : (k.natAbs : Int) * 2 ^ (-e).toNat ≤ ((signed s m 0 * 2 ^ e.toNat).natAbs : Int) := by
      have hcast : ((2 : Int) ^ (-e).toNat) = ((2 ^ (-e).toNat : Nat) : Int) := by simp
      rw [hcast, ← Int.natCast_mul]
      exact Int.ofNat_le.2 k1
    clear k1
    generalize signed s m 0 * 2 ^ e.toNat = X at *
    generalize (2 : Int) ^ (-e).toNat = Q at *
    by_cases c0 : X < -524288 * Q
    · refine .inr (.inl ⟨rfl, by rw [compare_lt.2 c0]; rfl, fun n h => ?_⟩)
      have := (hw n).1 h.1
      have h3 : -524288 * Q ≤ n * Q := Int.mul_le_mul_of_nonneg_right h.2.1 (by omega)
      omega
    · have g0 : (some (compare X (-524288 * Q)) == some Ordering.lt) = false := by
        by_cases h : X = -524288 * Q
        · rw [compare_eq.2 h]; rfl
        · rw [compare_gt.2 (by omega)]; rfl
      by_cases c1 : 524287 * Q < X
      · refine .inr (.inr (.inl ⟨rfl, g0, by rw [compare_gt.2 c1]; rfl, fun n h => ?_⟩))
        have := (hw n).1 h.1
        have h3 : n * Q ≤ 524287 * Q := Int.mul_le_mul_of_nonneg_right h.2.2 (by omega)
        omega
      · have g1 : (some (compare X (524287 * Q)) == some Ordering.gt) = false := by
          by_cases h : X = 524287 * Q
          · rw [compare_eq.2 h]; rfl
          · rw [compare_lt.2 (by omega)]; rfl
        have hkb : k.natAbs ≤ 524288 := by
          have h5 : (k.natAbs : Int) * Q ≤ 524288 * Q := by omega
          have h6 := Int.le_of_mul_le_mul_right h5 hQ
          omega
        refine .inr (.inr (.inr ⟨rfl, g0, g1, k, _, ?_, rfl, ?_, fun n h => hst n h.1⟩))
        · unfold floatToIntVal
          rw [hx, hk]
          simp only
          rw [if_pos ⟨by simp [IntKind.min, IntKind.signed, IntKind.bits]; omega, by simp [IntKind.max, IntKind.signed, IntKind.bits]; omega⟩]
        · rw [hord (by omega)]
          constructor
          · intro h
            have heq : k * Q = X := by
              have h' : compare (k * Q) X = .eq := by
                generalize compare (k * Q) X = o at h
                cases o <;> first | rfl | cases h
              exact compare_eq.1 h'
            have b1 : k ≤ 524287 := Int.le_of_mul_le_mul_right (by omega : k * Q ≤ 524287 * Q) hQ
            exact ⟨k, (hw k).2 heq.symm, by omega, b1⟩
          · rintro ⟨n, hf, _⟩
            have := hst n hf
            subst this
            rw [compare_eq.2 ((hw k).1 hf).symm]; rfl
end
end Go.Proofs.YtoglmemmdolbmaaDoor
