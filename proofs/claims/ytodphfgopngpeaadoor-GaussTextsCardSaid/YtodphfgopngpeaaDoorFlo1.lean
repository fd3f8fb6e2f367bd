/-
  Floats that stand for whole numbers: sums, products, order, what is written is read. Plain: no program in sight. No condition.
-/
import Derived.Laws.ComplexArith
namespace Go.Proofs.YtodphfgopngpeaaDoor
open Ieee
set_option linter.unusedVariables false
set_option linter.unusedSimpArgs false

theorem two_pos (k : Nat) : (0 : Int) < 2 ^ k := by
  have : (0 : Int) < ((2 ^ k : Nat) : Int) := by have := Nat.two_pow_pos k; omega
  simpa using this
theorem pw_shift {X Y : Int} {p q p' q' : Nat} (h : X * 2 ^ p = Y * 2 ^ q) (e : p + q' = p' + q) : X * 2 ^ p' = Y * 2 ^ q' := by
  have h2 : X * 2 ^ p' * 2 ^ q = Y * 2 ^ q' * 2 ^ q := by
    rw [Int.mul_assoc, ← Int.pow_add, ← e, Int.pow_add, ← Int.mul_assoc, h]
    rw [Int.mul_assoc, Int.mul_assoc, Int.mul_comm (2 ^ q) (2 ^ q')]
  have := two_pos q
  exact Int.eq_of_mul_eq_mul_right (by omega) h2

theorem signed_up (s : Bool) (m k : Nat) : signed s m k = signed s m 0 * 2 ^ k := by
  unfold signed
  simp only [Nat.shiftLeft_eq, Nat.pow_zero, Nat.mul_one]
  cases s <;> simp [Int.neg_mul]
theorem signed_mul (s t : Bool) (m n : Nat) : signed (s ^^ t) (m * n) 0 = signed s m 0 * signed t n 0 := by
  unfold signed
  cases s <;> cases t <;> simp [Nat.shiftLeft_eq, Int.neg_mul, Int.mul_neg]
theorem signed_abs {x : Int} {g : Bool} (h : x ≠ 0 → g = decide (x < 0)) : signed g x.natAbs 0 = x := by
  unfold signed
  simp only [Nat.shiftLeft_eq, Nat.pow_zero, Nat.mul_one]
  by_cases hx : x = 0
  · subst hx; cases g <;> simp
  · rw [h hx]; split <;> rename_i hd <;> simp at hd <;> omega

/-- What a datum stands for is the whole number n. -/
def Stand (d : Datum) (n : Int) : Prop := ∃ (s : Bool) (m : Nat) (e : Int), d = .number s m e ∧ signed s m 0 * 2 ^ e.toNat = n * 2 ^ (-e).toNat

theorem stand_scale {S a : Int} {e b : Int} (h : S * 2 ^ e.toNat = a * 2 ^ (-e).toNat) (hb : b ≤ e) : S * 2 ^ (e - b).toNat * 2 ^ b.toNat = a * 2 ^ (-b).toNat := by
  rw [Int.mul_assoc, ← Int.pow_add]
  exact pw_shift h (by omega)
theorem stand_number {s : Bool} {m : Nat} {n : Int} (h : signed s m 0 = n) : Stand (.number s m 0) n := ⟨s, m, 0, rfl, by simp [h]⟩

theorem stand_sum {d d' : Datum} {a b : Int} (ha : Stand d a) (hb : Stand d' b) : ∃ r, d.sum d' = some r ∧ Stand r (a + b) := by
  obtain ⟨s, m, i, rfl, hA⟩ := ha
  obtain ⟨t, n, j, rfl, hB⟩ := hb
  refine ⟨_, rfl, _, _, min i j, rfl, ?_⟩
  rw [signed_abs (fun hx => by simp only [hx, if_false])]
  rw [signed_up s, signed_up t, Int.add_mul, Int.add_mul, stand_scale hA (by omega), stand_scale hB (by omega)]

theorem stand_product {d d' : Datum} {a b : Int} (ha : Stand d a) (hb : Stand d' b) : ∃ r, d.product d' = some r ∧ Stand r (a * b) := by
  obtain ⟨s, m, i, rfl, hA⟩ := ha
  obtain ⟨t, n, j, rfl, hB⟩ := hb
  refine ⟨_, rfl, _, _, i + j, rfl, ?_⟩
  rw [signed_mul]
  have h : signed s m 0 * signed t n 0 * 2 ^ (i.toNat + j.toNat) = a * b * 2 ^ ((-i).toNat + (-j).toNat) := by
    rw [Int.pow_add, Int.pow_add]
    have e : ∀ x y p q : Int, x * y * (p * q) = (x * p) * (y * q) := fun x y p q => by
      rw [Int.mul_assoc, Int.mul_assoc, Int.mul_left_comm y p q]
    rw [e (signed s m 0) (signed t n 0), e a b, hA, hB]
  exact pw_shift h (by omega)

theorem stand_opposite {d : Datum} {a : Int} (ha : Stand d a) : Stand d.opposite (-a) := by
  obtain ⟨s, m, i, rfl, hA⟩ := ha
  refine ⟨_, _, i, rfl, ?_⟩
  have e : signed (!s) m 0 = -signed s m 0 := by unfold signed; cases s <;> simp
  rw [e, Int.neg_mul, hA, Int.neg_mul]

theorem compare_scale {X Y a b P Q : Int} (hP : 0 < P) (hQ : 0 < Q) (hX : X * P = a * Q) (hY : Y * P = b * Q) : compare X Y = compare a b := by
  have hlt : X < Y ↔ a < b := by
    constructor
    · intro h
      have h1 : X * P < Y * P := Int.mul_lt_mul_of_pos_right h hP
      rw [hX, hY] at h1
      exact Int.lt_of_mul_lt_mul_right h1 (Int.le_of_lt hQ)
    · intro h
      have h1 : a * Q < b * Q := Int.mul_lt_mul_of_pos_right h hQ
      rw [← hX, ← hY] at h1
      exact Int.lt_of_mul_lt_mul_right h1 (Int.le_of_lt hP)
  have heq : X = Y ↔ a = b := by
    constructor
    · intro h
      subst h
      exact Int.eq_of_mul_eq_mul_right (by omega) (hX.symm.trans hY)
    · intro h
      subst h
      exact Int.eq_of_mul_eq_mul_right (by omega) (hX.trans hY.symm)
  simp only [compare, compareOfLessAndEq, hlt, heq]

theorem stand_order {d d' : Datum} {a b : Int} (ha : Stand d a) (hb : Stand d' b) : d.order d' = some (compare a b) := by
  obtain ⟨s, m, i, rfl, hA⟩ := ha
  obtain ⟨t, n, j, rfl, hB⟩ := hb
  show some _ = some _
  congr 1
  refine compare_scale (two_pos (min i j).toNat) (two_pos (-(min i j)).toNat) ?_ ?_
  · rw [signed_up s]; exact stand_scale hA (by omega)
  · rw [signed_up t]; exact stand_scale hB (by omega)

/-! ## to a whole number -/
theorem log2_bounds {n : Nat} (h : n ≠ 0) : 2 ^ n.log2 ≤ n ∧ n < 2 ^ (n.log2 + 1) := ⟨Nat.log2_self_le h, Nat.lt_log2_self⟩
theorem cut_low (n d : Nat) : n / (1 <<< min d (n.log2 + 2)) = n / 2 ^ d := by
  rw [Nat.shiftLeft_eq, Nat.one_mul]
  by_cases h : d ≤ n.log2 + 2
  · rw [Nat.min_eq_left h]
  · rw [Nat.min_eq_right (by omega)]
    have h1 : n < 2 ^ (n.log2 + 1) := Nat.lt_log2_self
    have h2 : 2 ^ (n.log2 + 1) ≤ 2 ^ (n.log2 + 2) := Nat.pow_le_pow_right (by decide) (by omega)
    have h3 : 2 ^ (n.log2 + 1) ≤ 2 ^ d := Nat.pow_le_pow_right (by decide) (by omega)
    rw [Nat.div_eq_of_lt (by omega), Nat.div_eq_of_lt (by omega)]
theorem cut_rest (n d : Nat) : (n % (1 <<< min d (n.log2 + 2)) = 0) ↔ (n % 2 ^ d = 0) := by
  rw [Nat.shiftLeft_eq, Nat.one_mul]
  by_cases h : d ≤ n.log2 + 2
  · rw [Nat.min_eq_left h]
  · rw [Nat.min_eq_right (by omega)]
    have h1 : n < 2 ^ (n.log2 + 1) := Nat.lt_log2_self
    have h2 : 2 ^ (n.log2 + 1) ≤ 2 ^ (n.log2 + 2) := Nat.pow_le_pow_right (by decide) (by omega)
    have h3 : 2 ^ (n.log2 + 1) ≤ 2 ^ d := Nat.pow_le_pow_right (by decide) (by omega)
    rw [Nat.mod_eq_of_lt (by omega), Nat.mod_eq_of_lt (by omega)]
/-- A whole multiple is cut exactly, whatever the way. -/
theorem cut_exact (way : Toward) (s : Bool) (K d : Nat) : way.cut s (K * 2 ^ d) d = K := by
  have hl := cut_low (K * 2 ^ d) d
  have hr := (cut_rest (K * 2 ^ d) d).2 (Nat.mul_mod_left _ _)
  have hg : 0 < 1 <<< min d ((K * 2 ^ d).log2 + 2) := by rw [Nat.shiftLeft_eq, Nat.one_mul]; exact Nat.two_pow_pos _
  unfold Toward.cut
  simp only [hl, hr, Nat.mul_div_cancel _ (Nat.two_pow_pos d)]
  cases way <;> simp <;> omega
theorem cut_zero (s : Bool) (n d : Nat) : Toward.zero.cut s n d = n / 2 ^ d := by
  unfold Toward.cut
  simp only [cut_low]
  simp

theorem stand_nat {s : Bool} {m : Nat} {e n : Int} (h : signed s m 0 * 2 ^ e.toNat = n * 2 ^ (-e).toNat) : m * 2 ^ e.toNat = n.natAbs * 2 ^ (-e).toNat ∧ (n ≠ 0 → s = decide (n < 0)) := by
  have h1 : (signed s m 0).natAbs = m := by unfold signed; cases s <;> simp
  have h2 : (m : Int).natAbs = m := rfl
  constructor
  · have := congrArg Int.natAbs h
    rw [Int.natAbs_mul, Int.natAbs_mul, h1] at this
    have e2 : ∀ k : Nat, ((2 : Int) ^ k).natAbs = 2 ^ k := fun k => by rw [Int.natAbs_pow]; rfl
    rwa [e2, e2] at this
  · intro hn
    have p1 := two_pos e.toNat
    have p2 := two_pos (-e).toNat
    unfold signed at h
    simp only [Nat.shiftLeft_eq, Nat.pow_zero, Nat.mul_one] at h
    by_cases hneg : n < 0
    · have : n * 2 ^ (-e).toNat < 0 := Int.mul_neg_of_neg_of_pos hneg p2
      cases s with
      | true => simp [hneg]
      | false =>
        simp only [Bool.false_eq_true, if_false] at h
        have : (0 : Int) ≤ (m : Int) * 2 ^ e.toNat := Int.mul_nonneg (by omega) (by omega)
        omega
    · have hpos : 0 < n := by omega
      have : 0 < n * 2 ^ (-e).toNat := Int.mul_pos hpos p2
      cases s with
      | false => simp [hneg]
      | true =>
        simp only [if_true] at h
        have : (0 : Int) ≤ (m : Int) * 2 ^ e.toNat := Int.mul_nonneg (by omega) (by omega)
        rw [Int.neg_mul] at h
        omega
theorem stand_integral {way : Toward} {d : Datum} {n : Int} (h : Stand d n) : Stand (d.integral way) n := by
  obtain ⟨s, m, e, rfl, hA⟩ := h
  obtain ⟨hm, hs⟩ := stand_nat hA
  unfold Datum.integral
  simp only [Nat.shiftLeft_eq, hm, cut_exact]
  exact stand_number (signed_abs hs)
theorem stand_toInt {way : Toward} {d : Datum} {n : Int} (h : Stand d n) : d.toInt way = some n := by
  obtain ⟨s, m, e, rfl, hA⟩ := h
  obtain ⟨hm, hs⟩ := stand_nat hA
  unfold Datum.toInt Datum.integral
  simp only [Nat.shiftLeft_eq, hm, cut_exact]
  rw [signed_abs hs]
end Go.Proofs.YtodphfgopngpeaaDoor
