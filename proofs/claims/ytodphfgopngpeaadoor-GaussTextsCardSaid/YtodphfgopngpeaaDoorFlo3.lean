/-
  Floats in a range: which are whole numbers, by the floor, and by cutting. Plain: no program in sight. No condition.
-/
import Derived.Test.YtodphfgopngpeaaDoorFlo2
namespace Go.Proofs.YtodphfgopngpeaaDoor
open Ieee
set_option linter.unusedVariables false
set_option linter.unusedSimpArgs false

/-- A number beside a whole one. -/
theorem num_order {s : Bool} {m : Nat} {e : Int} {d' : Datum} {a : Int} (h : Stand d' a) :
    (Datum.number s m e).order d' = some (compare (signed s m 0 * 2 ^ e.toNat) (a * 2 ^ (-e).toNat)) ∧ d'.order (Datum.number s m e) = some (compare (a * 2 ^ (-e).toNat) (signed s m 0 * 2 ^ e.toNat)) := by
  obtain ⟨t, n, j, rfl, hB⟩ := h
  have hX : ∀ b : Int, b ≤ e → signed s m (e - b).toNat * (2 ^ b.toNat * 2 ^ (-e).toNat) = (signed s m 0 * 2 ^ e.toNat) * 2 ^ (-b).toNat := fun b hb => by
    rw [signed_up s, Int.mul_assoc, Int.mul_assoc, ← Int.pow_add, ← Int.pow_add, ← Int.pow_add]
    congr 2
    omega
  have hY : ∀ b : Int, b ≤ j → signed t n (j - b).toNat * (2 ^ b.toNat * 2 ^ (-e).toNat) = (a * 2 ^ (-e).toNat) * 2 ^ (-b).toNat := fun b hb => by
    rw [← Int.mul_assoc, signed_up t, stand_scale hB hb, Int.mul_assoc, Int.mul_assoc, Int.mul_comm (2 ^ (-b).toNat)]
  have hP : ∀ b : Int, (0 : Int) < 2 ^ b.toNat * 2 ^ (-e).toNat := fun b => Int.mul_pos (two_pos _) (two_pos _)
  constructor
  · show some _ = some _
    congr 1
    exact compare_scale (hP (min e j)) (two_pos (-(min e j)).toNat) (hX _ (by omega)) (hY _ (by omega))
  · show some _ = some _
    congr 1
    exact compare_scale (hP (min j e)) (two_pos (-(min j e)).toNat) (hY _ (by omega)) (hX _ (by omega))

theorem compare_lt {a b : Int} : compare a b = .lt ↔ a < b := by
  simp only [compare, compareOfLessAndEq]
  split <;> rename_i h
  · simp [h]
  · split <;> simp [h]
theorem compare_eq {a b : Int} : compare a b = .eq ↔ a = b := by
  simp only [compare, compareOfLessAndEq]
  split <;> rename_i h
  · simp; omega
  · split <;> simp_all
theorem compare_gt {a b : Int} : compare a b = .gt ↔ b < a := by
  simp only [compare, compareOfLessAndEq]
  split <;> rename_i h
  · simp; omega
  · split <;> rename_i h2
    · simp; omega
    · simp; omega

/-- The floor of a number, and what it stands for. -/
theorem floor_stand (s : Bool) (m : Nat) (e : Int) : ∃ k : Int, Stand ((Datum.number s m e).integral .down) k ∧ k * 2 ^ (-e).toNat ≤ signed s m 0 * 2 ^ e.toNat ∧ signed s m 0 * 2 ^ e.toNat < (k + 1) * 2 ^ (-e).toNat := by
  unfold Datum.integral
  obtain ⟨M, hM⟩ : ∃ M, M = m <<< e.toNat := ⟨_, rfl⟩
  have hS : signed s m 0 * 2 ^ e.toNat = if s then -(M : Int) else (M : Int) := by
    rw [← signed_up, hM]; rfl
  rw [hS]
  simp only [← hM]
  have hq := Nat.two_pow_pos (-e).toNat
  have hdm := Nat.div_add_mod M (2 ^ (-e).toNat)
  have hml := Nat.mod_lt M hq
  have hcast : ((2 : Int) ^ (-e).toNat) = ((2 ^ (-e).toNat : Nat) : Int) := by simp
  rw [hcast]
  have hcut : Toward.down.cut s M (-e).toNat = M / 2 ^ (-e).toNat + (s && decide (M % 2 ^ (-e).toNat ≠ 0)).toNat := by
    have hr := cut_rest M (-e).toNat
    unfold Toward.cut
    simp only [cut_low]
    congr 2
    cases s
    · simp
    · by_cases h : M % 2 ^ (-e).toNat = 0
      · simp [h, hr.2 h]
      · have : ¬ M % (1 <<< min (-e).toNat (M.log2 + 2)) = 0 := fun h' => h (hr.1 h')
        simp [h, this]
  rw [hcut]
  generalize 2 ^ (-e).toNat = Q at *
  generalize M / Q = D at *
  generalize M % Q = R at *
  cases s with
  | false =>
    refine ⟨(D : Int), stand_number (by simp [signed]), ?_, ?_⟩
    · simp only [Bool.false_eq_true, if_false]
      have : (D : Int) * (Q : Int) = ((Q * D : Nat) : Int) := by rw [Int.mul_comm]; simp
      rw [this]; omega
    · simp only [Bool.false_eq_true, if_false]
      have : ((D : Int) + 1) * (Q : Int) = ((Q * D : Nat) : Int) + Q := by rw [Int.add_mul, Int.mul_comm]; simp
      rw [this]; omega
  | true =>
    by_cases hR : R = 0
    · refine ⟨-(D : Int), stand_number (by simp [signed, hR]), ?_, ?_⟩
      · simp only [if_true]
        have : -(D : Int) * (Q : Int) = -((Q * D : Nat) : Int) := by rw [Int.neg_mul, Int.mul_comm]; simp
        rw [this]; omega
      · simp only [if_true]
        have : (-(D : Int) + 1) * (Q : Int) = -((Q * D : Nat) : Int) + Q := by rw [Int.add_mul, Int.neg_mul, Int.mul_comm]; simp
        rw [this]; omega
    · refine ⟨-((D : Int) + 1), stand_number (by simp [signed, hR]), ?_, ?_⟩
      · simp only [if_true]
        have : -((D : Int) + 1) * (Q : Int) = -((Q * D : Nat) : Int) - Q := by rw [Int.neg_mul, Int.add_mul, Int.mul_comm]; simp; omega
        rw [this]; omega
      · simp only [if_true]
        have : (-((D : Int) + 1) + 1) * (Q : Int) = -((Q * D : Nat) : Int) := by rw [show -((D : Int) + 1) + 1 = -(D : Int) by omega, Int.neg_mul, Int.mul_comm]; simp
        rw [this]; omega
/-- A number cut towards nought. -/
theorem trunc_some (s : Bool) (m : Nat) (e : Int) : ∃ k : Int, (Datum.number s m e).toInt .zero = some k ∧ k.natAbs * 2 ^ (-e).toNat ≤ (signed s m 0 * 2 ^ e.toNat).natAbs := by
  refine ⟨_, rfl, ?_⟩
  have h1 : ∀ u v : Nat, (signed s u v).natAbs = u * 2 ^ v := fun u v => by
    unfold signed
    rw [Nat.shiftLeft_eq]
    generalize u * 2 ^ v = z
    cases s <;> simp
  simp only [cut_zero, h1, ← signed_up, Nat.shiftLeft_eq, Nat.pow_zero, Nat.mul_one]
  exact Nat.div_mul_le_self _ _

/-- The float is a part of a number of the document. -/
def Whole (x : Nat) (n : Int) : Prop := Flo x n ∧ -524288 ≤ n ∧ n ≤ 524287
theorem flo_lo : Flo 13916122848574832640 (-524288) := ⟨true, 4503599627370496, -33, by decide, by decide⟩
theorem flo_hi : Flo 4692750811720056832 524288 := ⟨false, 4503599627370496, -33, by decide, by decide⟩
theorem flo_top : Flo 4692750794540187648 524287 := ⟨false, 9007182074871808, -34, by decide, by decide⟩
theorem flo_zero : Flo 0 0 := ⟨false, 0, -1074, by decide, by rw [show signed false 0 0 = 0 from rfl, Int.zero_mul, Int.zero_mul]⟩
theorem flo_inj {x : Nat} {a b : Int} (h : Flo x a) (k : Flo x b) : a = b := by
  have h1 := flo_order h k
  have h2 := flo_order h h
  rw [h2] at h1
  injection h1 with h1
  exact compare_eq.1 (h1.symm.trans (compare_eq.2 rfl))
end Go.Proofs.YtodphfgopngpeaaDoor
