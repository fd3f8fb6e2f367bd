/-
  Which floats are parts: the code's way, and the document's. Plain: no program in sight. No condition.
-/
import Derived.Test.YtodphfgopngpeaaDoorFlo3
namespace Go.Proofs.YtodphfgopngpeaaDoor
open Ieee
set_option linter.unusedVariables false
set_option linter.unusedSimpArgs false

abbrev ord (x y : Nat) : Option Ordering := FloatKind.f64.format.order x y
theorem dec_lo : (double.read 13916122848574832640) = .number true 4503599627370496 (-33) := by decide
theorem dec_hi : (double.read 4692750811720056832) = .number false 4503599627370496 (-33) := by decide
theorem dec_top : (double.read 4692750794540187648) = .number false 9007182074871808 (-34) := by decide
theorem whole_num {x : Nat} {s : Bool} {m : Nat} {e : Int} (hx : FloatKind.f64.decode x = .number s m e) (n : Int) : Flo x n ↔ signed s m 0 * 2 ^ e.toNat = n * 2 ^ (-e).toNat := by
  unfold Flo
  rw [hx]
  constructor
  · rintro ⟨s', m', e', he, h⟩
    injection he with h1 h2 h3
    subst h1 h2 h3
    exact h
  · intro h; exact ⟨s, m, e, rfl, h⟩
theorem not_flo {x : Nat} (h : ∀ s m e, FloatKind.f64.decode x ≠ .number s m e) (n : Int) : ¬ Flo x n := by
  rintro ⟨s, m, e, he, _⟩
  exact h s m e he
theorem ord_num {x y : Nat} {s : Bool} {m : Nat} {e : Int} {a : Int} (hx : FloatKind.f64.decode x = .number s m e) (hy : Flo y a) :
    ord x y = some (compare (signed s m 0 * 2 ^ e.toNat) (a * 2 ^ (-e).toNat)) ∧ ord y x = some (compare (a * 2 ^ (-e).toNat) (signed s m 0 * 2 ^ e.toNat)) := by
  have h := num_order (s := s) (m := m) (e := e) hy
  rw [← hx] at h
  exact h

theorem may_cases (x : Nat) :
    (((ord x 13916122848574832640 == some .gt || ord x 13916122848574832640 == some .eq) = false) ∧ ∀ n, ¬ Whole x n) ∨
    (((ord x 13916122848574832640 == some .gt || ord x 13916122848574832640 == some .eq) = true) ∧ ((ord x 4692750811720056832 == some .lt) = false) ∧ ∀ n, ¬ Whole x n) ∨
    (((ord x 13916122848574832640 == some .gt || ord x 13916122848574832640 == some .eq) = true) ∧ ((ord x 4692750811720056832 == some .lt) = true) ∧
      ∃ s m e, FloatKind.f64.decode x = .number s m e ∧ ∃ b, (ord (FloatKind.f64.encode ((Datum.number s m e).integral .down)) x == some .eq) = b ∧ (b = true ↔ ∃ n, Whole x n)) := by
  cases hx : FloatKind.f64.decode x with
  | nan s t =>
    refine .inl ⟨?_, fun n h => not_flo (fun _ _ _ h' => by rw [hx] at h'; cases h') n h.1⟩
    have : ∀ y, ord x y = none := fun y => by show (FloatKind.f64.decode x).order _ = none; rw [hx]; rfl
    rw [this]; rfl
  | infinity s =>
    have h1 : ord x 13916122848574832640 = some (if s then .lt else .gt) := by
      show (FloatKind.f64.decode x).order (double.read 13916122848574832640) = _
      rw [hx, dec_lo]; rfl
    have h2 : ord x 4692750811720056832 = some (if s then .lt else .gt) := by
      show (FloatKind.f64.decode x).order (double.read 4692750811720056832) = _
      rw [hx, dec_hi]; rfl
    have hn : ∀ n, ¬ Whole x n := fun n h => not_flo (fun _ _ _ h' => by rw [hx] at h'; cases h') n h.1
    rw [h1, h2]
    cases s
    · exact .inr (.inl ⟨rfl, rfl, hn⟩)
    · exact .inl ⟨rfl, hn⟩
  | number s m e =>
    have hw := whole_num hx
    obtain ⟨k, hk, k1, k2⟩ := floor_stand s m e
    rw [(ord_num hx flo_lo).1, (ord_num hx flo_hi).1]
    have hQ := two_pos (-e).toNat
    have hord : k.natAbs < 9007199254740992 → ord (FloatKind.f64.encode ((Datum.number s m e).integral .down)) x = some (compare (k * 2 ^ (-e).toNat) (signed s m 0 * 2 ^ e.toNat)) := fun h => (ord_num hx (stand_write hk h)).2
    generalize signed s m 0 * 2 ^ e.toNat = X at *
    generalize (2 : Int) ^ (-e).toNat = Q at *
    by_cases c0 : X < -524288 * Q
    · refine .inl ⟨?_, fun n h => ?_⟩
      · rw [show compare X (-524288 * Q) = .lt from compare_lt.2 c0]; rfl
      · have := (hw n).1 h.1
        have h3 : -524288 * Q ≤ n * Q := Int.mul_le_mul_of_nonneg_right h.2.1 (by omega)
        omega
    · have g0 : ((some (compare X (-524288 * Q)) == some Ordering.gt || some (compare X (-524288 * Q)) == some Ordering.eq) = true) := by
        by_cases h : X = -524288 * Q
        · rw [compare_eq.2 h]; rfl
        · rw [compare_gt.2 (by omega)]; rfl
      by_cases c1 : X < 524288 * Q
      · refine .inr (.inr ⟨g0, by rw [compare_lt.2 c1]; rfl, s, m, e, rfl, _, rfl, ?_⟩)
        have b1 : -524289 < k := by
          have : -524289 * Q < k * Q := by
            have e1 : (k + 1) * Q = k * Q + Q := by rw [Int.add_mul, Int.one_mul]
            omega
          exact Int.lt_of_mul_lt_mul_right this (by omega)
        have b2 : k < 524288 := by
          have : k * Q < 524288 * Q := by omega
          exact Int.lt_of_mul_lt_mul_right this (by omega)
        rw [hord (by omega)]
        constructor
        · intro h
          have heq : k * Q = X := by
            have h' : compare (k * Q) X = .eq := by
              generalize compare (k * Q) X = o at h
              cases o <;> first | rfl | cases h
            exact compare_eq.1 h'
          have b3 : -524288 ≤ k := by
            have : -524288 * Q ≤ k * Q := by omega
            exact Int.le_of_mul_le_mul_right this hQ
          exact ⟨k, (hw k).2 heq.symm, b3, by omega⟩
        · rintro ⟨n, hf, n1, n2⟩
          have hXn := (hw n).1 hf
          have e1 : (k + 1) * Q = k * Q + Q := by rw [Int.add_mul, Int.one_mul]
          have l1 : k ≤ n := Int.le_of_mul_le_mul_right (by omega : k * Q ≤ n * Q) hQ
          have l2 : n < k + 1 := Int.lt_of_mul_lt_mul_right (by omega : n * Q < (k + 1) * Q) (by omega)
          have : k = n := by omega
          subst this
          rw [compare_eq.2 hXn.symm]; rfl
      · refine .inr (.inl ⟨g0, ?_, fun n h => ?_⟩)
        · by_cases h : X = 524288 * Q
          · rw [compare_eq.2 h]; rfl
          · rw [compare_gt.2 (by omega)]; rfl
        · have := (hw n).1 h.1
          have h3 : n * Q < 524288 * Q := Int.mul_lt_mul_of_pos_right (by have := h.2.2; omega) hQ
          omega

theorem part_cases (x : Nat) :
    (((ord x x != some .eq) = true) ∧ ∀ n, ¬ Whole x n) ∨
    (((ord x x != some .eq) = false) ∧ ((ord x 13916122848574832640 == some .lt) = true) ∧ ∀ n, ¬ Whole x n) ∨
    (((ord x x != some .eq) = false) ∧ ((ord x 13916122848574832640 == some .lt) = false) ∧ ((ord x 4692750794540187648 == some .gt) = true) ∧ ∀ n, ¬ Whole x n) ∨
    (((ord x x != some .eq) = false) ∧ ((ord x 13916122848574832640 == some .lt) = false) ∧ ((ord x 4692750794540187648 == some .gt) = false) ∧
      ∃ k b, floatToIntVal .f64 x .i64 = some k ∧ (ord (floatOfInt .f64 k) x == some .eq) = b ∧ (b = true ↔ ∃ n, Whole x n) ∧ ∀ n, Whole x n → k = n) := by
  cases hx : FloatKind.f64.decode x with
  | nan s t =>
    refine .inl ⟨?_, fun n h => not_flo (fun _ _ _ h' => by rw [hx] at h'; cases h') n h.1⟩
    have : ∀ y, ord x y = none := fun y => by show (FloatKind.f64.decode x).order _ = none; rw [hx]; rfl
    rw [this]; rfl
  | infinity s =>
    have h0 : ord x x = some .eq := by
      show (FloatKind.f64.decode x).order (FloatKind.f64.decode x) = _
      rw [hx]; cases s <;> rfl
    have h1 : ord x 13916122848574832640 = some (if s then .lt else .gt) := by
      show (FloatKind.f64.decode x).order (double.read 13916122848574832640) = _
      rw [hx, dec_lo]; rfl
    have h2 : ord x 4692750794540187648 = some (if s then .lt else .gt) := by
      show (FloatKind.f64.decode x).order (double.read 4692750794540187648) = _
      rw [hx, dec_top]; rfl
    have hn : ∀ n, ¬ Whole x n := fun n h => not_flo (fun _ _ _ h' => by rw [hx] at h'; cases h') n h.1
    rw [h0, h1, h2]
    cases s
    · exact .inr (.inr (.inl ⟨rfl, rfl, rfl, hn⟩))
    · exact .inr (.inl ⟨rfl, rfl, hn⟩)
  | number s m e =>
    have hw := whole_num hx
    have h0 : ord x x = some .eq := by
      show (FloatKind.f64.decode x).order (FloatKind.f64.decode x) = _
      rw [hx]
      show some (compare _ _) = _
      rw [compare_eq.2 rfl]
    obtain ⟨k, hk, k1⟩ := trunc_some s m e
    have hst : ∀ n, Flo x n → k = n := fun n h => by
      have h2 := stand_toInt (way := .zero) h
      rw [hx, hk] at h2
      injection h2
    rw [h0, (ord_num hx flo_lo).1, (ord_num hx flo_top).1]
    have hQ := two_pos (-e).toNat
    have hord : k.natAbs < 9007199254740992 → ord (floatOfInt .f64 k) x = some (compare (k * 2 ^ (-e).toNat) (signed s m 0 * 2 ^ e.toNat)) := fun h => (ord_num hx (flo_int h)).2
    have k1' : (k.natAbs : Int) * 2 ^ (-e).toNat ≤ ((signed s m 0 * 2 ^ e.toNat).natAbs : Int) := by
      have hcast : ((2 : Int) ^ (-e).toNat) = ((2 ^ (-e).toNat : Nat) : Int) := by simp
      rw [hcast, ← Int.natCast_mul]
      exact Int.ofNat_le.2 k1
    clear k1
    generalize signed s m 0 * 2 ^ e.toNat = X at *
    generalize (2 : Int) ^ (-e).toNat = Q at *
    by_cases c0 : X < -524288 * Q
    · refine .inr (.inl ⟨rfl, by rw [compare_lt.2 c0]; rfl, fun n h => ?_⟩)
      have := (hw n).1 h.1
      have h3 : -524288 * Q ≤ n * Q := Int.mul_le_mul_of_nonneg_right h.2.1 (by omega)
      omega
    · have g0 : (some (compare X (-524288 * Q)) == some Ordering.lt) = false := by
        by_cases h : X = -524288 * Q
        · rw [compare_eq.2 h]; rfl
        · rw [compare_gt.2 (by omega)]; rfl
      by_cases c1 : 524287 * Q < X
      · refine .inr (.inr (.inl ⟨rfl, g0, by rw [compare_gt.2 c1]; rfl, fun n h => ?_⟩))
        have := (hw n).1 h.1
        have h3 : n * Q ≤ 524287 * Q := Int.mul_le_mul_of_nonneg_right h.2.2 (by omega)
        omega
      · have g1 : (some (compare X (524287 * Q)) == some Ordering.gt) = false := by
          by_cases h : X = 524287 * Q
          · rw [compare_eq.2 h]; rfl
          · rw [compare_lt.2 (by omega)]; rfl
        have hkb : k.natAbs ≤ 524288 := by
          have h5 : (k.natAbs : Int) * Q ≤ 524288 * Q := by omega
          have h6 := Int.le_of_mul_le_mul_right h5 hQ
          omega
        refine .inr (.inr (.inr ⟨rfl, g0, g1, k, _, ?_, rfl, ?_, fun n h => hst n h.1⟩))
        · unfold floatToIntVal
          rw [hx, hk]
          simp only
          rw [if_pos ⟨by simp [IntKind.min, IntKind.signed, IntKind.bits]; omega, by simp [IntKind.max, IntKind.signed, IntKind.bits]; omega⟩]
        · rw [hord (by omega)]
          constructor
          · intro h
            have heq : k * Q = X := by
              have h' : compare (k * Q) X = .eq := by
                generalize compare (k * Q) X = o at h
                cases o <;> first | rfl | cases h
              exact compare_eq.1 h'
            have b1 : k ≤ 524287 := Int.le_of_mul_le_mul_right (by omega : k * Q ≤ 524287 * Q) hQ
            exact ⟨k, (hw k).2 heq.symm, by omega, b1⟩
          · rintro ⟨n, hf, _⟩
            have := hst n hf
            subst this
            rw [compare_eq.2 ((hw k).1 hf).symm]; rfl
end Go.Proofs.YtodphfgopngpeaaDoor
