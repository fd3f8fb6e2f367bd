/-
  The law GaussNorms, walked. No condition.
-/
import Derived.Test.YtodphfgopngpeaaDoorGau9
namespace Go.Proofs.YtodphfgopngpeaaDoor
open Go.RowKit Go.Shelf
set_option linter.unusedVariables false
set_option linter.unusedSimpArgs false
attribute [local irreducible] floatOfInt wz

theorem mk_zero (p q : Int) : ∃ bz : Bool, (∀ w : World, (binOp .eql 23 (mk p q) (.complex .f64 0 0)).run Tryd.prog w = .ok (.bool bz) w) ∧ (bz = true ↔ wz p = 0 ∧ wz q = 0) := by
  have h : ∀ n : Int, FloatKind.f64.format.order (floatOfInt .f64 (wz n)) 0 = some (compare (wz n) 0) := fun n => flo_order (flo_int (n := wz n) (by have := wz_range n; omega)) flo_zero
  have hc : ∀ n : Int, ((some (compare (wz n) 0) == some Ordering.eq) = true) ↔ wz n = 0 := fun n => by
    rw [← compare_eq (a := wz n) (b := 0)]
    cases compare (wz n) 0 <;> simp
  refine ⟨_, fun w => by unfold mk; rw [run_eql_complex, h, h], ?_⟩
  rw [Bool.and_eq_true, hc, hc]
theorem mk_zguard (p q : Int) (x y : Operand) (w : World) : (eqGuard .eql 23 x y (mk p q) (.complex .f64 0 0)).run Tryd.prog w = .ok () w := by
  unfold mk
  simp [eqGuard, go_sem]
theorem bd {u v : Int} (hu : -300 < u ∧ u < 300) (hv : -300 < v ∧ v < 300) : -89401 ≤ u * v ∧ u * v ≤ 89401 := by
  have h : (u * v).natAbs ≤ 89401 := by
    rw [Int.natAbs_mul]
    exact Nat.le_trans (Nat.mul_le_mul (show u.natAbs ≤ 299 by omega) (show v.natAbs ≤ 299 by omega)) (by decide)
  omega
theorem norm_mul (a b c d : Int) : (a * c - b * d) * (a * c - b * d) + (a * d + b * c) * (a * d + b * c) = (a * a + b * b) * (c * c + d * d) := by grind
theorem sq_zero {a b : Int} : a * a + b * b = 0 ↔ a = 0 ∧ b = 0 := by
  have h1 := sq0 a
  have h2 := sq0 b
  constructor
  · intro h
    have e1 : a * a = 0 := by omega
    have e2 : b * b = 0 := by omega
    exact ⟨by rcases Int.mul_eq_zero.1 e1 with h | h <;> exact h, by rcases Int.mul_eq_zero.1 e2 with h | h <;> exact h⟩
  · rintro ⟨rfl, rfl⟩; rfl
theorem tm3 (n : Int) : -300 < n.tmod 300 ∧ n.tmod 300 < 300 := by
  by_cases h : 0 ≤ n
  · rw [Int.tmod_eq_emod_of_nonneg h]; omega
  · have e : n.tmod 300 = -((-n) % 300) := by rw [← Int.tmod_eq_emod_of_nonneg (by omega), Int.neg_tmod, Int.neg_neg]
    rw [e]; omega

set_option maxRecDepth 100000 in
set_option maxHeartbeats 4000000 in
theorem normsLaw_any {w : World} (a b c d : Int) (ha : -32768 ≤ a ∧ a ≤ 32767) (hb : -32768 ≤ b ∧ b ≤ 32767) (hc : -32768 ≤ c ∧ c ≤ 32767) (hd : -32768 ≤ d ∧ d ≤ 32767) :
    Calls Tryd.prog 4 #[.int .i16 a, .int .i16 b, .int .i16 c, .int .i16 d] w fun e w' => e = .returned (.bool true) ∧ Below w.heap.size w w' := by
  obtain ⟨A, hA⟩ : ∃ A, A = a.tmod 300 := ⟨_, rfl⟩
  obtain ⟨B, hB⟩ : ∃ B, B = b.tmod 300 := ⟨_, rfl⟩
  obtain ⟨C, hC⟩ : ∃ C, C = c.tmod 300 := ⟨_, rfl⟩
  obtain ⟨D, hD⟩ : ∃ D, D = d.tmod 300 := ⟨_, rfl⟩
  have rA : -300 < A ∧ A < 300 := hA ▸ tm3 a
  have rB : -300 < B ∧ B < 300 := hB ▸ tm3 b
  have rC : -300 < C ∧ C < 300 := hC ▸ tm3 c
  have rD : -300 < D ∧ D < 300 := hD ▸ tm3 d
  have bAC := bd rA rC
  have bBD := bd rB rD
  have bAD := bd rA rD
  have bBC := bd rB rC
  have bAA := bd rA rA
  have bBB := bd rB rB
  have bCC := bd rC rC
  have bDD := bd rD rD
  have sA := sq0 A
  have sB := sq0 B
  have sC := sq0 C
  have sD := sq0 D
  have zA : wz A = A := wz_small (by omega) (by omega)
  have zB : wz B = B := wz_small (by omega) (by omega)
  have zC : wz C = C := wz_small (by omega) (by omega)
  have zD : wz D = D := wz_small (by omega) (by omega)
  have zX : wz (A * C - B * D) = A * C - B * D := wz_small (by omega) (by omega)
  have zY : wz (A * D + B * C) = A * D + B * C := wz_small (by omega) (by omega)
  have zS : wz (A + C) = A + C := wz_small (by omega) (by omega)
  have zT : wz (B + D) = B + D := wz_small (by omega) (by omega)
  have zN : wz (-B) = -B := wz_small (by omega) (by omega)
  have HAL := Lib.hid (fun W => alive_any (w := W))
  have HGx := Lib.hid (fun W => gMake_any (w := W) A B)
  have HGy := Lib.hid (fun W => gMake_any (w := W) C D)
  have hx := fun W => mulMk (w := W) A B C D
  have hs := fun W => addMk (w := W) A B C D
  have hn1 := fun W => normMk (w := W) A B
  have hn2 := fun W => normMk (w := W) C D
  have hn3 := fun W => normMk (w := W) (A * C - B * D) (A * D + B * C)
  have hcj := fun W => conjMk (w := W) A B
  have hn4 := fun W => normMk (w := W) A (-B)
  have hp1 := fun W => partsMk (w := W) (A + C) (B + D)
  have hp2 := fun W => partsMk (w := W) A B
  have hp3 := fun W => partsMk (w := W) C D
  obtain ⟨bz, kz, hz⟩ := mk_zero A B
  have gz := fun (x y : Operand) (w : World) => mk_zguard A B x y w
  rw [zA, zB, ← sq_zero] at hz
  rw [zA, zB, zC, zD] at hx hs
  rw [zA, zB] at hn1 hcj hp2
  rw [zC, zD] at hn2 hp3
  rw [zX, zY, norm_mul] at hn3
  rw [zA, zN, Int.neg_mul_neg] at hn4
  rw [zS, zT] at hp1
  have uM : (A * A + B * B) * (C * C + D * D) % 18446744073709551616 = (A * A + B * B) * (C * C + D * D) := by
    have h1 : 0 ≤ (A * A + B * B) * (C * C + D * D) := Int.mul_nonneg (by omega) (by omega)
    have h2 : (A * A + B * B) * (C * C + D * D) ≤ 178802 * 178802 := Int.mul_le_mul (by omega) (by omega) (by omega) (by omega)
    omega
  have uS : wrap64 (A + C) = A + C := IntWalk.wrap64_in _ (by omega)
  have uT : wrap64 (B + D) = B + D := IntWalk.wrap64_in _ (by omega)
  have HX := Lib.hid hx
  have HS := Lib.hid hs
  have HN1 := Lib.hid hn1
  have HN2 := Lib.hid hn2
  have HN3 := Lib.hid hn3
  have HC := Lib.hid hcj
  have HN4 := Lib.hid hn4
  have HP1 := Lib.hid hp1
  have HP2 := Lib.hid hp2
  have HP3 := Lib.hid hp3
  clear zA zB zC zD zX zY zS zT zN hx hs hn1 hn2 hn3 hcj hn4 hp1 hp2 hp3 bAC bBD bAD bBC bAA bBB bCC bDD sA sB sC sD rA rB rC rD
  generalize mk (A * C - B * D) (A * D + B * C) = vZ at *
  generalize mk A (-B) = vC at *
  generalize mk A B = vX at *
  generalize mk C D = vY at *
  generalize mk (A + C) (B + D) = vS at *
  generalize A * A + B * B = N1 at *
  generalize C * C + D * D = N2 at *
  rw [hA, hB] at HGx
  rw [hC, hD] at HGy
  clear hA hB hC hD
  have hbz : bz = (N1 == 0) := by
    by_cases h : N1 = 0
    · rw [hz.2 h]; simp [h]
    · have h1 : bz = false := by
        cases bz
        · rfl
        · exact absurd (hz.1 rfl) h
      rw [h1]; simp [h]
  subst hbz
  clear hz
  go_enter Tryd.func4, Tryd.ntmps4
  go_wp2_with fail
  refine (HAL.out _).mono ?_
  rintro e w1 ⟨rfl, hb1⟩
  have HB1 := Lib.hid hb1
  clear hb1
  go_wp2_with fail
  refine (HGx.out _).mono ?_
  rintro e w2 ⟨rfl, rfl⟩
  go_wp2_with fail
  refine (HGy.out _).mono ?_
  rintro e w2 ⟨rfl, rfl⟩
  go_wp2_with fail
  refine (HX.out _).mono ?_
  rintro e w2 ⟨rfl, hb2⟩
  have HB2 := Lib.hid (HB1.out.trans (hb2.mono HB1.out.size))
  clear hb2
  go_wp2_with fail
  refine (HN1.out _).mono ?_
  rintro e w3 ⟨rfl, hb3⟩
  have HB3 := Lib.hid (HB2.out.trans (hb3.mono HB2.out.size))
  clear hb3
  go_wp2_with fail
  refine (HS.out _).mono ?_
  rintro e w4 ⟨rfl, hb4⟩
  have HB4 := Lib.hid (HB3.out.trans (hb4.mono HB3.out.size))
  clear hb4
  go_wp2_with fail
  refine (HP1.out _).mono ?_
  rintro e w5 ⟨rfl, hb5⟩
  have HB5 := Lib.hid (HB4.out.trans (hb5.mono HB4.out.size))
  clear hb5
  go_wp2_with fail
  refine (HP2.out _).mono ?_
  rintro e w6 ⟨rfl, hb6⟩
  have HB6 := Lib.hid (HB5.out.trans (hb6.mono HB5.out.size))
  clear hb6
  go_wp2_with fail
  refine (HP3.out _).mono ?_
  rintro e w7 ⟨rfl, hb7⟩
  have HB7 := Lib.hid (HB6.out.trans (hb7.mono HB6.out.size))
  clear hb7
  go_wp2_with fail
  refine (HN3.out _).mono ?_
  rintro e w8 ⟨rfl, hb8⟩
  have HB8 := Lib.hid (HB7.out.trans (hb8.mono HB7.out.size))
  clear hb8
  go_wp2_with fail
  refine (HN2.out _).mono ?_
  rintro e w9 ⟨rfl, hb9⟩
  have HB9 := Lib.hid (HB8.out.trans (hb9.mono HB8.out.size))
  clear hb9
  go_wp2_with fail
  refine (HC.out _).mono ?_
  rintro e w10 ⟨rfl, hb10⟩
  have HB10 := Lib.hid (HB9.out.trans (hb10.mono HB9.out.size))
  clear hb10
  go_wp2_with fail
  refine (HN4.out _).mono ?_
  rintro e w11 ⟨rfl, hb11⟩
  have HB11 := Lib.hid (HB10.out.trans (hb11.mono HB10.out.size))
  clear hb11
  go_wp2
  go_ret
  exact ⟨by first | rfl | simp, HB11.out⟩
end Go.Proofs.YtodphfgopngpeaaDoor
