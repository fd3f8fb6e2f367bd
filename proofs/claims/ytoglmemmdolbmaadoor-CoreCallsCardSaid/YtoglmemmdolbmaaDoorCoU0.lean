/-
  Registers' instructions in plain words: what the law's programs come to. No condition but that the words are words.
-/
import Derived.Test.YtoglmemmdolbmaaDoorCoC
namespace Go.Proofs.YtoglmemmdolbmaaDoor
open Go.RowKit Go.Shelf
set_option linter.unusedVariables false

theorem step_rr {c : Cp} {m : List Int} {pc op a b im v : Int} (hpc : c.pc = pc) (hf : fetchAt pc m = (⟨op, a, b, im⟩, 0)) (h14 : op ≤ 14) (hv : countP op im (c.r a.toNat) (c.r b.toNat) = some v) : stepP c m = ((c.setR a.toNat v).setPc (nextP c), 0, m) :=
  (step_lit hpc hf).trans (exec_count c m h14 hv)
def cpuAB (a b : Int) : Cp := ⟨fun i => if i = 1 then a else if i = 2 then b else 0, fun _ => (0, 0), 0⟩
theorem cpuAB_ok {a b : Int} (ha : 0 ≤ a ∧ a ≤ 4294967295) (hb : 0 ≤ b ∧ b ≤ 4294967295) : (cpuAB a b).Ok := ⟨fun k => by
  show 0 ≤ (if k = 1 then a else if k = 2 then b else 0) ∧ (if k = 1 then a else if k = 2 then b else 0) ≤ 4294967295
  split
  · exact ha
  · split
    · exact hb
    · decide, Int.le_refl 0, by show (0 : Int) ≤ 4294967295; decide⟩
def p1 : List UInt8 := [97, 100, 100, 32, 49, 32, 50, 10, 115, 117, 98, 32, 49, 32, 50, 10]
def p2 : List UInt8 := [120, 111, 114, 32, 49, 32, 50, 10, 120, 111, 114, 32, 49, 32, 50, 10]
def p3 : List UInt8 := [109, 111, 118, 32, 51, 32, 49, 10, 97, 110, 100, 32, 51, 32, 50, 10, 109, 111, 118, 32, 52, 32, 49, 10, 111, 114, 32, 52, 32, 50, 10, 97, 100, 100, 32, 51, 32, 52, 10]
def p5 : List UInt8 := [109, 111, 118, 32, 51, 32, 49, 10, 115, 108, 116, 32, 51, 32, 50, 10, 109, 111, 118, 32, 52, 32, 50, 10, 115, 108, 116, 32, 52, 32, 49, 10, 109, 111, 118, 32, 53, 32, 49, 10, 115, 101, 113, 32, 53, 32, 50, 10, 97, 100, 100, 32, 51, 32, 52, 10, 97, 100, 100, 32, 51, 32, 53, 10]
theorem g1_0 : fetchAt 0 (memOf p1) = (⟨4, 1, 2, 0⟩, 0) := by decide +kernel
theorem g1_4 : fetchAt 4 (memOf p1) = (⟨5, 1, 2, 0⟩, 0) := by decide +kernel
theorem g2_0 : fetchAt 0 (memOf p2) = (⟨9, 1, 2, 0⟩, 0) := by decide +kernel
theorem g2_4 : fetchAt 4 (memOf p2) = (⟨9, 1, 2, 0⟩, 0) := by decide +kernel
theorem g3_0 : fetchAt 0 (memOf p3) = (⟨3, 3, 1, 0⟩, 0) := by decide +kernel
theorem g3_4 : fetchAt 4 (memOf p3) = (⟨7, 3, 2, 0⟩, 0) := by decide +kernel
theorem g3_8 : fetchAt 8 (memOf p3) = (⟨3, 4, 1, 0⟩, 0) := by decide +kernel
theorem g3_12 : fetchAt 12 (memOf p3) = (⟨8, 4, 2, 0⟩, 0) := by decide +kernel
theorem g3_16 : fetchAt 16 (memOf p3) = (⟨4, 3, 4, 0⟩, 0) := by decide +kernel
theorem g5_0 : fetchAt 0 (memOf p5) = (⟨3, 3, 1, 0⟩, 0) := by decide +kernel
theorem g5_4 : fetchAt 4 (memOf p5) = (⟨13, 3, 2, 0⟩, 0) := by decide +kernel
theorem g5_8 : fetchAt 8 (memOf p5) = (⟨3, 4, 2, 0⟩, 0) := by decide +kernel
theorem g5_12 : fetchAt 12 (memOf p5) = (⟨13, 4, 1, 0⟩, 0) := by decide +kernel
theorem g5_16 : fetchAt 16 (memOf p5) = (⟨3, 5, 1, 0⟩, 0) := by decide +kernel
theorem g5_20 : fetchAt 20 (memOf p5) = (⟨14, 5, 2, 0⟩, 0) := by decide +kernel
theorem g5_24 : fetchAt 24 (memOf p5) = (⟨4, 3, 4, 0⟩, 0) := by decide +kernel
theorem g5_28 : fetchAt 28 (memOf p5) = (⟨4, 3, 5, 0⟩, 0) := by decide +kernel
theorem xor_back (a b : Int) (ha : 0 ≤ a ∧ a ≤ 4294967295) (hb : 0 ≤ b ∧ b ≤ 4294967295) : bits .xor .u32 (bits .xor .u32 a b) b = a := by
  obtain ⟨x, rfl⟩ := Int.eq_ofNat_of_zero_le ha.1
  obtain ⟨y, rfl⟩ := Int.eq_ofNat_of_zero_le hb.1
  have hx : x < 4294967296 := by omega
  have hy : y < 4294967296 := by omega
  rw [u32_xor_nat x y hx hy, u32_xor_nat (x ^^^ y) y (Nat.xor_lt_two_pow (n := 32) hx hy) hy, Nat.xor_assoc, Nat.xor_self, Nat.xor_zero]
theorem nat_and_or : ∀ (n a b : Nat), a < 2 ^ n → b < 2 ^ n → (a &&& b) + (a ||| b) = a + b
  | 0, a, b, ha, hb => by
    have h1 : a = 0 := by simpa using ha
    have h2 : b = 0 := by simpa using hb
    subst h1 h2
    rfl
  | n + 1, a, b, ha, hb => by
    rw [Nat.pow_succ] at ha hb
    have ih := nat_and_or n (a / 2) (b / 2) (by omega) (by omega)
    have e1 : (a &&& b) / 2 = a / 2 &&& b / 2 := Nat.and_div_two
    have e2 : (a ||| b) / 2 = a / 2 ||| b / 2 := Nat.or_div_two
    have e3 : (a &&& b) % 2 + (a ||| b) % 2 = a % 2 + b % 2 := by
      have k1 : (a &&& b) % 2 = (a % 2) &&& (b % 2) := Nat.and_mod_two_pow (a := a) (b := b) (n := 1)
      have k2 : (a ||| b) % 2 = (a % 2) ||| (b % 2) := Nat.or_mod_two_pow (a := a) (b := b) (n := 1)
      rw [k1, k2]
      rcases Nat.mod_two_eq_zero_or_one a with h1 | h1 <;> rcases Nat.mod_two_eq_zero_or_one b with h2 | h2 <;> rw [h1, h2] <;> rfl
    omega
theorem and_or (a b : Int) (ha : 0 ≤ a ∧ a ≤ 4294967295) (hb : 0 ≤ b ∧ b ≤ 4294967295) : bits .and .u32 a b + bits .or .u32 a b = a + b := by
  obtain ⟨x, rfl⟩ := Int.eq_ofNat_of_zero_le ha.1
  obtain ⟨y, rfl⟩ := Int.eq_ofNat_of_zero_le hb.1
  have hx : x < 4294967296 := by omega
  have hy : y < 4294967296 := by omega
  rw [u32_and_nat x y hx hy, u32_or_nat x y hx hy]
  have := nat_and_or 32 x y hx hy
  omega
theorem sum1 (a b : Int) (ha : 0 ≤ a ∧ a ≤ 4294967295) (hb : 0 ≤ b ∧ b ≤ 4294967295) : ∃ c, runP (cpuAB a b) (memOf p1) 2 = (c, 2, 0, memOf p1) ∧ c.r 1 = a := by
  have e1 := step_rr (c := (cpuAB a b)) (m := memOf p1) rfl g1_0 (by decide) (v := (a + b) % 4294967296) (rfl)
  obtain ⟨c1, h1⟩ : ∃ c1, c1 = (((cpuAB a b)).setR ((1 : Int)).toNat ((a + b) % 4294967296)).setPc (nextP (cpuAB a b)) := ⟨_, rfl⟩
  rw [← h1] at e1
  have k1_1 : c1.r 1 = (a + b) % 4294967296 := by rw [h1]; rfl
  have k1_2 : c1.r 2 = b := by rw [h1]; rfl
  have q1 : c1.pc = 4 := by rw [h1]; rfl
  have e2 := step_rr (c := c1) (m := memOf p1) q1 g1_4 (by decide) (v := ((a + b) % 4294967296 - b) % 4294967296) (by rw [show c1.r (((1 : Int)).toNat) = (a + b) % 4294967296 from k1_1, show c1.r (((2 : Int)).toNat) = b from k1_2]; rfl)
  obtain ⟨c2, h2⟩ : ∃ c2, c2 = ((c1).setR ((1 : Int)).toNat (((a + b) % 4294967296 - b) % 4294967296)).setPc (nextP c1) := ⟨_, rfl⟩
  rw [← h2] at e2
  have k2_1 : c2.r 1 = ((a + b) % 4294967296 - b) % 4294967296 := by rw [h2]; rfl
  have k2_2 : c2.r 2 = b := by rw [h2]; exact k1_2
  have q2 : c2.pc = 8 := by
    rw [h2]
    show nextP c1 = _
    unfold nextP
    rw [q1]; rfl
  refine ⟨c2, by rw [run_go 1 e1, run_go 0 e2]; rfl, ?_⟩
  rw [k2_1]
  omega
theorem sum2 (a b : Int) (ha : 0 ≤ a ∧ a ≤ 4294967295) (hb : 0 ≤ b ∧ b ≤ 4294967295) : ∃ c, runP (cpuAB a b) (memOf p2) 2 = (c, 2, 0, memOf p2) ∧ c.r 1 = a := by
  have e1 := step_rr (c := (cpuAB a b)) (m := memOf p2) rfl g2_0 (by decide) (v := bits .xor .u32 a b) (rfl)
  obtain ⟨c1, h1⟩ : ∃ c1, c1 = (((cpuAB a b)).setR ((1 : Int)).toNat (bits .xor .u32 a b)).setPc (nextP (cpuAB a b)) := ⟨_, rfl⟩
  rw [← h1] at e1
  have k1_1 : c1.r 1 = bits .xor .u32 a b := by rw [h1]; rfl
  have k1_2 : c1.r 2 = b := by rw [h1]; rfl
  have q1 : c1.pc = 4 := by rw [h1]; rfl
  have e2 := step_rr (c := c1) (m := memOf p2) q1 g2_4 (by decide) (v := bits .xor .u32 (bits .xor .u32 a b) b) (by rw [show c1.r (((1 : Int)).toNat) = bits .xor .u32 a b from k1_1, show c1.r (((2 : Int)).toNat) = b from k1_2]; rfl)
  obtain ⟨c2, h2⟩ : ∃ c2, c2 = ((c1).setR ((1 : Int)).toNat (bits .xor .u32 (bits .xor .u32 a b) b)).setPc (nextP c1) := ⟨_, rfl⟩
  rw [← h2] at e2
  have k2_1 : c2.r 1 = bits .xor .u32 (bits .xor .u32 a b) b := by rw [h2]; rfl
  have k2_2 : c2.r 2 = b := by rw [h2]; exact k1_2
  have q2 : c2.pc = 8 := by
    rw [h2]
    show nextP c1 = _
    unfold nextP
    rw [q1]; rfl
  refine ⟨c2, by rw [run_go 1 e1, run_go 0 e2]; rfl, ?_⟩
  rw [k2_1]
  exact xor_back a b ha hb
theorem sum3 (a b : Int) (ha : 0 ≤ a ∧ a ≤ 4294967295) (hb : 0 ≤ b ∧ b ≤ 4294967295) : ∃ c, runP (cpuAB a b) (memOf p3) 5 = (c, 5, 0, memOf p3) ∧ c.r 3 = (a + b) % 4294967296 := by
  have e1 := step_rr (c := (cpuAB a b)) (m := memOf p3) rfl g3_0 (by decide) (v := a) (rfl)
  obtain ⟨c1, h1⟩ : ∃ c1, c1 = (((cpuAB a b)).setR ((3 : Int)).toNat (a)).setPc (nextP (cpuAB a b)) := ⟨_, rfl⟩
  rw [← h1] at e1
  have k1_1 : c1.r 1 = a := by rw [h1]; rfl
  have k1_2 : c1.r 2 = b := by rw [h1]; rfl
  have k1_3 : c1.r 3 = a := by rw [h1]; rfl
  have q1 : c1.pc = 4 := by rw [h1]; rfl
  have e2 := step_rr (c := c1) (m := memOf p3) q1 g3_4 (by decide) (v := bits .and .u32 a b) (by rw [show c1.r (((3 : Int)).toNat) = a from k1_3, show c1.r (((2 : Int)).toNat) = b from k1_2]; rfl)
  obtain ⟨c2, h2⟩ : ∃ c2, c2 = ((c1).setR ((3 : Int)).toNat (bits .and .u32 a b)).setPc (nextP c1) := ⟨_, rfl⟩
  rw [← h2] at e2
  have k2_1 : c2.r 1 = a := by rw [h2]; exact k1_1
  have k2_2 : c2.r 2 = b := by rw [h2]; exact k1_2
  have k2_3 : c2.r 3 = bits .and .u32 a b := by rw [h2]; rfl
  have q2 : c2.pc = 8 := by
    rw [h2]
    show nextP c1 = _
    unfold nextP
    rw [q1]; rfl
  have e3 := step_rr (c := c2) (m := memOf p3) q2 g3_8 (by decide) (v := a) (by rw [show c2.r (((1 : Int)).toNat) = a from k2_1]; rfl)
  obtain ⟨c3, h3⟩ : ∃ c3, c3 = ((c2).setR ((4 : Int)).toNat (a)).setPc (nextP c2) := ⟨_, rfl⟩
  rw [← h3] at e3
  have k3_1 : c3.r 1 = a := by rw [h3]; exact k2_1
  have k3_2 : c3.r 2 = b := by rw [h3]; exact k2_2
  have k3_3 : c3.r 3 = bits .and .u32 a b := by rw [h3]; exact k2_3
  have k3_4 : c3.r 4 = a := by rw [h3]; rfl
  have q3 : c3.pc = 12 := by
    rw [h3]
    show nextP c2 = _
    unfold nextP
    rw [q2]; rfl
  have e4 := step_rr (c := c3) (m := memOf p3) q3 g3_12 (by decide) (v := bits .or .u32 a b) (by rw [show c3.r (((4 : Int)).toNat) = a from k3_4, show c3.r (((2 : Int)).toNat) = b from k3_2]; rfl)
  obtain ⟨c4, h4⟩ : ∃ c4, c4 = ((c3).setR ((4 : Int)).toNat (bits .or .u32 a b)).setPc (nextP c3) := ⟨_, rfl⟩
  rw [← h4] at e4
  have k4_1 : c4.r 1 = a := by rw [h4]; exact k3_1
  have k4_2 : c4.r 2 = b := by rw [h4]; exact k3_2
  have k4_3 : c4.r 3 = bits .and .u32 a b := by rw [h4]; exact k3_3
  have k4_4 : c4.r 4 = bits .or .u32 a b := by rw [h4]; rfl
  have q4 : c4.pc = 16 := by
    rw [h4]
    show nextP c3 = _
    unfold nextP
    rw [q3]; rfl
  have e5 := step_rr (c := c4) (m := memOf p3) q4 g3_16 (by decide) (v := (bits .and .u32 a b + bits .or .u32 a b) % 4294967296) (by rw [show c4.r (((3 : Int)).toNat) = bits .and .u32 a b from k4_3, show c4.r (((4 : Int)).toNat) = bits .or .u32 a b from k4_4]; rfl)
  obtain ⟨c5, h5⟩ : ∃ c5, c5 = ((c4).setR ((3 : Int)).toNat ((bits .and .u32 a b + bits .or .u32 a b) % 4294967296)).setPc (nextP c4) := ⟨_, rfl⟩
  rw [← h5] at e5
  have k5_1 : c5.r 1 = a := by rw [h5]; exact k4_1
  have k5_2 : c5.r 2 = b := by rw [h5]; exact k4_2
  have k5_3 : c5.r 3 = (bits .and .u32 a b + bits .or .u32 a b) % 4294967296 := by rw [h5]; rfl
  have k5_4 : c5.r 4 = bits .or .u32 a b := by rw [h5]; exact k4_4
  have q5 : c5.pc = 20 := by
    rw [h5]
    show nextP c4 = _
    unfold nextP
    rw [q4]; rfl
  refine ⟨c5, by rw [run_go 4 e1, run_go 3 e2, run_go 2 e3, run_go 1 e4, run_go 0 e5]; rfl, ?_⟩
  rw [k5_3]
  rw [and_or a b ha hb]
theorem sum5 (a b : Int) (ha : 0 ≤ a ∧ a ≤ 4294967295) (hb : 0 ≤ b ∧ b ≤ 4294967295) : ∃ c, runP (cpuAB a b) (memOf p5) 8 = (c, 8, 0, memOf p5) ∧ c.r 3 = 1 := by
  have e1 := step_rr (c := (cpuAB a b)) (m := memOf p5) rfl g5_0 (by decide) (v := a) (rfl)
  obtain ⟨c1, h1⟩ : ∃ c1, c1 = (((cpuAB a b)).setR ((3 : Int)).toNat (a)).setPc (nextP (cpuAB a b)) := ⟨_, rfl⟩
  rw [← h1] at e1
  have k1_1 : c1.r 1 = a := by rw [h1]; rfl
  have k1_2 : c1.r 2 = b := by rw [h1]; rfl
  have k1_3 : c1.r 3 = a := by rw [h1]; rfl
  have q1 : c1.pc = 4 := by rw [h1]; rfl
  have e2 := step_rr (c := c1) (m := memOf p5) q1 g5_4 (by decide) (v := (if wrap32 a < wrap32 b then (1 : Int) else 0)) (by rw [show c1.r (((3 : Int)).toNat) = a from k1_3, show c1.r (((2 : Int)).toNat) = b from k1_2]; rfl)
  obtain ⟨c2, h2⟩ : ∃ c2, c2 = ((c1).setR ((3 : Int)).toNat ((if wrap32 a < wrap32 b then (1 : Int) else 0))).setPc (nextP c1) := ⟨_, rfl⟩
  rw [← h2] at e2
  have k2_1 : c2.r 1 = a := by rw [h2]; exact k1_1
  have k2_2 : c2.r 2 = b := by rw [h2]; exact k1_2
  have k2_3 : c2.r 3 = (if wrap32 a < wrap32 b then (1 : Int) else 0) := by rw [h2]; rfl
  have q2 : c2.pc = 8 := by
    rw [h2]
    show nextP c1 = _
    unfold nextP
    rw [q1]; rfl
  have e3 := step_rr (c := c2) (m := memOf p5) q2 g5_8 (by decide) (v := b) (by rw [show c2.r (((2 : Int)).toNat) = b from k2_2]; rfl)
  obtain ⟨c3, h3⟩ : ∃ c3, c3 = ((c2).setR ((4 : Int)).toNat (b)).setPc (nextP c2) := ⟨_, rfl⟩
  rw [← h3] at e3
  have k3_1 : c3.r 1 = a := by rw [h3]; exact k2_1
  have k3_2 : c3.r 2 = b := by rw [h3]; exact k2_2
  have k3_3 : c3.r 3 = (if wrap32 a < wrap32 b then (1 : Int) else 0) := by rw [h3]; exact k2_3
  have k3_4 : c3.r 4 = b := by rw [h3]; rfl
  have q3 : c3.pc = 12 := by
    rw [h3]
    show nextP c2 = _
    unfold nextP
    rw [q2]; rfl
  have e4 := step_rr (c := c3) (m := memOf p5) q3 g5_12 (by decide) (v := (if wrap32 b < wrap32 a then (1 : Int) else 0)) (by rw [show c3.r (((4 : Int)).toNat) = b from k3_4, show c3.r (((1 : Int)).toNat) = a from k3_1]; rfl)
  obtain ⟨c4, h4⟩ : ∃ c4, c4 = ((c3).setR ((4 : Int)).toNat ((if wrap32 b < wrap32 a then (1 : Int) else 0))).setPc (nextP c3) := ⟨_, rfl⟩
  rw [← h4] at e4
  have k4_1 : c4.r 1 = a := by rw [h4]; exact k3_1
  have k4_2 : c4.r 2 = b := by rw [h4]; exact k3_2
  have k4_3 : c4.r 3 = (if wrap32 a < wrap32 b then (1 : Int) else 0) := by rw [h4]; exact k3_3
  have k4_4 : c4.r 4 = (if wrap32 b < wrap32 a then (1 : Int) else 0) := by rw [h4]; rfl
  have q4 : c4.pc = 16 := by
    rw [h4]
    show nextP c3 = _
    unfold nextP
    rw [q3]; rfl
  have e5 := step_rr (c := c4) (m := memOf p5) q4 g5_16 (by decide) (v := a) (by rw [show c4.r (((1 : Int)).toNat) = a from k4_1]; rfl)
  obtain ⟨c5, h5⟩ : ∃ c5, c5 = ((c4).setR ((5 : Int)).toNat (a)).setPc (nextP c4) := ⟨_, rfl⟩
  rw [← h5] at e5
  have k5_1 : c5.r 1 = a := by rw [h5]; exact k4_1
  have k5_2 : c5.r 2 = b := by rw [h5]; exact k4_2
  have k5_3 : c5.r 3 = (if wrap32 a < wrap32 b then (1 : Int) else 0) := by rw [h5]; exact k4_3
  have k5_4 : c5.r 4 = (if wrap32 b < wrap32 a then (1 : Int) else 0) := by rw [h5]; exact k4_4
  have k5_5 : c5.r 5 = a := by rw [h5]; rfl
  have q5 : c5.pc = 20 := by
    rw [h5]
    show nextP c4 = _
    unfold nextP
    rw [q4]; rfl
  have e6 := step_rr (c := c5) (m := memOf p5) q5 g5_20 (by decide) (v := (if a = b then (1 : Int) else 0)) (by rw [show c5.r (((5 : Int)).toNat) = a from k5_5, show c5.r (((2 : Int)).toNat) = b from k5_2]; rfl)
  obtain ⟨c6, h6⟩ : ∃ c6, c6 = ((c5).setR ((5 : Int)).toNat ((if a = b then (1 : Int) else 0))).setPc (nextP c5) := ⟨_, rfl⟩
  rw [← h6] at e6
  have k6_1 : c6.r 1 = a := by rw [h6]; exact k5_1
  have k6_2 : c6.r 2 = b := by rw [h6]; exact k5_2
  have k6_3 : c6.r 3 = (if wrap32 a < wrap32 b then (1 : Int) else 0) := by rw [h6]; exact k5_3
  have k6_4 : c6.r 4 = (if wrap32 b < wrap32 a then (1 : Int) else 0) := by rw [h6]; exact k5_4
  have k6_5 : c6.r 5 = (if a = b then (1 : Int) else 0) := by rw [h6]; rfl
  have q6 : c6.pc = 24 := by
    rw [h6]
    show nextP c5 = _
    unfold nextP
    rw [q5]; rfl
  have e7 := step_rr (c := c6) (m := memOf p5) q6 g5_24 (by decide) (v := ((if wrap32 a < wrap32 b then (1 : Int) else 0) + (if wrap32 b < wrap32 a then (1 : Int) else 0)) % 4294967296) (by rw [show c6.r (((3 : Int)).toNat) = (if wrap32 a < wrap32 b then (1 : Int) else 0) from k6_3, show c6.r (((4 : Int)).toNat) = (if wrap32 b < wrap32 a then (1 : Int) else 0) from k6_4]; rfl)
  obtain ⟨c7, h7⟩ : ∃ c7, c7 = ((c6).setR ((3 : Int)).toNat (((if wrap32 a < wrap32 b then (1 : Int) else 0) + (if wrap32 b < wrap32 a then (1 : Int) else 0)) % 4294967296)).setPc (nextP c6) := ⟨_, rfl⟩
  rw [← h7] at e7
  have k7_1 : c7.r 1 = a := by rw [h7]; exact k6_1
  have k7_2 : c7.r 2 = b := by rw [h7]; exact k6_2
  have k7_3 : c7.r 3 = ((if wrap32 a < wrap32 b then (1 : Int) else 0) + (if wrap32 b < wrap32 a then (1 : Int) else 0)) % 4294967296 := by rw [h7]; rfl
  have k7_4 : c7.r 4 = (if wrap32 b < wrap32 a then (1 : Int) else 0) := by rw [h7]; exact k6_4
  have k7_5 : c7.r 5 = (if a = b then (1 : Int) else 0) := by rw [h7]; exact k6_5
  have q7 : c7.pc = 28 := by
    rw [h7]
    show nextP c6 = _
    unfold nextP
    rw [q6]; rfl
  have e8 := step_rr (c := c7) (m := memOf p5) q7 g5_28 (by decide) (v := (((if wrap32 a < wrap32 b then (1 : Int) else 0) + (if wrap32 b < wrap32 a then (1 : Int) else 0)) % 4294967296 + (if a = b then (1 : Int) else 0)) % 4294967296) (by rw [show c7.r (((3 : Int)).toNat) = ((if wrap32 a < wrap32 b then (1 : Int) else 0) + (if wrap32 b < wrap32 a then (1 : Int) else 0)) % 4294967296 from k7_3, show c7.r (((5 : Int)).toNat) = (if a = b then (1 : Int) else 0) from k7_5]; rfl)
  obtain ⟨c8, h8⟩ : ∃ c8, c8 = ((c7).setR ((3 : Int)).toNat ((((if wrap32 a < wrap32 b then (1 : Int) else 0) + (if wrap32 b < wrap32 a then (1 : Int) else 0)) % 4294967296 + (if a = b then (1 : Int) else 0)) % 4294967296)).setPc (nextP c7) := ⟨_, rfl⟩
  rw [← h8] at e8
  have k8_1 : c8.r 1 = a := by rw [h8]; exact k7_1
  have k8_2 : c8.r 2 = b := by rw [h8]; exact k7_2
  have k8_3 : c8.r 3 = (((if wrap32 a < wrap32 b then (1 : Int) else 0) + (if wrap32 b < wrap32 a then (1 : Int) else 0)) % 4294967296 + (if a = b then (1 : Int) else 0)) % 4294967296 := by rw [h8]; rfl
  have k8_4 : c8.r 4 = (if wrap32 b < wrap32 a then (1 : Int) else 0) := by rw [h8]; exact k7_4
  have k8_5 : c8.r 5 = (if a = b then (1 : Int) else 0) := by rw [h8]; exact k7_5
  have q8 : c8.pc = 32 := by
    rw [h8]
    show nextP c7 = _
    unfold nextP
    rw [q7]; rfl
  refine ⟨c8, by rw [run_go 7 e1, run_go 6 e2, run_go 5 e3, run_go 4 e4, run_go 3 e5, run_go 2 e6, run_go 1 e7, run_go 0 e8]; rfl, ?_⟩
  rw [k8_3]
  have w1 := wrap32_in ha.1 ha.2
  have w2 := wrap32_in hb.1 hb.2
  generalize wrap32 a = x at *
  generalize wrap32 b = y at *
  by_cases t1 : x < y
  · rw [if_pos t1, if_neg (show ¬ y < x by omega), if_neg (show ¬ a = b by intro h; subst h; omega)]; rfl
  · by_cases t2 : y < x
    · rw [if_neg t1, if_pos t2, if_neg (show ¬ a = b by intro h; subst h; omega)]; rfl
    · have hab : a = b := by split at w1 <;> split at w2 <;> omega
      rw [if_neg t1, if_neg t2, if_pos hab]; rfl
end Go.Proofs.YtoglmemmdolbmaaDoor
