/-
  Calls, jumps and memory in plain words: what the programs of CoreCalls come to. Condition: words are words.
-/
import Derived.Test.YtoglmemmdolbmaaDoorCoU0
namespace Go.Proofs.YtoglmemmdolbmaaDoor
open Go.RowKit Go.Shelf
set_option linter.unusedVariables false

theorem step_jj {c : Cp} {m : List Int} {pc op a b im : Int} (hpc : c.pc = pc) (hf : fetchAt pc m = (⟨op, a, b, im⟩, 0)) (h1 : 19 ≤ op) (h2 : op ≤ 23) : stepP c m = ((jumpP c op a.toNat im).2.setPc (jumpP c op a.toNat im).1, 0, m) :=
  (step_lit hpc hf).trans (exec_jump c m h1 h2)
def p6 : List UInt8 := [106, 97, 108, 32, 55, 32, 115, 117, 98, 10, 115, 121, 115, 10, 115, 117, 98, 58, 10, 106, 114, 32, 55, 10]
theorem g6_0 : fetchAt 0 (memOf p6) = (⟨22, 7, 0, 1⟩, 0) := by decide +kernel
theorem g6_4 : fetchAt 4 (memOf p6) = (⟨24, 0, 0, 0⟩, 0) := by decide +kernel
theorem g6_8 : fetchAt 8 (memOf p6) = (⟨23, 7, 0, 0⟩, 0) := by decide +kernel
theorem calls1 : ∃ c, runP cpu0 (memOf p6) 9 = (c, 2, 1, memOf p6) ∧ c.pc = 4 ∧ c.r 7 = 4 := by
  have e1 := step_jj (c := cpu0) rfl g6_0 (by decide) (by decide)
  obtain ⟨c1, h1⟩ : ∃ c1, c1 = (jumpP cpu0 22 (7 : Int).toNat 1).2.setPc (jumpP cpu0 22 (7 : Int).toNat 1).1 := ⟨_, rfl⟩
  rw [← h1] at e1
  have q1 : c1.pc = 8 := by rw [h1]; rfl
  have k1 : c1.r 7 = 4 := by rw [h1]; rfl
  have e2 := step_jj (c := c1) q1 g6_8 (by decide) (by decide)
  obtain ⟨c2, h2⟩ : ∃ c2, c2 = (jumpP c1 23 (7 : Int).toNat 0).2.setPc (jumpP c1 23 (7 : Int).toNat 0).1 := ⟨_, rfl⟩
  rw [← h2] at e2
  have q2 : c2.pc = 4 := by rw [h2]; show c1.r 7 = 4; exact k1
  have k2 : c2.r 7 = 4 := by rw [h2]; show c1.r 7 = 4; exact k1
  have e3 : stepP c2 (memOf p6) = (c2, 1, memOf p6) := step_lit (c := c2) q2 g6_4
  exact ⟨c2, by rw [run_go 8 e1, run_go 7 e2, run_at 6 e3 (by decide)], q2, k2⟩
/-- One register is set. -/
def cpuK (k : Nat) (v : Int) : Cp := ⟨fun i => if i = k then v else 0, fun _ => (0, 0), 0⟩
theorem cpuK_ok {k : Nat} {v : Int} (hv : 0 ≤ v ∧ v ≤ 4294967295) : (cpuK k v).Ok := ⟨fun i => by
  show 0 ≤ (if i = k then v else 0) ∧ (if i = k then v else 0) ≤ 4294967295
  split
  · exact hv
  · decide, Int.le_refl 0, by show (0 : Int) ≤ 4294967295; decide⟩
def jzT (k : Nat) : List UInt8 := [106, 122, 32] ++ [UInt8.ofNat (48 + k)] ++ [32, 52, 10]
def jnzT (k : Nat) : List UInt8 := [106, 110, 122, 32] ++ [UInt8.ofNat (48 + k)] ++ [32, 52, 10]
theorem fetch_jz : ∀ k : Fin 6, fetchAt 0 (memOf (jzT k.1)) = (⟨20, (k.1 : Int), 0, 4⟩, 0) ∧ fetchAt 0 (memOf (jnzT k.1)) = (⟨21, (k.1 : Int), 0, 4⟩, 0) := by decide +kernel
theorem step_jz {k : Nat} (hk : k < 6) (v : Int) : ∃ c d, stepP (cpuK k v) (memOf (jzT k)) = (c, 0, memOf (jzT k)) ∧ stepP (cpuK k v) (memOf (jnzT k)) = (d, 0, memOf (jnzT k)) ∧ c.pc = (if v = 0 then 20 else 4) ∧ d.pc = (if v = 0 then 4 else 20) := by
  obtain ⟨f1, f2⟩ := fetch_jz ⟨k, hk⟩
  have e1 := step_jj (c := cpuK k v) rfl f1 (by decide) (by decide)
  have e2 := step_jj (c := cpuK k v) rfl f2 (by decide) (by decide)
  have hr : (cpuK k v).r ((k : Int)).toNat = v := by
    show (if ((k : Int)).toNat = k then v else 0) = v
    rw [if_pos (by omega)]
  refine ⟨_, _, e1, e2, ?_, ?_⟩
  · show (jumpP (cpuK k v) 20 ((k : Int)).toNat 4).1 = _
    unfold jumpP
    rw [if_neg (by decide), if_neg (by decide), hr]
    by_cases hv : v = 0
    · rw [if_pos (.inr (.inl ⟨rfl, hv⟩)), if_pos hv]; rfl
    · rw [if_neg (by
        intro h
        rcases h with h | ⟨_, h⟩ | ⟨h, _⟩
        · exact absurd h (by decide)
        · exact hv h
        · exact absurd h (by decide)), if_neg hv]; rfl
  · show (jumpP (cpuK k v) 21 ((k : Int)).toNat 4).1 = _
    unfold jumpP
    rw [if_neg (by decide), if_neg (by decide), hr]
    by_cases hv : v = 0
    · rw [if_neg (by
        intro h
        rcases h with h | ⟨h, _⟩ | ⟨_, h⟩
        · exact absurd h (by decide)
        · exact absurd h (by decide)
        · exact h hv), if_pos hv]; rfl
    · rw [if_pos (.inr (.inr ⟨rfl, hv⟩)), if_neg hv]; rfl

/-! ## memory -/
def p9 : List UInt8 := [115, 119, 32, 49, 32, 50, 32, 48, 10, 108, 119, 32, 51, 32, 50, 32, 48, 10, 108, 98, 32, 52, 32, 50, 32, 51, 10, 115, 121, 115, 10]
def memC : List Int := memOf p9 ++ List.replicate 100 0
theorem memC_len : memC.length = 116 := by decide +kernel
theorem g9_0 : fetchAt 0 memC = (⟨16, 1, 2, 0⟩, 0) := by decide +kernel
theorem g9_4 : fetchAt 4 memC = (⟨15, 3, 2, 0⟩, 0) := by decide +kernel
theorem g9_8 : fetchAt 8 memC = (⟨17, 4, 2, 3⟩, 0) := by decide +kernel
theorem g9_12 : fetchAt 12 memC = (⟨24, 0, 0, 0⟩, 0) := by decide +kernel
theorem getD_set (m : List Int) {a : Nat} (v : Int) (h : a < m.length) : (m.set a v).getD a 0 = v := by
  rw [List.getD_eq_getElem?_getD, List.getElem?_set_self h]; rfl
theorem set4_far (m : List Int) {a i : Nat} (v : Int) (h : i < a) : (set4 m a v).getD i 0 = m.getD i 0 := by
  unfold set4
  rw [getD_set_ne _ _ (by omega), getD_set_ne _ _ (by omega), getD_set_ne _ _ (by omega), getD_set_ne _ _ (by omega)]
theorem set4_at (m : List Int) {a : Nat} (v : Int) (h : a + 4 ≤ m.length) : (set4 m a v).getD a 0 = v % 256 ∧ (set4 m a v).getD (a + 1) 0 = v / 256 % 256 ∧ (set4 m a v).getD (a + 2) 0 = v / 65536 % 256 ∧ (set4 m a v).getD (a + 3) 0 = v / 16777216 := by
  unfold set4
  refine ⟨?_, ?_, ?_, ?_⟩
  · rw [getD_set_ne _ _ (by omega), getD_set_ne _ _ (by omega), getD_set_ne _ _ (by omega), getD_set _ _ (by omega)]
  · rw [getD_set_ne _ _ (by omega), getD_set_ne _ _ (by omega), getD_set _ _ (by simp only [List.length_set]; omega)]
  · rw [getD_set_ne _ _ (by omega), getD_set _ _ (by simp only [List.length_set]; omega)]
  · rw [getD_set _ _ (by simp only [List.length_set]; omega)]
theorem word_set4 (m : List Int) {a : Nat} {v : Int} (hv : 0 ≤ v ∧ v ≤ 4294967295) (h : a + 4 ≤ m.length) : wordM (set4 m a v) a = some v := by
  obtain ⟨h0, h1, h2, h3⟩ := set4_at m v h
  unfold wordM
  rw [set4_len, if_pos h, h0, h1, h2, h3]
  unfold w4
  congr 1; omega
theorem fetch_far {m : List Int} {q : Nat} {v pc : Int} (hpc : 0 ≤ pc ∧ pc + 4 ≤ q) : fetchAt pc (set4 m q v) = fetchAt pc m := by
  unfold fetchAt
  rw [word_same (set4_len m q v) (fun i h1 h2 h3 => set4_far m v (by omega))]
def cpuVQ (v q : Int) : Cp := ⟨fun i => if i = 1 then v else if i = 2 then q else 0, fun _ => (0, 0), 0⟩
theorem calls3 {v : Int} (hv : 0 ≤ v ∧ v ≤ 4294967295) {k : Nat} (hk : k < 20) : ∃ d m, runP (cpuVQ v (16 + 4 * k)) memC 9 = (d, 3, 1, m) ∧ d.r 3 = v ∧ d.r 4 = v / 16777216 := by
  obtain ⟨q, hq⟩ : ∃ q : Nat, q = 16 + 4 * k := ⟨_, rfl⟩
  have hqi : (16 + 4 * (k : Int)) = (q : Int) := by omega
  rw [hqi]
  have hl := memC_len
  have hat : ∀ c : Cp, c.r 2 = (q : Int) → atP c 2 0 = q := fun c h => by unfold atP; rw [h]; omega
  have e1 := step_lit (c := cpuVQ v q) rfl g9_0
  rw [show execP (cpuVQ v q) memC 16 (1 : Int).toNat (2 : Int).toNat 0 = ((cpuVQ v q).setPc (nextP (cpuVQ v q)), 0, set4 memC q v) from by
    unfold execP
    rw [if_neg (by decide), if_neg (by decide), if_pos rfl, show (2 : Int).toNat = 2 from rfl, hat _ rfl, if_pos ⟨by omega, by omega⟩]; rfl] at e1
  obtain ⟨c1, h1⟩ : ∃ c1, c1 = (cpuVQ v q).setPc (nextP (cpuVQ v q)) := ⟨_, rfl⟩
  rw [← h1] at e1
  have q1 : c1.pc = 4 := by rw [h1]; rfl
  have r1 : c1.r 2 = (q : Int) := by rw [h1]; rfl
  have e2 := step_lit (c := c1) (m := set4 memC q v) q1 ((fetch_far ⟨by decide, by omega⟩).trans g9_4)
  rw [show execP c1 (set4 memC q v) 15 (3 : Int).toNat (2 : Int).toNat 0 = ((c1.setR 3 v).setPc (nextP c1), 0, set4 memC q v) from by
    unfold execP
    rw [if_neg (by decide), if_pos rfl, show (2 : Int).toNat = 2 from rfl, hat _ r1, if_pos (by omega), word_set4 memC hv (by omega)]; rfl] at e2
  obtain ⟨c2, h2⟩ : ∃ c2, c2 = (c1.setR 3 v).setPc (nextP c1) := ⟨_, rfl⟩
  rw [← h2] at e2
  have q2 : c2.pc = 8 := by rw [h2]; show nextP c1 = 8; unfold nextP; rw [q1]; rfl
  have r2 : c2.r 2 = (q : Int) := by rw [h2]; exact r1
  have s2 : c2.r 3 = v := by rw [h2]; rfl
  have ha2 : atP c2 2 3 = q + 3 := by unfold atP; rw [r2]; omega
  have e3 := step_lit (c := c2) (m := set4 memC q v) q2 ((fetch_far ⟨by decide, by omega⟩).trans g9_8)
  rw [show execP c2 (set4 memC q v) 17 (4 : Int).toNat (2 : Int).toNat 3 = ((c2.setR 4 (v / 16777216)).setPc (nextP c2), 0, set4 memC q v) from by
    unfold execP
    rw [if_neg (by decide), if_neg (by decide), if_neg (by decide), if_pos rfl, show (2 : Int).toNat = 2 from rfl, ha2, if_pos (by rw [set4_len]; omega), (set4_at memC v (by omega)).2.2.2]; rfl] at e3
  obtain ⟨c3, h3⟩ : ∃ c3, c3 = (c2.setR 4 (v / 16777216)).setPc (nextP c2) := ⟨_, rfl⟩
  rw [← h3] at e3
  have q3 : c3.pc = 12 := by rw [h3]; show nextP c2 = 12; unfold nextP; rw [q2]; rfl
  have e4 : stepP c3 (set4 memC q v) = (c3, 1, set4 memC q v) := step_lit (c := c3) (m := set4 memC q v) q3 ((fetch_far ⟨by decide, by omega⟩).trans g9_12)
  refine ⟨c3, _, by rw [run_go 8 e1, run_go 7 e2, run_go 6 e3, run_at 5 e4 (by decide)], ?_, ?_⟩
  · rw [h3]; exact s2
  · rw [h3]; rfl
end Go.Proofs.YtoglmemmdolbmaaDoor
