/-
  The document's memory instructions together. Condition: the bytes lie in a block, registers are words.
-/
import Derived.Test.YtoglmemmdolbmaaDoorCr6
namespace Go.Proofs.YtoglmemmdolbmaaDoor
open Go.RowKit
set_option linter.unusedVariables false
set_option linter.unusedSimpArgs false
attribute [local irreducible] floatOfInt wz

theorem OutR.of_below {w w' : World} {A : Option Addr} {B cap : Nat} {c : Cp} {m : List Int} {t : Int} {e : Ending} (hM : ByIn w A B cap m) (he : e = .returned (.tuple #[.agg c.arr, .int .i64 t])) (hb : Below w.heap.size w w') : OutR w A B cap (c, t, m) e w' := ⟨he, hM.below hb, But.of_below hb⟩
/-- The document's memory does what the program's does. -/
theorem rmem_any {w : World} {A : Option Addr} {B cap : Nat} {c : Cp} {m : List Int} (hM : ByIn w A B cap m) (hc : c.Ok) (op : Int) (a b : Nat) (im : Int) (hop : 15 ≤ op ∧ op ≤ 18) (ht : touchP c m = touchX c op b im) (ha : a < 8) :
    Calls Tryd.prog 37 #[.agg #[.int .i64 op, .int .i64 (a : Int), .int .i64 (b : Int), .int .i64 im], .agg c.arr, .slice A m.length cap] w (OutR w A B cap (execP c m op a b im)) := by
  have hat := at_lt c b im
  unfold touchX at ht
  rw [if_pos hop] at ht
  unfold execP
  generalize atP c b im = t at *
  rcases (show op = 15 ∨ op = 16 ∨ op = 17 ∨ op = 18 by omega) with rfl | rfl | rfl | rfl
  · rw [if_neg (by decide), decide_eq_false (by decide)] at ht
    rw [if_neg (by decide), if_pos rfl]
    by_cases hin : t + 4 ≤ m.length
    · have hw : ∃ v, wordM m t = some v := ⟨_, by unfold wordM; exact if_pos hin⟩
      obtain ⟨v, hv⟩ := hw
      by_cases h4 : t % 4 = 0
      · rw [if_pos h4, hv]
        exact rmem_lw hM hc 15 a b im t ht hat rfl ha hin (by omega) v hv _ _ rfl rfl
      · rw [if_neg h4]
        exact (rmem_odd hM hc 15 a b im t false ht hat hin (by omega)).mono fun e w' ⟨he, hb⟩ => OutR.of_below hM he hb
    · have hv : wordM m t = none := by unfold wordM; exact if_neg hin
      rw [hv]
      have hx : (if t % 4 = 0 then (c, 2, m) else (c, 2, m)) = ((c, 2, m) : Cp × Int × List Int) := by split <;> rfl
      simp only [hx]
      exact (rmem_far hM hc 15 a b im t 4 false ht (.inr rfl) hat (by omega)).mono fun e w' ⟨he, hb⟩ => OutR.of_below hM he hb
  · rw [if_neg (by decide), decide_eq_true (by decide)] at ht
    rw [if_neg (by decide), if_neg (by decide), if_pos rfl]
    by_cases hin : t + 4 ≤ m.length
    · by_cases h4 : t % 4 = 0
      · rw [if_pos ⟨h4, hin⟩, ← wrI_four m t (c.r a) (hc.r a).1 (hc.r a).2]
        exact rmem_put4 hM hc 16 a b im t ht hat rfl ha hin (by omega) _ rfl
      · rw [if_neg (fun h => h4 h.1)]
        exact (rmem_odd hM hc 16 a b im t true ht hat hin (by omega)).mono fun e w' ⟨he, hb⟩ => OutR.of_below hM he hb
    · rw [if_neg (fun h => hin h.2)]
      exact (rmem_far hM hc 16 a b im t 4 true ht (.inr rfl) hat (by omega)).mono fun e w' ⟨he, hb⟩ => OutR.of_below hM he hb
  · rw [if_pos (by decide), decide_eq_false (by decide)] at ht
    rw [if_neg (by decide), if_neg (by decide), if_neg (by decide), if_pos rfl]
    by_cases hin : t + 1 ≤ m.length
    · rw [if_pos (by omega)]
      exact rmem_lb hM hc 17 a b im t ht hat rfl ha hin _ rfl _ _ rfl rfl
    · rw [if_neg (by omega)]
      exact (rmem_far hM hc 17 a b im t 1 false ht (.inl rfl) hat (by omega)).mono fun e w' ⟨he, hb⟩ => OutR.of_below hM he hb
  · rw [if_pos (by decide), decide_eq_true (by decide)] at ht
    rw [if_neg (by decide), if_neg (by decide), if_neg (by decide), if_neg (by decide), if_pos rfl]
    by_cases hin : t + 1 ≤ m.length
    · rw [if_pos (by omega), ← wrI_one]
      exact rmem_put1 hM hc 18 a b im t ht hat rfl ha hin _ rfl
    · rw [if_neg (by omega)]
      exact (rmem_far hM hc 18 a b im t 1 true ht (.inl rfl) hat (by omega)).mono fun e w' ⟨he, hb⟩ => OutR.of_below hM he hb
theorem rParts_z {w : World} (z : Nat × Nat) : Calls Tryd.prog 42 #[.complex .f64 z.1 z.2] w fun e w' => e = .returned (.tuple #[.int .i64 (zre z), .int .i64 (zim z), .bool (isP z.1 z.2)]) ∧ w = w' := rParts_any z.1 z.2
theorem rWords_z {w : World} (z : Nat × Nat) : Calls Tryd.prog 39 #[.complex .f64 z.1 z.2] w fun e w' => e = .returned (.tuple #[.int .u32 (zre z % 4294967296), .int .u32 (zim z % 4294967296)]) ∧ w = w' := rWords_any z.1 z.2
theorem zre_range (z : Nat × Nat) : -524288 ≤ zim z ∧ zim z ≤ 524287 := (re_range z.1 z.2).2
end Go.Proofs.YtoglmemmdolbmaaDoor
