/-
  Walks over package pages: Clear.
-/
import Derived.Test.YtlecfdchmcghlaaPages4
namespace Go.Proofs.Ytlecfdchmcghlaa
open Go.RowKit
set_option linter.unusedVariables false

/-- An entry's cells are written. -/
def World.entrySet (w : World) (b : Nat) (u0 u1 u2 u3 u4 : Value) : World :=
  ((((w.setCell ⟨b, 0, none⟩ u0).setCell ⟨b, 1, none⟩ u1).setCell ⟨b, 2, none⟩ u2).setCell ⟨b, 3, none⟩ u3).setCell ⟨b, 4, none⟩ u4
theorem Blk.entrySet {w : World} {b : Nat} {t : TypeId} {x : E} (h : Blk w b t x.arr) (u0 u1 u2 u3 u4 : Value) : Blk (World.entrySet w b u0 u1 u2 u3 u4) b t #[u0, u1, u2, u3, u4] := by
  have := ((((h.set_ 0 u0).set_ 1 u1).set_ 2 u2).set_ 3 u3).set_ 4 u4
  simp only [E.arr] at this
  simpa [World.entrySet] using this
theorem Blk.entryFar {w : World} {b g : Nat} {t : TypeId} {cs : Array Value} (h : Blk w g t cs) (hne : g ≠ b) (u0 u1 u2 u3 u4 : Value) : Blk (World.entrySet w b u0 u1 u2 u3 u4) g t cs :=
  ((((h.far (p := ⟨b, _, none⟩) hne _).far (p := ⟨b, _, none⟩) hne _).far (p := ⟨b, _, none⟩) hne _).far (p := ⟨b, _, none⟩) hne _).far (p := ⟨b, _, none⟩) hne _
theorem But.entrySet {S : Nat → Prop} {a w : World} (h : But S a w) {b : Nat} (hb : S b ∨ a.heap.size ≤ b) (u0 u1 u2 u3 u4 : Value) : But S a (World.entrySet w b u0 u1 u2 u3 u4) :=
  ((((h.setCell (p := ⟨b, _, none⟩) hb _).setCell (p := ⟨b, _, none⟩) hb _).setCell (p := ⟨b, _, none⟩) hb _).setCell (p := ⟨b, _, none⟩) hb _).setCell (p := ⟨b, _, none⟩) hb _

theorem partArr_size (m : M) (i : Nat) : (partArr m i).size = 48 := by simp [partArr, partList, slotList_len]
theorem info_part (m : M) (i : Nat) : (Try.prog.info? 105).map (·.size) = some (partArr m i).size := by rw [partArr_size]; kernel_rfl
/-- Has a part no entry? -/
def emp (m : M) (i : Nat) : Bool := (m (8*i)).isNone && (m (8*i+1)).isNone && (m (8*i+2)).isNone && (m (8*i+3)).isNone && (m (8*i+4)).isNone && (m (8*i+5)).isNone && (m (8*i+6)).isNone && (m (8*i+7)).isNone
theorem emp_none {m : M} {i : Nat} (h : emp m i = true) {j : Nat} (hj : j < 8) : m (8 * i + j) = none := by
  simp only [emp, Bool.and_eq_true, Option.isNone_iff_eq_none] at h
  rcases eight hj with rfl | rfl | rfl | rfl | rfl | rfl | rfl | rfl
  · exact h.1.1.1.1.1.1.1
  · exact h.1.1.1.1.1.1.2
  · exact h.1.1.1.1.1.2
  · exact h.1.1.1.1.2
  · exact h.1.1.1.2
  · exact h.1.1.2
  · exact h.1.2
  · exact h.2
theorem emp_some {m : M} {i : Nat} (h : emp m i = false) : ∃ j, j < 8 ∧ (m (8 * i + j)).isSome = true := by
  simp only [emp, Bool.and_eq_false_iff] at h
  rcases h with ((((((h | h) | h) | h) | h) | h) | h) | h
  · exact ⟨0, by omega, by cases hm : m (8*i) <;> simp_all⟩
  · exact ⟨1, by omega, by cases hm : m (8*i+1) <;> simp_all⟩
  · exact ⟨2, by omega, by cases hm : m (8*i+2) <;> simp_all⟩
  · exact ⟨3, by omega, by cases hm : m (8*i+3) <;> simp_all⟩
  · exact ⟨4, by omega, by cases hm : m (8*i+4) <;> simp_all⟩
  · exact ⟨5, by omega, by cases hm : m (8*i+5) <;> simp_all⟩
  · exact ⟨6, by omega, by cases hm : m (8*i+6) <;> simp_all⟩
  · exact ⟨7, by omega, by cases hm : m (8*i+7) <;> simp_all⟩

section
variable {w : World} {bt : Nat} {q : Nat → Option Nat} {m : M}
/-- A slot is emptied, and others of its part are taken. -/
theorem Tab.take {w2 : World} (h : Tab w bt q m) {p : Nat} (hp : p < 64) {pb : Nat} (hq : q (p / 8) = some pb) (he : emp (upd m p none) (p / 8) = false)
    (ht : Blk w2 bt 61 (tabArr q)) (hpp : Blk w2 pb 105 (partArr (upd m p none) (p / 8)))
    (ho : ∀ g cs, g ≠ pb → Blk w g 105 cs → Blk w2 g 105 cs) : Tab w2 bt q (upd m p none) := by
  refine ⟨ht, fun i b hi hb => ?_, fun i b hi hb => ?_, fun i j hi hn hj => ?_, h.inj⟩
  · by_cases hip : i = p / 8
    · subst hip
      rw [hq] at hb; cases hb
      exact hpp
    · have hne : b ≠ pb := by rintro rfl; exact hip (h.inj _ _ _ hi (div8 p hp) hb hq)
      have := ho b _ hne (h.part _ _ hi hb)
      unfold partArr at this ⊢
      rw [partList_far m i none (fun e => hip e.symm)]
      exact this
  · by_cases hip : i = p / 8
    · subst hip
      exact emp_some he
    · obtain ⟨j, hj, hs⟩ := h.some_ i b hi hb
      exact ⟨j, hj, by rw [upd_other m none (by omega)]; exact hs⟩
  · have hip : i ≠ p / 8 := by rintro rfl; rw [hq] at hn; cases hn
    rw [upd_other m none (by omega)]
    exact h.none_ i j hi hn hj

/-- The last slot of a part is emptied, and the part is taken away. -/
theorem Tab.drop {w2 : World} (h : Tab w bt q m) {p : Nat} (hp : p < 64) {pb : Nat} (hq : q (p / 8) = some pb) (he : emp (upd m p none) (p / 8) = true)
    (ht : Blk w2 bt 61 (tabArr (qset q (p / 8) none)))
    (ho : ∀ g cs, g ≠ pb → Blk w g 105 cs → Blk w2 g 105 cs) : Tab w2 bt (qset q (p / 8) none) (upd m p none) := by
  refine ⟨ht, fun i b hi hb => ?_, fun i b hi hb => ?_, fun i j hi hn hj => ?_, fun i j b hi hj hb hb' => ?_⟩
  · have hip : i ≠ p / 8 := by rintro rfl; simp [qset] at hb
    simp only [qset, if_neg hip] at hb
    have hne : b ≠ pb := by rintro rfl; exact hip (h.inj _ _ _ hi (div8 p hp) hb hq)
    have := ho b _ hne (h.part _ _ hi hb)
    unfold partArr at this ⊢
    rw [partList_far m i none (fun e => hip e.symm)]
    exact this
  · have hip : i ≠ p / 8 := by rintro rfl; simp [qset] at hb
    simp only [qset, if_neg hip] at hb
    obtain ⟨j, hj, hs⟩ := h.some_ i b hi hb
    exact ⟨j, hj, by rw [upd_other m none (by omega)]; exact hs⟩
  · by_cases hip : i = p / 8
    · subst hip
      exact emp_none he hj
    · simp only [qset, if_neg hip] at hn
      rw [upd_other m none (by omega)]
      exact h.none_ i j hi hn hj
  · have hip : i ≠ p / 8 := by rintro rfl; simp [qset] at hb
    have hjp : j ≠ p / 8 := by rintro rfl; simp [qset] at hb'
    simp only [qset, if_neg hip, if_neg hjp] at hb hb'
    exact h.inj _ _ _ hi hj hb hb'
end

section
variable {w : World} {bt : Nat} {q : Nat → Option Nat} {m : M}

/-- Clear, whatever page. -/
def clearM (m : M) (p : Int) : M := if 0 ≤ p ∧ p < 64 then upd m p.toNat none else m
end
end Go.Proofs.Ytlecfdchmcghlaa
