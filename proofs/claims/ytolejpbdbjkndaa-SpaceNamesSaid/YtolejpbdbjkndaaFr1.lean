/-
  Frames in memory: a block with the slice, a block with the rows. Condition: none.
-/
import Derived.Test.YtolejpbdbjkndaaFrPl
namespace Go.Proofs.Ytolejpbdbjkndaa
open Go.RowKit
set_option linter.unusedVariables false

/-- Frames at block fb, their rows in block lb. -/
structure FrAt (w : World) (fb lb cap : Nat) (F : Fs) : Prop where
  p : Blk w fb 69 #[.slice (some ⟨lb, 0, none⟩) F.n cap]
  l : ∃ more, Blk w lb 99 ((frows F).flatten ++ more).toArray
  ne : fb ≠ lb
  cap : F.n ≤ cap
  ok : F.Ok
section
variable {w w' : World} {fb lb cap : Nat} {F : Fs}
theorem FrAt.lt (h : FrAt w fb lb cap F) : fb < w.heap.size ∧ lb < w.heap.size := by
  obtain ⟨m, hm⟩ := h.l
  exact ⟨h.p.lt, hm.lt⟩
theorem FrAt.below (h : FrAt w fb lb cap F) (hb : Below w.heap.size w w') : FrAt w' fb lb cap F := by
  obtain ⟨m, hm⟩ := h.l
  exact ⟨h.p.below hb h.p.lt, ⟨m, hm.below hb hm.lt⟩, h.ne, h.cap, h.ok⟩
theorem FrAt.but {S : Nat → Prop} (h : FrAt w fb lb cap F) (hb : But S w w') (h1 : ¬ S fb) (h2 : ¬ S lb) : FrAt w' fb lb cap F := by
  obtain ⟨m, hm⟩ := h.l
  exact ⟨h.p.but hb h1, ⟨m, hm.but hb h2⟩, h.ne, h.cap, h.ok⟩
theorem FrAt.drew (h : FrAt w fb lb cap F) : FrAt w.drew fb lb cap F := h.below (Below.refl _ _).drew
theorem frow_cell (h : FrAt w fb lb cap F) {k j : Nat} (hk : k < F.n) (hj : j < 65) : w.cell? ⟨lb, k * 65 + j, none⟩ = (frow F k)[j]? := by
  obtain ⟨m, hm⟩ := h.l
  have hl := frow_len h.ok k
  have h1 := flat_get (frows F) k j (frow F k) (frows_all h.ok) hj (frows_get F hk)
  rw [hm.cell, List.getElem?_toArray]
  rw [List.getElem?_eq_getElem (show j < (frow F k).length by omega)] at h1 ⊢
  rw [List.getElem?_append_left (List.getElem?_eq_some_iff.1 h1).1]
  exact h1
theorem FrAt.byte (h : FrAt w fb lb cap F) {k j : Nat} (hk : k < F.n) (hj : j < 64) : w.cell? ⟨lb, k * 65 + j, none⟩ = some (.int .u8 ((F.b k).getD j 0)) :=
  (frow_cell h hk (by omega)).trans (frow_byte h.ok k hj)
theorem FrAt.refs (h : FrAt w fb lb cap F) {k : Nat} (hk : k < F.n) : w.cell? ⟨lb, k * 65 + 64, none⟩ = some (.int .i64 (F.r k)) :=
  (frow_cell h hk (by omega)).trans (frow_refs h.ok k)
theorem FrAt.frozen (h : FrAt w fb lb cap F) (i : Nat) : w.frozen? ⟨lb, i, none⟩ = false := by
  obtain ⟨m, hm⟩ := h.l
  exact hm.frozen i
theorem FrAt.slice (h : FrAt w fb lb cap F) : w.cell? ⟨fb, 0, none⟩ = some (.slice (some ⟨lb, 0, none⟩) F.n cap) := h.p.cell 0
theorem frow_in (h : FrAt w fb lb cap F) {k j : Nat} (hk : k < F.n) (hj : j < 65) : k * 65 + j < (frows F).flatten.length := by
  have hl := frow_len h.ok k
  have h1 := flat_get (frows F) k j (frow F k) (frows_all h.ok) hj (frows_get F hk)
  rw [List.getElem?_eq_getElem (show j < (frow F k).length by omega)] at h1
  exact (List.getElem?_eq_some_iff.1 h1).1
theorem FrAt.put (h : FrAt w fb lb cap F) {k j : Nat} (hk : k < F.n) (hj : j < 65) (v : Value) {F' : Fs} (hF : (frows F).set k ((frow F k).set j v) = frows F') (hn : F'.n = F.n) (hok : F'.Ok) :
    FrAt (w.setCell ⟨lb, k * 65 + j, none⟩ v) fb lb cap F' := by
  obtain ⟨m, hm⟩ := h.l
  refine ⟨by rw [hn]; exact h.p.far (by show fb ≠ lb; exact h.ne) v, ⟨m, ?_⟩, h.ne, by rw [hn]; exact h.cap, hok⟩
  have h1 := hm.set_ (k * 65 + j) v
  rw [List.setIfInBounds_toArray, List.set_append_left _ _ (frow_in h hk hj), flat_set v (frows F) k j (frow F k) (frows_all h.ok) hj (frows_get F hk), hF] at h1
  exact h1
end
end Go.Proofs.Ytolejpbdbjkndaa
