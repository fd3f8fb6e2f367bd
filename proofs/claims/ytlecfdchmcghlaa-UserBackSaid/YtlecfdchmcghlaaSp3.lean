/-
  Map of spaces, where it may be. Condition: the space and the frames lie in blocks of their own.
-/
import Derived.Test.YtlecfdchmcghlaaSpPl
namespace Go.Proofs.Ytlecfdchmcghlaa
open Go.RowKit Go.Shelf
set_option linter.unusedVariables false
set_option linter.unusedSimpArgs false
attribute [local go_sem] Oper.semAt_some

/-- Frames and one space, all in blocks of their own. -/
structure FS (w : World) (fb lb cap : Nat) (F : Fs) (sb bt : Nat) (q : Nat → Option Nat) (m : M) : Prop where
  f : FrAt w fb lb cap F
  s : SpAt w fb sb bt q m
  d1 : ¬ Own bt q fb
  d2 : ¬ Own bt q lb
  d3 : sb ≠ lb
  d4 : sb ≠ fb
/-- Behind a call: frames and space, what else lay lies. -/
def FOut (w : World) (fb lb cap : Nat) (F : Fs) (sb bt : Nat) (q : Nat → Option Nat) (m : M) (w' : World) : Prop :=
  ∃ q', FS w' fb lb cap F sb bt q' m ∧ But (fun k => k = lb ∨ Own bt q k) w w' ∧ ∀ k, Own bt q' k → Own bt q k ∨ w.heap.size ≤ k
section
variable {w W W' : World} {fb lb cap : Nat} {F : Fs} {sb bt : Nat} {q : Nat → Option Nat} {m : M}
theorem FOut.start (h : FS w fb lb cap F sb bt q m) : FOut w fb lb cap F sb bt q m w := ⟨q, h, But.refl _ _, fun k hk => .inl hk⟩
theorem FS.below (h : FS w fb lb cap F sb bt q m) (hb : Below w.heap.size w W) : FS W fb lb cap F sb bt q m := ⟨h.f.below hb, h.s.below hb, h.d1, h.d2, h.d3, h.d4⟩
theorem Tab.but {S : Nat → Prop} (h : Tab w bt q m) (hb : But S w W) (hS : ∀ k, Own bt q k → ¬ S k) : Tab W bt q m :=
  ⟨h.top.but hb (hS _ (.inl rfl)), fun i b hi hq => (h.part i b hi hq).but hb (hS _ (.inr ⟨i, hi, hq⟩)), h.some_, h.none_, h.inj⟩
theorem FOut.frames (h : FOut w fb lb cap F sb bt q m W) {F' : Fs} (hf : FrOut W W' fb lb cap F') : FOut w fb lb cap F' sb bt q m W' := by
  obtain ⟨q', hs, hb, hq⟩ := h
  obtain ⟨hf1, hf2⟩ := hf
  refine ⟨q', ⟨hf1, ⟨hs.s.p.but hf2 hs.d3, hs.s.t.but hf2 (fun k hk e => hs.d2 (by have e : k = lb := e; rw [← e]; exact hk)), hs.s.ne⟩, hs.d1, hs.d2, hs.d3, hs.d4⟩, hb.trans hf2 (fun i hi => .inl (.inl hi)), hq⟩
theorem FOut.table {q' : Nat → Option Nat} (hs : FS W fb lb cap F sb bt q' m) (hb : But (fun k => k = lb ∨ Own bt q k) w W) (hq : ∀ k, Own bt q' k → Own bt q k ∨ w.heap.size ≤ k) {m' : M} {W'' : World} (hm : Mut W bt q' m' W'') (hlt : fb < w.heap.size ∧ lb < w.heap.size ∧ sb < w.heap.size) : FOut w fb lb cap F sb bt q m' W'' := by
  obtain ⟨q2, ht, hb2, hq2⟩ := hm
  have hz := hb.size
  have hno : ∀ k, k < w.heap.size → ¬ Own bt q' k → ¬ Own bt q2 k := fun k hk hn hk2 => by
    rcases hq2 k hk2 with h1 | h1
    · exact hn h1
    · omega
  refine ⟨q2, ⟨hs.f.but hb2 hs.d1 hs.d2, ⟨hs.s.p.but hb2 hs.s.ne, ht, hno sb hlt.2.2 hs.s.ne⟩, hno fb hlt.1 hs.d1, hno lb hlt.2.1 hs.d2, hs.d3, hs.d4⟩, hb.trans hb2 (fun i hi => ?_), fun k hk => ?_⟩
  · rcases hq i hi with h1 | h1
    · exact .inl (.inr h1)
    · exact .inr h1
  · rcases hq2 k hk with h1 | h1
    · exact hq k h1
    · exact .inr (by omega)
end
end Go.Proofs.Ytlecfdchmcghlaa
