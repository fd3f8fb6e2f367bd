/-
  strconv.Atoi and strconv.ParseUint: what they tell of any text. Condition: the library's errors are errors.
-/
import Derived.Test.YtgefnicpkfcghaaDoorStr3
namespace Go.Proofs.YtgefnicpkfcghaaDoor
open Go.RowKit
set_option linter.unusedVariables false
set_option linter.unusedSimpArgs false

structure Errs (w : World) : Prop where
  one : ∃ t u v, Blk w 2 t #[.iface u v]
  two : ∃ t u v, Blk w 3 t #[.iface u v]
theorem Errs.lt {w : World} (h : Errs w) : 2 < w.heap.size ∧ 3 < w.heap.size := by
  obtain ⟨⟨_, _, _, h1⟩, ⟨_, _, _, h2⟩⟩ := h
  exact ⟨h1.lt, h2.lt⟩
theorem Errs.belowB {B : Nat} {w w' : World} (h : Errs w) (hb : Below B w w') (h1 : 2 < B) (h2 : 3 < B) : Errs w' := by
  obtain ⟨⟨t, u, v, k1⟩, ⟨t', u', v', k2⟩⟩ := h
  exact ⟨⟨t, u, v, k1.below hb h1⟩, ⟨t', u', v', k2.below hb h2⟩⟩
theorem Errs.below {w w' : World} (h : Errs w) (hb : Below w.heap.size w w') : Errs w' := h.belowB hb h.lt.1 h.lt.2

/-- The error that goes with how a numeral ends: none, or some. -/
def Fits (fine : Bool) (er : Value) : Prop := (fine = true ∧ er = .nilIface) ∨ (fine = false ∧ ∃ u v, er = .iface u v)

theorem atoi_any {w : World} (hE : Errs w) (s : ByteArray) (hlim : s.size ≤ 281474976710656) :
    Calls Tryd.prog 33 #[.string s] w fun e w' => ∃ er, e = .returned (.tuple #[.int .i64 (atoiV s.data.toList), er]) ∧ Fits (okE (Lib.atoiAll s.data.toList)) er ∧ Below w.heap.size w w' := by
  obtain ⟨⟨t1, u1, v1, k1⟩, ⟨t2, u2, v2, k2⟩⟩ := hE
  have c1 : w.cell? ⟨2, 0, none⟩ = some (.iface u1 v1) := (k1.cell 0).trans rfl
  have c2 : w.cell? ⟨3, 0, none⟩ = some (.iface u2 v2) := (k2.cell 0).trans rfl
  cases h : Lib.atoiAll s.data.toList
  case ok v =>
    refine (Tryd.strconv_Atoi_ok s (by omega) v h w).mono fun e w' ⟨he, hw⟩ => ⟨.nilIface, by rw [he]; unfold atoiV; rw [h], .inl ⟨rfl, rfl⟩, ?_⟩
    rcases hw with rfl | ⟨t, rfl⟩
    · exact Below.refl _ _
    · exact Lib.bytesWorld_below _ _ _
  case range =>
    refine (Any.strconv_Atoi_range Tryd.laysC172 s hlim h _ w c2 (.inr ⟨_, _, rfl⟩)).mono ?_
    rintro e w' ⟨N, he, _, _, hb⟩
    have hv : atoiV s.data.toList = Lib.atoiSat s.data.toList := by unfold atoiV; rw [h]
    rw [hv]
    exact ⟨_, he, .inr ⟨rfl, _, _, rfl⟩, hb⟩
  all_goals
    refine (Any.strconv_Atoi_syntax Tryd.laysC172 s hlim h _ w c1 (.inr ⟨_, _, rfl⟩)).mono ?_
    rintro e w' ⟨N, he, _, _, hb⟩
    have hv : atoiV s.data.toList = 0 := by unfold atoiV; rw [h]
    rw [hv]
    exact ⟨_, he, .inr ⟨rfl, _, _, rfl⟩, hb⟩
end Go.Proofs.YtgefnicpkfcghaaDoor
