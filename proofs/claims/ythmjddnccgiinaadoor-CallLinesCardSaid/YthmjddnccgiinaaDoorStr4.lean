/-
  strconv.Atoi and strconv.ParseUint: what they tell of any text. Condition: the library's errors are errors.
-/
import Derived.Test.YthmjddnccgiinaaDoorStr3
namespace Go.Proofs.YthmjddnccgiinaaDoor
open Go.RowKit
set_option linter.unusedVariables false
set_option linter.unusedSimpArgs false

structure Errs (w : World) : Prop where
  one : ∃ t u v, Blk w 4 t #[.iface u v]
  two : ∃ t u v, Blk w 5 t #[.iface u v]
theorem Errs.lt {w : World} (h : Errs w) : 4 < w.heap.size ∧ 5 < w.heap.size := by
  obtain ⟨⟨_, _, _, h1⟩, ⟨_, _, _, h2⟩⟩ := h
  exact ⟨h1.lt, h2.lt⟩
theorem Errs.belowB {B : Nat} {w w' : World} (h : Errs w) (hb : Below B w w') (h1 : 4 < B) (h2 : 5 < B) : Errs w' := by
  obtain ⟨⟨t, u, v, k1⟩, ⟨t', u', v', k2⟩⟩ := h
  exact ⟨⟨t, u, v, k1.below hb h1⟩, ⟨t', u', v', k2.below hb h2⟩⟩
theorem Errs.below {w w' : World} (h : Errs w) (hb : Below w.heap.size w w') : Errs w' := h.belowB hb h.lt.1 h.lt.2

/-- The error that goes with how a numeral ends: none, or some. -/
def Fits (fine : Bool) (er : Value) : Prop := (fine = true ∧ er = .nilIface) ∨ (fine = false ∧ ∃ u v, er = .iface u v)

theorem parse32_any {w : World} (hE : Errs w) (s : ByteArray) (hlim : s.size ≤ 281474976710656) :
    Calls Tryd.prog 46 #[.string s, .int .i64 10, .int .i64 32] w fun e w' => ∃ er, e = .returned (.tuple #[.int .u64 (uintV s.data.toList), er]) ∧ Below w.heap.size w w' := by
  obtain ⟨⟨t1, u1, v1, k1⟩, ⟨t2, u2, v2, k2⟩⟩ := hE
  have c1 : w.cell? ⟨4, 0, none⟩ = some (.iface u1 v1) := (k1.cell 0).trans rfl
  have c2 : w.cell? ⟨5, 0, none⟩ = some (.iface u2 v2) := (k2.cell 0).trans rfl
  cases h : Lib.parseUintB 32 s.data.toList
  case ok v =>
    refine (Tryd.strconv_ParseUint_10_at32_ok s (by omega) v h w).mono fun e w' ⟨he, hw⟩ => ⟨.nilIface, by rw [he]; unfold uintV; rw [h], ?_⟩
    rcases hw with rfl | rfl
    · exact Below.refl _ _
    · exact Lib.bytesWorld_below _ _ _
  case range =>
    refine (Any.strconv_ParseUint_10_at32_range Tryd.laysPu14 s hlim h _ w c2 (.inr ⟨_, _, rfl⟩)).mono ?_
    rintro e w' ⟨N, he, _, _, hb⟩
    have hv : uintV s.data.toList = 4294967295 := by unfold uintV; rw [h]
    rw [hv]
    exact ⟨_, he, hb⟩
  all_goals
    refine (Any.strconv_ParseUint_10_at32_syntax Tryd.laysPu14 s hlim h _ w c1 (.inr ⟨_, _, rfl⟩)).mono ?_
    rintro e w' ⟨N, he, _, _, hb⟩
    have hv : uintV s.data.toList = 0 := by unfold uintV; rw [h]
    rw [hv]
    exact ⟨_, he, hb⟩
end Go.Proofs.YthmjddnccgiinaaDoor
