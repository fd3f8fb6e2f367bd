/-
  Map of spaces, where it may not be. Condition: the space and the frames lie in blocks of their own.
-/
import Derived.Test.YtlecfdchmcghlaaSp4
namespace Go.Proofs.Ytlecfdchmcghlaa
open Go.RowKit Go.Shelf
set_option linter.unusedVariables false
set_option linter.unusedSimpArgs false
attribute [local go_sem] Oper.semAt_some

section
variable {w : World} {fb lb cap : Nat} {F : Fs} {sb bt : Nat} {q : Nat → Option Nat} {m : M}
set_option maxRecDepth 100000 in
set_option maxHeartbeats 4000000 in
theorem spMap_out (h : FS w fb lb cap F sb bt q m) (p n : Int) (mw sh : Bool) (hp : ¬ inP p n) :
    Calls Try.prog 12 #[.pointer (some ⟨sb, 0, none⟩), .int .i64 p, .int .i64 n, .bool mw, .bool sh] w fun e w' => e = .returned (.int .i64 22) ∧ Below w.heap.size w w' := by
  have HN := Lib.hid (spNone_any h.s)
  have HC := Lib.hid (spCount_no h.s p n hp)
  clear h hp
  go_enter Try.func12, Try.ntmps12
  go_wp2_with (fail)
  refine HN.out.mono ?_
  rintro e _ ⟨rfl, rfl⟩
  go_wp2_with (fail)
  refine HC.out.mono ?_
  rintro e _ ⟨rfl, rfl⟩
  go_wp2
  go_ret
  exact ⟨rfl, Below.refl _ _⟩
set_option maxRecDepth 100000 in
set_option maxHeartbeats 4000000 in
theorem spMap_some (h : FS w fb lb cap F sb bt q m) (p n : Nat) (mw sh : Bool) (h1 : 1 ≤ n) (h2 : p + n ≤ 64) (hc : cntP m p n ≠ 0) :
    Calls Try.prog 12 #[.pointer (some ⟨sb, 0, none⟩), .int .i64 (p : Int), .int .i64 (n : Int), .bool mw, .bool sh] w fun e w' => e = .returned (.int .i64 22) ∧ Below w.heap.size w w' := by
  have HN := Lib.hid (spNone_any h.s)
  have HC := Lib.hid (spCount_yes h.s p n h1 h2)
  have hci : (0 : Int) < ((cntP m p n : Nat) : Int) := by omega
  clear h hc
  generalize cntP m p n = c at *
  go_enter Try.func12, Try.ntmps12
  go_wp2_with (fail)
  refine HN.out.mono ?_
  rintro e _ ⟨rfl, rfl⟩
  go_wp2_with (fail)
  refine HC.out.mono ?_
  rintro e W1 ⟨rfl, hb1⟩
  go_wp2
  go_ret
  exact ⟨rfl, hb1⟩
set_option maxRecDepth 100000 in
set_option maxHeartbeats 4000000 in
theorem spMap_few (h : FS w fb lb cap F sb bt q m) (p n : Nat) (mw sh : Bool) (h1 : 1 ≤ n) (h2 : p + n ≤ 64) (hc : cntP m p n = 0) (hf : freeN F < (n : Int)) :
    Calls Try.prog 12 #[.pointer (some ⟨sb, 0, none⟩), .int .i64 (p : Int), .int .i64 (n : Int), .bool mw, .bool sh] w fun e w' => e = .returned (.int .i64 12) ∧ Below w.heap.size w w' := by
  have HH := Lib.hid h
  have HN := Lib.hid (spNone_any h.s)
  have HC := Lib.hid (spCount_yes h.s p n h1 h2)
  rw [hc] at HC
  clear h hc
  go_enter Try.func12, Try.ntmps12
  go_wp2_with (fail)
  refine HN.out.mono ?_
  rintro e _ ⟨rfl, rfl⟩
  go_wp2_with (fail)
  refine HC.out.mono ?_
  rintro e W1 ⟨rfl, hb1⟩
  have HS1 := Lib.hid (HH.out.below hb1)
  have HB1 := Lib.hid hb1
  clear hb1
  obtain ⟨c0, c1, hlt⟩ := HS1.out.s.cells
  go_wp2_with (fail)
  refine (frFree_any HS1.out.f).mono ?_
  rintro e W2 ⟨rfl, hb2⟩
  have HB2 := Lib.hid (bl_step HB1.out hb2)
  clear hb2
  go_wp2
  go_ret
  exact ⟨rfl, HB2.out⟩
end
end Go.Proofs.Ytlecfdchmcghlaa
