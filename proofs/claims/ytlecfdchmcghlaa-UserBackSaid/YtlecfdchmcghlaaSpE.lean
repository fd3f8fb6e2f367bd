/-
  SetByte of spaces; what is asked of none. Condition: the space and the frames lie in blocks of their own; each page's frame is used, and of that page alone within the space.
-/
import Derived.Test.YtlecfdchmcghlaaSpD
namespace Go.Proofs.Ytlecfdchmcghlaa
open Go.RowKit Go.Shelf
set_option linter.unusedVariables false
set_option linter.unusedSimpArgs false
attribute [local go_sem] Oper.semAt_some

section
variable {w : World} {fb lb cap : Nat} {F : Fs} {sb bt : Nat} {q : Nat → Option Nat} {m : M}
end
section
variable {w : World}
set_option maxRecDepth 100000 in
theorem nilNone_any : Calls Try.prog 23 #[.pointer none] w fun e w' => e = .returned (.bool true) ∧ w = w' := by
  go_enter Try.func23, Try.ntmps23
  go_wp2
  go_ret
  exact ⟨rfl, rfl⟩
set_option maxRecDepth 100000 in
theorem nilMap_any (p n : Int) (a b : Bool) : Calls Try.prog 12 #[.pointer none, .int .i64 p, .int .i64 n, .bool a, .bool b] w fun e w' => e = .returned (.int .i64 14) ∧ w = w' := by
  have HN := Lib.hid (nilNone_any (w := w))
  go_enter Try.func12, Try.ntmps12
  go_wp2_with (fail)
  refine HN.out.mono ?_
  rintro e _ ⟨rfl, rfl⟩
  go_wp2
  go_ret
  exact ⟨rfl, rfl⟩
set_option maxRecDepth 100000 in
theorem nilClone_any : Calls Try.prog 13 #[.pointer none] w fun e w' => e = .returned (.pointer none) ∧ w = w' := by
  have HN := Lib.hid (nilNone_any (w := w))
  go_enter Try.func13, Try.ntmps13
  go_wp2_with (fail)
  refine HN.out.mono ?_
  rintro e _ ⟨rfl, rfl⟩
  go_wp2
  go_ret
  exact ⟨rfl, rfl⟩
set_option maxRecDepth 100000 in
theorem nilNew_any : Calls Try.prog 11 #[.pointer none] w fun e w' => e = .returned (.pointer none) ∧ w = w' := by
  go_enter Try.func11, Try.ntmps11
  go_wp2
  go_ret
  exact ⟨rfl, rfl⟩
set_option maxRecDepth 100000 in
set_option maxHeartbeats 1000000 in
theorem nilMay_in (k : Nat) (hk : 6 ≤ k) (a n : Int) (wr : Bool) :
    CallsIn Fence.wide k Try.prog 35 #[.pointer none, .int .u32 a, .int .i64 n, .bool wr] w fun e w' => e = .returned (.tuple #[.int .i64 0, .bool false]) ∧ Below w.heap.size w w' := by
  have HN := Lib.hid (fun W => nilNone_any (w := W))
  have hb1 := bl_new (bl_new (Below.refl w.heap.size w) (.cells #[.pointer none] 24)) (.cells #[.bool wr] 4)
  have x4 := (Blk.new w 24 #[.pointer none]).alloc (.cells #[.bool wr] 4)
  have HB1 := Lib.hid hb1
  have c4 := x4.cell 0
  simp only [List.getElem?_toArray, List.getElem?_cons_zero] at c4
  have l4 := x4.lt
  clear hb1 x4
  refine callsIn_of_wp Try.func35 rfl trivial ?_ rfl
  simp only [Try.ntmps35, List.size_toArray, List.length_cons, List.length_nil, Nat.reduceAdd, Nat.reduceSub, Array.replicate_succ, Array.replicate_zero, List.push_toArray, List.append_toArray, List.nil_append, List.cons_append]
  gi_wp2_with (fail)
  generalize ((w.alloc (.cells #[.pointer none] 24)).alloc (.cells #[.bool wr] 4)) = W1 at *
  refine wpIn_scope_straight ?_
  gi_wp2_with (refine ⟨trivial, fun _ => by omega, ?_⟩; gi_at_call 23; refine (callsIn_wide.2 (HN.out _)).mono ?_; rintro e w' ⟨rfl, rfl⟩)
  try rw [Exit.noGoto_ret]
  go_ret2
  exact ⟨rfl, HB1.out⟩
set_option maxRecDepth 100000 in
set_option maxHeartbeats 1000000 in
theorem nilRead_any (a n : Int) : Calls Try.prog 32 #[.pointer none, .int .u32 a, .int .i64 n] w fun e w' => e = .returned (.tuple #[.slice none 0 0, .int .i64 14]) ∧ Below w.heap.size w w' := by
  have HM := Lib.hid (fun W => callsIn_wide.1 (nilMay_in (w := W) 6 (by omega) a n false))
  have HB := Lib.hid (bl_new (Below.refl w.heap.size w) (.cells #[.pointer none] 24))
  have x3 := Blk.new w 24 #[.pointer none]
  have c3 := x3.cell 0
  simp only [List.getElem?_toArray, List.getElem?_cons_zero] at c3
  have l3 := x3.lt
  clear x3
  go_enter Try.func32, Try.ntmps32
  go_wp2_with (fail)
  refine (HM.out _).mono ?_
  rintro e W1 ⟨rfl, hb1⟩
  have HB1 := Lib.hid (bl_step HB.out hb1)
  clear hb1
  go_wp2
  go_ret2
  exact ⟨rfl, HB1.out⟩
end
end Go.Proofs.Ytlecfdchmcghlaa
