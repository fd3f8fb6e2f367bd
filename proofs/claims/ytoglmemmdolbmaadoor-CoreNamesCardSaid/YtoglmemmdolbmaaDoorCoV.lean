/-
  Memories that are none, walked: a word, a byte. No condition.
-/
import Derived.Test.YtoglmemmdolbmaaDoorCo8
namespace Go.Proofs.YtoglmemmdolbmaaDoor
open Go.RowKit
set_option linter.unusedVariables false
set_option linter.unusedSimpArgs false
attribute [local go_sem] Oper.semAt_some
attribute [local go_sem] run_store_complex
attribute [local irreducible] floatOfInt wz

set_option maxRecDepth 100000 in
theorem word_nil {w : World} (a : Int) : Calls Tryd.prog 20 #[.pointer none, .int .u32 a] w fun e w' => e = .returned (.tuple #[.int .u32 0, .bool false]) ∧ w' = w := by
  have H := Lib.hid (fun W => has_nil (w := W) a 4)
  go_enter Tryd.func20, Tryd.ntmps20
  go_wp2_with fail
  refine (H.out _).mono ?_
  rintro e w1 ⟨rfl, rfl⟩
  go_wp2
  go_ret2
  exact ⟨rfl, rfl⟩
set_option maxRecDepth 100000 in
theorem setByte_nil {w : World} (a v : Int) : Calls Tryd.prog 21 #[.pointer none, .int .u32 a, .int .u8 v] w fun e w' => e = .returned (.bool false) ∧ w' = w := by
  have H := Lib.hid (fun W => has_nil (w := W) a 1)
  go_enter Tryd.func21, Tryd.ntmps21
  go_wp2_with fail
  refine (H.out _).mono ?_
  rintro e w1 ⟨rfl, rfl⟩
  go_wp2
  go_ret
  exact ⟨rfl, rfl⟩
end Go.Proofs.YtoglmemmdolbmaaDoor
