/-
  Walks over package gauss and its reference: floor. No condition.
-/
import Derived.Test.YtodphfgopngpeaaDoorBase
import Derived.Laws.Externs
import Derived.Test.YtodphfgopngpeaaDoorFlo4
namespace Go.Proofs.YtodphfgopngpeaaDoor
open Go.RowKit
set_option linter.unusedVariables false
set_option linter.unusedSimpArgs false

theorem floor_entry (x : Nat) (s : Bool) (m : Nat) (e : Int) (hx : FloatKind.f64.decode x = .number s m e) : Extern.MathFloor.toIntegral "math.archFloor" .down #[.float .f64 x] = pure (.float .f64 (FloatKind.f64.encode ((Ieee.Datum.number s m e).integral .down))) := by
  unfold Extern.MathFloor.toIntegral
  delta Extern.MathFloor.toIntegral.match_2
  dsimp only [List.size_toArray, List.length_cons, List.length_nil]
  rw [dif_pos (show #[Value.float FloatKind.f64 x].size = 1 from rfl)]
  have hg : ∀ h1 h2, #[Value.float FloatKind.f64 x].getLit (n := 1) 0 h1 h2 = Value.float .f64 x := fun _ _ => rfl
  rw [hg]
  delta Extern.MathFloor.toIntegral._sparseCasesOn_2 Extern.MathFloor.toIntegral._sparseCasesOn_3
  dsimp only
  rw [hx]
theorem floor_run (w : World) (x : Nat) (s : Bool) (m : Nat) (e : Int) (hx : FloatKind.f64.decode x = .number s m e) :
    (callFunc 49 #[.float .f64 x]).run Tryd.prog w = .ok (.value (.float .f64 (FloatKind.f64.encode ((Ieee.Datum.number s m e).integral .down)))) w := by
  rw [run_callFunc_extern (e := Extern.MathFloor.toIntegral "math.archFloor" .down) Tryd.func49 (by kernel_rfl) (by kernel_rfl) (by kernel_rfl) (by kernel_rfl), floor_entry x s m e hx]
  rfl
set_option maxRecDepth 100000 in
theorem floor_any {w : World} (x : Nat) (s : Bool) (m : Nat) (e : Int) (hx : FloatKind.f64.decode x = .number s m e) :
    Calls Tryd.prog 36 #[.float .f64 x] w fun en w' => en = .returned (.float .f64 (FloatKind.f64.encode ((Ieee.Datum.number s m e).integral .down))) ∧ w = w' := by
  have hf := floor_run w x s m e hx
  clear hx
  go_enter Tryd.func36, Tryd.ntmps36
  go_wp2
  go_ret
  exact ⟨rfl, rfl⟩
end Go.Proofs.YtodphfgopngpeaaDoor
