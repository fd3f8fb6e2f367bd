/-
  A new space. Condition: none.
-/
import Derived.Test.YtlecfdchmcghlaaSp1
namespace Go.Proofs.Ytlecfdchmcghlaa
open Go.RowKit Go.Shelf
set_option linter.unusedVariables false
set_option linter.unusedSimpArgs false
attribute [local go_sem] Oper.semAt_some

def q0 : Nat → Option Nat := fun _ => none
def m0 : M := fun _ => none
theorem Tab.new (w : World) : Tab (w.alloc (.cells (tabArr q0) 61)) w.heap.size q0 m0 :=
  ⟨Blk.new w _ _, (fun i b _ h => by cases h), (fun i b _ h => by cases h), fun _ _ _ _ _ => rfl, (fun i j b _ _ h => by cases h)⟩
set_option maxRecDepth 100000 in
theorem spNew_any {w : World} (fb : Nat) : Calls Try.prog 11 #[.pointer (some ⟨fb, 0, none⟩)] w fun e w' => e = .returned (.pointer (some ⟨w.heap.size + 1, 0, none⟩)) ∧ SpAt w' fb (w.heap.size + 1) w.heap.size q0 m0 ∧ Below w.heap.size w w' := by
  have ht := Tab.new w
  have hp := Blk.new (w.alloc (.cells (tabArr q0) 61)) 63 #[.pointer (some ⟨fb, 0, none⟩), .pointer (some ⟨w.heap.size, 0, none⟩)]
  rw [World.size_alloc] at hp
  have HS := Lib.hid (show SpAt ((w.alloc (.cells (tabArr q0) 61)).alloc (.cells #[.pointer (some ⟨fb, 0, none⟩), .pointer (some ⟨w.heap.size, 0, none⟩)] 63)) fb (w.heap.size + 1) w.heap.size q0 m0 from
    ⟨hp, ht.alloc _, fun h => by
      rcases h with h | ⟨i, _, h⟩
      · omega
      · cases h⟩)
  have HB := Lib.hid (bl_new (bl_new (Below.refl w.heap.size w) (.cells (tabArr q0) 61)) (.cells #[.pointer (some ⟨fb, 0, none⟩), .pointer (some ⟨w.heap.size, 0, none⟩)] 63))
  clear ht hp
  simp only [show tabArr q0 = #[.pointer none, .pointer none, .pointer none, .pointer none, .pointer none, .pointer none, .pointer none, .pointer none] from rfl] at HS HB
  go_enter Try.func11, Try.ntmps11
  go_wp2
  go_ret
  exact ⟨rfl, HS.out, HB.out⟩
end Go.Proofs.Ytlecfdchmcghlaa
