/-
  Go's library at this dump: numerals of whole numbers (Itoa, FormatUint). Condition: the table of powers of ten lies as the library's text lays it.
-/
import Derived.Test.YtodphfgopngpeaaDoorShelf
import Derived.Test.YtodphfgopngpeaaDoorBase
import Derived.Lib.ItoaMem
import Derived.BigCall
import Derived.BigGuard
namespace Go.Proofs.YtodphfgopngpeaaDoor
open Go.RowKit
set_option linter.unusedVariables false
set_option linter.unusedSimpArgs false

theorem below_grow (w : World) (os : Array Obj) : Below w.heap.size w (Sort.grow w os) :=
  ⟨rfl, rfl, rfl, by simp [Sort.grow], fun k hk => Array.getElem?_append_left hk⟩
theorem below_growN (w : World) (n : Nat) (os : Array Obj) : Below w.heap.size w (Sort.grow (w.drewN n) os) := (below_drewN (Below.refl _ w) n).trans (below_grow (w.drewN n) os)

def powArr : Array Value := (Lib.pow10Tab.map fun z => Value.int .u64 z).toArray
/-- The table of powers of ten, whole, in a block of its own. -/
def Pow (w : World) : Prop := ∃ t, Blk w 4 t powArr
theorem gPow : Tryd.prog.globalNamed "internal/strconv.uint64pow10" = some 4 := by kernel_rfl
theorem Pow.tab {w : World} (h : Pow w) : Lib.TabIs Tryd.prog w "internal/strconv.uint64pow10" .u64 Lib.pow10Tab := by
  obtain ⟨t, h⟩ := h
  unfold Blk at h
  unfold Lib.TabIs World.var?
  rw [gPow, Option.bind_some, h]
  rfl
theorem Pow.lt {w : World} (h : Pow w) : 4 < w.heap.size := h.elim fun _ x => x.lt
theorem Pow.belowB {B : Nat} {w w' : World} (h : Pow w) (hb : Below B w w') (hB : 4 < B) : Pow w' := h.elim fun t x => ⟨t, x.below hb hB⟩
theorem Pow.below {w w' : World} (h : Pow w) (hb : Below w.heap.size w w') : Pow w' := h.belowB hb h.lt

theorem itoa_any {w : World} (hP : Pow w) (n : Int) (h0 : -9223372036854775808 ≤ n) (h1 : n ≤ 9223372036854775807) :
    Calls Tryd.prog 75 #[.int .i64 n] w fun e w' => e = .returned (.string ⟨(Lib.itoa n).toArray⟩) ∧ Below w.heap.size w w' :=
  (Tryd.strconv_Itoa n h0 h1 w hP.tab).mono fun e w' ⟨he, k, os, hw⟩ => ⟨he, hw ▸ below_growN w k os⟩

/-! ## FormatUint -/
end Go.Proofs.YtodphfgopngpeaaDoor
