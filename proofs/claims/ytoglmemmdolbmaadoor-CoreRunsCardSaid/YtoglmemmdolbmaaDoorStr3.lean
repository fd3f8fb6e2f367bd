/-
  strings.Split at a blank; strings.Join with blanks. Condition: the library's variable MaxLen holds a whole number.
-/
import Derived.Test.YtoglmemmdolbmaaDoorShelf
import Derived.Test.YtoglmemmdolbmaaDoorIter
import Derived.Lib.ItoaMem
import Derived.BigCall
import Derived.BigGuard
import Derived.Shelf.Vars
import Derived.Test.YtoglmemmdolbmaaDoorLns
namespace Go.Proofs.YtoglmemmdolbmaaDoor
section
open Go.RowKit
set_option linter.unusedVariables false
set_option linter.unusedSimpArgs false

theorem below_grow (w : World) (os : Array Obj) : Below w.heap.size w (Sort.grow w os) :=
  ⟨rfl, rfl, rfl, by simp [Sort.grow], fun k hk => Array.getElem?_append_left hk⟩
theorem below_growN (w : World) (n : Nat) (os : Array Obj) : Below w.heap.size w (Sort.grow (w.drewN n) os) := (below_drewN (Below.refl _ w) n).trans (below_grow (w.drewN n) os)

def powArr : Array Value := (Lib.pow10Tab.map fun z => Value.int .u64 z).toArray
/-- The table of powers of ten, whole, in a block of its own. -/
def Pow (w : World) : Prop := ∃ t, Blk w 1 t powArr
theorem gPow : Tryd.prog.globalNamed "internal/strconv.uint64pow10" = some 1 := by kernel_rfl
theorem Pow.tab {w : World} (h : Pow w) : Lib.TabIs Tryd.prog w "internal/strconv.uint64pow10" .u64 Lib.pow10Tab := by
  obtain ⟨t, h⟩ := h
  unfold Blk at h
  unfold Lib.TabIs World.var?
  rw [gPow, Option.bind_some, h]
  rfl
theorem Pow.lt {w : World} (h : Pow w) : 1 < w.heap.size := h.elim fun _ x => x.lt
theorem Pow.belowB {B : Nat} {w w' : World} (h : Pow w) (hb : Below B w w') (hB : 1 < B) : Pow w' := h.elim fun t x => ⟨t, x.below hb hB⟩
theorem Pow.below {w w' : World} (h : Pow w) (hb : Below w.heap.size w w') : Pow w' := h.belowB hb h.lt

theorem itoa_any {w : World} (hP : Pow w) (n : Int) (h0 : -9223372036854775808 ≤ n) (h1 : n ≤ 9223372036854775807) :
    Calls Tryd.prog 28 #[.int .i64 n] w fun e w' => e = .returned (.string ⟨(Lib.itoa n).toArray⟩) ∧ Below w.heap.size w w' :=
  (Tryd.strconv_Itoa n h0 h1 w hP.tab).mono fun e w' ⟨he, k, os, hw⟩ => ⟨he, hw ▸ below_growN w k os⟩

/-! ## FormatUint -/
end
end Go.Proofs.YtoglmemmdolbmaaDoor
namespace Go.Proofs.YtoglmemmdolbmaaDoor
section
open Go.RowKit
set_option linter.unusedVariables false
set_option linter.unusedSimpArgs false

def MaxL (w : World) : Prop := ∃ t m, Blk w 3 t #[.int .i64 m]
theorem MaxL.lt {w : World} (h : MaxL w) : 3 < w.heap.size := h.elim fun _ x => x.elim fun _ y => y.lt
theorem MaxL.belowB {B : Nat} {w w' : World} (h : MaxL w) (hb : Below B w w') (hB : 3 < B) : MaxL w' := h.elim fun t x => x.elim fun m y => ⟨t, m, y.below hb hB⟩
theorem MaxL.below {w w' : World} (h : MaxL w) (hb : Below w.heap.size w w') : MaxL w' := h.belowB hb h.lt
theorem MaxL.cell {w : World} (h : MaxL w) : ∃ m, w.cell? ⟨3, 0, none⟩ = some (.int .i64 m) := h.elim fun t x => x.elim fun m y => ⟨m, (y.cell 0).trans rfl⟩
theorem maxL_of {w : World} (h : w.ShapedOpen Tryd.prog) : MaxL w := by
  have h0 : ((begin Tryd.prog (fun _ _ => 0) default).world.heap[3]?).bind Obj.row? = some (#[.int .i64 0], 3) := by kernel_rfl
  obtain ⟨m, hm⟩ := cell_of_shapedOpen_int h (by decide +kernel) h0 rfl (by kernel_rfl) (by kernel_rfl) Tryd.underlying3
  obtain ⟨cs, hh, hs, _⟩ := h.1 _ _ _ (by decide +kernel) h0
  refine ⟨3, m, hh.trans ?_⟩
  have h1 : cs.size = 1 := hs
  have h2 : cs[0]? = some (.int .i64 m) := by
    have hc := cell_of_row w _ 0 cs _ (0, 0) hh
    rw [← hc]
    exact hm
  have : cs = #[.int .i64 m] := by
    apply Array.ext
    · exact h1
    · intro i hi hi'
      have : i = 0 := by simp at hi'; omega
      subst this
      have := (Array.getElem?_eq_some_iff.1 h2).2
      simpa using this
  rw [this]

def strV (l : List UInt8) : Value := .string ⟨l.toArray⟩
theorem splitB_words (s : ByteArray) : (Lib.splitB ⟨#[32]⟩ 0 (Lib.countB s ⟨#[32]⟩) s).map Value.string = (pieces s.data.toList).map strV := by
  have h1 := Lib.splitB_data ⟨#[32]⟩ 0 (Lib.countB s ⟨#[32]⟩) s
  have hc : Lib.countB s ⟨#[32]⟩ = s.data.toList.count 32 := Lib.count_one 32 s.data.toList
  have h2 : (Lib.splitB ⟨#[32]⟩ 0 (Lib.countB s ⟨#[32]⟩) s).map (·.data.toList) = pieces s.data.toList := by
    rw [h1, hc]
    exact splitK_pieces s.data.toList
  rw [← h2, List.map_map]
  apply List.map_congr_left
  intro b _
  rfl
theorem split_any {w : World} (hM : MaxL w) (s : ByteArray) (hs : s.size < 4294967281) :
    Calls Tryd.prog 71 #[.string s, .string ⟨#[32]⟩] w fun e w' => e = .returned (.slice (some ⟨w.heap.size, 0, none⟩) (pieces s.data.toList).length (pieces s.data.toList).length) ∧ w' = w.alloc (.cells ((pieces s.data.toList).map strV).toArray 9) := by
  obtain ⟨m, hm⟩ := hM.cell
  refine (Tryd.strings_Split s ⟨#[32]⟩ m w hs hm (by decide)).mono fun e w' ⟨he, hw⟩ => ⟨?_, ?_⟩
  · have hc : Lib.countB s ⟨#[32]⟩ = s.data.toList.count 32 := Lib.count_one 32 s.data.toList
    rw [he, hc, pieces_len]
  · rw [hw, splitB_words]

end
end Go.Proofs.YtoglmemmdolbmaaDoor
