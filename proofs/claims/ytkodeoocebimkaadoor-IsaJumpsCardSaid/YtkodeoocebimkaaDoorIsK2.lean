/-
  Words that come in as a slice of uint32, as facts on the world.
-/
import Derived.Test.YtkodeoocebimkaaDoorIsK
namespace Go.Proofs.YtkodeoocebimkaaDoor
open Go.ChangeShapes Go.WideShapes Go.ChangeAt Go.RowKit Go.ChangeMaps Go.Deep
set_option linter.unusedVariables false
set_option linter.unusedSimpArgs false

theorem cellsOf_u32 : Tryd.prog.cellsOf 24 = 1 := by kernel_rfl
section
variable {H : Type} {enc : TypeId × Value → H} {w : World} {base : Nat} {spare : Nat → Bool} {held : Bool}
set_option maxRecDepth 100000 in
theorem trod_u32 {fuel : Nat} {cs : List Value} {y : DataW H × List MemPlace} (h : DataW.trod enc Tryd.prog w base spare held fuel 24 cs = some y) : ∃ x : {x : Int // RangeW x}, cs = [Value.int .u32 x.1] := by
  obtain ⟨a0, e0, _, w0⟩ := DataW.trod_int Tryd.underlying24 h
  have r0 : 0 ≤ a0 ∧ a0 ≤ 4294967295 := by simpa [Lit.wf, IntKind.min, IntKind.max, IntKind.signed, IntKind.bits] using w0
  exact ⟨⟨a0, ⟨r0.1, by omega⟩⟩, by rw [e0]⟩
set_option maxRecDepth 100000 in
theorem open_words {v : Value} {d : DataW H} {p : List MemPlace} {r : Reach} {b0 : Nat} (hv : Value.okWide Tryd.prog w r b0 47 v) (h : DataW.Trod enc Tryd.prog w 0 (fun _ => true) true 47 v d p) :
    ∃ (A : Option Addr) (c : Nat) (l : List Int), v = .slice A l.length c ∧ WordsAt w A l ∧ l.length ≤ maxLen ∧ ∀ x ∈ l, RangeW x := by
  obtain ⟨A, c, l, rfl, hO, hl⟩ := open_rows (fun x : {x : Int // RangeW x} => [Value.int .u32 x.1]) (by decide) (fun _ => rfl) Tryd.underlying47 cellsOf_u32 trod_u32 hv h
  refine ⟨A, c, l.map Subtype.val, by rw [List.length_map], ?_, by rw [List.length_map]; exact hl, fun x hx => ?_⟩
  · unfold WordsAt
    rw [List.map_map]
    exact hO
  · obtain ⟨y, _, rfl⟩ := List.mem_map.1 hx
    exact y.2
end
end Go.Proofs.YtkodeoocebimkaaDoor
