/-
  A slice that comes in and lies nowhere has no room. No condition.
-/
import Derived.Test.YtgefnicpkfcghaaDoorScI
namespace Go.Proofs.YtgefnicpkfcghaaDoor
open Go.ChangeShapes Go.WideShapes Go.ChangeAt Go.RowKit Go.Deep
set_option linter.unusedVariables false
set_option linter.unusedSimpArgs false

theorem slice_nil {H : Type} {enc : TypeId × Value → H} {w : World} {A : Option Addr} {n c : Nat} {d : DataW H} {p : List MemPlace} {t e : TypeId} (ht : Tryd.prog.underlying t = some (.slice e)) (h : DataW.Trod enc Tryd.prog w 0 (fun _ => true) true t (.slice A n c) d p) : A = none → c = 0 := by
  rintro rfl
  obtain ⟨fuel, hf⟩ := h
  rcases open_slice ht hf with ⟨hcs, _⟩ | ⟨a, len, cap, m, n', D, Pl, hcs, hb, hl, hm, _⟩
  · simp only [Value.cells, List.cons.injEq, Value.slice.injEq, and_true] at hcs
    exact hcs.2.2
  · simp only [Value.cells, List.cons.injEq, Value.slice.injEq, and_true] at hcs
    cases hcs.1
end Go.Proofs.YtgefnicpkfcghaaDoor
