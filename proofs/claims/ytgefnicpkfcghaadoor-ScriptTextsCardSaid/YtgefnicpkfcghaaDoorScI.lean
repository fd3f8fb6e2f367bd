/-
  Bytes that come in: what they read as. No condition.
-/
import Derived.Test.YtgefnicpkfcghaaDoorScH
import Derived.Test.YtgefnicpkfcghaaDoorScV
namespace Go.Proofs.YtgefnicpkfcghaaDoor
open Go.ChangeShapes Go.WideShapes Go.ChangeAt Go.RowKit Go.Deep
set_option linter.unusedVariables false
set_option linter.unusedSimpArgs false

theorem cellsOf_u8 : Tryd.prog.cellsOf 5 = 1 := by kernel_rfl
section
variable {H : Type} {enc : TypeId × Value → H} {w : World} {base : Nat} {spare : Nat → Bool} {held : Bool}
set_option maxRecDepth 100000 in
theorem trod_b {fuel : Nat} {cs : List Value} {y : DataW H × List MemPlace} (h : DataW.trod enc Tryd.prog w base spare held fuel 5 cs = some y) : ∃ x : UInt8, cs = bCell x := by
  obtain ⟨a, e, _, wf⟩ := DataW.trod_int Tryd.underlying5 h
  have r : 0 ≤ a ∧ a ≤ 255 := by simpa [Lit.wf, IntKind.min, IntKind.max, IntKind.signed, IntKind.bits] using wf
  refine ⟨UInt8.ofNat a.toNat, ?_⟩
  have e2 : (UInt8.ofNat a.toNat).toNat = a.toNat := by rw [UInt8.toNat_ofNat']; omega
  unfold bCell
  rw [e, e2, Int.toNat_of_nonneg r.1]
set_option maxRecDepth 100000 in
theorem open_bytes {v : Value} {d : DataW H} {p : List MemPlace} {r : Reach} {b0 : Nat} (hv : Value.okWide Tryd.prog w r b0 46 v) (h : DataW.Trod enc Tryd.prog w 0 (fun _ => true) true 46 v d p) :
    ∃ (A : Option Addr) (c : Nat) (l : List UInt8), v = .slice A l.length c ∧ BytesAt w A l ∧ l.length ≤ maxLen :=
  open_rows bCell (by decide) (fun _ => rfl) Tryd.underlying46 cellsOf_u8 trod_b hv h
end
end Go.Proofs.YtgefnicpkfcghaaDoor
