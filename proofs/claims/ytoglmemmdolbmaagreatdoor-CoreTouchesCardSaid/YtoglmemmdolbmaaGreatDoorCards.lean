/-
  DERIVED. GIVEN WITH THE SEED: THE CARDS: each row of YtoglmemmdolbmaaGreatDoorRows.lean that lists a variable, with what it lists TIED to the program's text (the seventh form; the later family's looks); each row that meets fmt, with fmt's text TOLD by the authors' own Lean function (tested against real Go, not proved from fmt's source: count such statements apart). THE CARD IS WHAT COUNTS. Prove the row's statement (the work); the ties are given (YtoglmemmdolbmaaGreatDoorTie.lean); close each card by the builder's one call (the guide's Derived/Test/ToyasCard.lean, 'card_holds'). Laid BY PROGRAM, IN A SANDBOX (cutbox-door.mjs). By AI agents, Wed Nov 11 2026. No macro, syntax, notation, axiom, sorry.
-/
import Derived.Test.YtoglmemmdolbmaaGreatDoorRows
import GoSem.ClaimSeven
namespace Go.Proofs.YtoglmemmdolbmaaGreatDoor
namespace Rows

/-- THE TIED CARD OF 'carryalllaw07.CoreTouches'. -/
def coreTouchesCard : Claim7 := { stood := { row := coreTouchesRow, standIns := [], harness := (true, "05535abc39a1d3258fc052d9c3ef6d04ad99d004efd49eec75792ffbf90bf35c"), looks := false }, kinds := [], alts := [], laidByText := true, laidKinds := [.data, .data, .data, .data, .data, .pinned], laidTests := true, laidLooks := .later }
def CoreTouchesCardSaid : Prop := Claim7.holds Tryz.pinned (.plain (OpenSpec.ofChange coreTouchesSpec)) coreTouchesCard

/-- THE SECOND FORM's CARD OF 'carryalllaw07.CoreTouches'. -/
def coreTouchesUptoCard : Claim7 := { stood := { row := coreTouchesUptoRow, standIns := [], harness := (true, "05535abc39a1d3258fc052d9c3ef6d04ad99d004efd49eec75792ffbf90bf35c"), looks := false }, kinds := [], alts := [], laidByText := true, laidKinds := [.data, .data, .data, .data, .data, .pinned], laidTests := true, laidLooks := .later }
def CoreTouchesUptoCardSaid : Prop := Claim7.holds Tryz.pinned (.plain (OpenSpec.upto coreTouchesSpec)) coreTouchesUptoCard
end Rows
end Go.Proofs.YtoglmemmdolbmaaGreatDoor
