/-
  DERIVED. GIVEN WITH THE SEED: THE CARDS: each row of YtodphfgopngpeaaDoorRows.lean that lists a variable, with what it lists TIED to the program's text (the seventh form; the later family's looks); each row that meets fmt, with fmt's text TOLD by the authors' own Lean function (tested against real Go, not proved from fmt's source: count such statements apart). THE CARD IS WHAT COUNTS. Prove the row's statement (the work); the ties are given (YtodphfgopngpeaaDoorTie.lean); close each card by the builder's one call (the guide's Derived/Test/ToyasCard.lean, 'card_holds'). Laid BY PROGRAM, IN A SANDBOX (cutbox-door.mjs). By AI agents, Wed Nov 11 2026. No macro, syntax, notation, axiom, sorry.
-/
import Derived.Test.YtodphfgopngpeaaDoorRows
import GoSem.ClaimSeven
namespace Go.Proofs.YtodphfgopngpeaaDoor
namespace Rows

/-- THE TIED CARD OF 'carryalllaw02.GaussRing'. -/
def gaussRingCard : Claim7 := { stood := { row := gaussRingRow, standIns := [], harness := (true, "4a2a6e79a07079b24d3d7410671213a6680afc986ed8f28e674c668e187c59f8"), looks := true }, kinds := [], alts := [], laidByText := true, laidKinds := [.data, .data, .data], laidTests := true, laidLooks := .later }
def GaussRingCardSaid : Prop := Claim7.holds Tryd.pinned (.plain (OpenSpec.ofChange gaussRingSpec)) gaussRingCard

/-- THE TIED CARD OF 'carryalllaw02.GaussNorms'. -/
def gaussNormsCard : Claim7 := { stood := { row := gaussNormsRow, standIns := [], harness := (true, "4a2a6e79a07079b24d3d7410671213a6680afc986ed8f28e674c668e187c59f8"), looks := true }, kinds := [], alts := [], laidByText := true, laidKinds := [.data, .data, .data], laidTests := true, laidLooks := .later }
def GaussNormsCardSaid : Prop := Claim7.holds Tryd.pinned (.plain (OpenSpec.ofChange gaussNormsSpec)) gaussNormsCard

/-- THE TIED CARD OF 'carryalllaw02.GaussTexts'. -/
def gaussTextsCard : Claim7 := { stood := { row := gaussTextsRow, standIns := [], harness := (true, "4a2a6e79a07079b24d3d7410671213a6680afc986ed8f28e674c668e187c59f8"), looks := true }, kinds := [], alts := [], laidByText := true, laidKinds := [.data, .data, .data, .data, .sentinel, .sentinel, .pinned], laidTests := true, laidLooks := .later }
def GaussTextsCardSaid : Prop := Claim7.holds Tryd.pinned (.plain (OpenSpec.ofChange gaussTextsSpec)) gaussTextsCard

/-- THE TIED CARD OF 'carryalllaw02.GaussNames'. -/
def gaussNamesCard : Claim7 := { stood := { row := gaussNamesRow, standIns := [], harness := (true, "4a2a6e79a07079b24d3d7410671213a6680afc986ed8f28e674c668e187c59f8"), looks := true }, kinds := [], alts := [], laidByText := true, laidKinds := [.data, .data, .data, .data, .sentinel, .sentinel, .pinned], laidTests := true, laidLooks := .later }
def GaussNamesCardSaid : Prop := Claim7.holds Tryd.pinned (.plain (OpenSpec.ofChange gaussNamesSpec)) gaussNamesCard

/-- THE TIED CARD OF 'carryalllaw02.GaussBack'. -/
def gaussBackCard : Claim7 := { stood := { row := gaussBackRow, standIns := [], harness := (true, "4a2a6e79a07079b24d3d7410671213a6680afc986ed8f28e674c668e187c59f8"), looks := true }, kinds := [], alts := [], laidByText := true, laidKinds := [.data, .data, .data, .data, .sentinel, .sentinel, .pinned], laidTests := true, laidLooks := .later }
def GaussBackCardSaid : Prop := Claim7.holds Tryd.pinned (.plain (OpenSpec.ofChange gaussBackSpec)) gaussBackCard

/-- THE SECOND FORM's CARD OF 'carryalllaw02.GaussRing'. -/
def gaussRingUptoCard : Claim7 := { stood := { row := gaussRingUptoRow, standIns := [], harness := (true, "4a2a6e79a07079b24d3d7410671213a6680afc986ed8f28e674c668e187c59f8"), looks := true }, kinds := [], alts := [], laidByText := true, laidKinds := [.data, .data, .data], laidTests := true, laidLooks := .later }
def GaussRingUptoCardSaid : Prop := Claim7.holds Tryd.pinned (.plain (OpenSpec.upto gaussRingSpec)) gaussRingUptoCard

/-- THE SECOND FORM's CARD OF 'carryalllaw02.GaussNorms'. -/
def gaussNormsUptoCard : Claim7 := { stood := { row := gaussNormsUptoRow, standIns := [], harness := (true, "4a2a6e79a07079b24d3d7410671213a6680afc986ed8f28e674c668e187c59f8"), looks := true }, kinds := [], alts := [], laidByText := true, laidKinds := [.data, .data, .data], laidTests := true, laidLooks := .later }
def GaussNormsUptoCardSaid : Prop := Claim7.holds Tryd.pinned (.plain (OpenSpec.upto gaussNormsSpec)) gaussNormsUptoCard

/-- THE SECOND FORM's CARD OF 'carryalllaw02.GaussTexts'. -/
def gaussTextsUptoCard : Claim7 := { stood := { row := gaussTextsUptoRow, standIns := [], harness := (true, "4a2a6e79a07079b24d3d7410671213a6680afc986ed8f28e674c668e187c59f8"), looks := true }, kinds := [], alts := [], laidByText := true, laidKinds := [.data, .data, .data, .data, .sentinel, .sentinel, .pinned], laidTests := true, laidLooks := .later }
def GaussTextsUptoCardSaid : Prop := Claim7.holds Tryd.pinned (.plain (OpenSpec.upto gaussTextsSpec)) gaussTextsUptoCard

/-- THE SECOND FORM's CARD OF 'carryalllaw02.GaussNames'. -/
def gaussNamesUptoCard : Claim7 := { stood := { row := gaussNamesUptoRow, standIns := [], harness := (true, "4a2a6e79a07079b24d3d7410671213a6680afc986ed8f28e674c668e187c59f8"), looks := true }, kinds := [], alts := [], laidByText := true, laidKinds := [.data, .data, .data, .data, .sentinel, .sentinel, .pinned], laidTests := true, laidLooks := .later }
def GaussNamesUptoCardSaid : Prop := Claim7.holds Tryd.pinned (.plain (OpenSpec.upto gaussNamesSpec)) gaussNamesUptoCard

/-- THE SECOND FORM's CARD OF 'carryalllaw02.GaussBack'. -/
def gaussBackUptoCard : Claim7 := { stood := { row := gaussBackUptoRow, standIns := [], harness := (true, "4a2a6e79a07079b24d3d7410671213a6680afc986ed8f28e674c668e187c59f8"), looks := true }, kinds := [], alts := [], laidByText := true, laidKinds := [.data, .data, .data, .data, .sentinel, .sentinel, .pinned], laidTests := true, laidLooks := .later }
def GaussBackUptoCardSaid : Prop := Claim7.holds Tryd.pinned (.plain (OpenSpec.upto gaussBackSpec)) gaussBackUptoCard
end Rows
end Go.Proofs.YtodphfgopngpeaaDoor
