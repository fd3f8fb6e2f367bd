/-
  DERIVED. GIVEN WITH THE SEED: THE CARDS: each row of YtkodeoocebimkaaDoorRows.lean that lists a variable, with what it lists TIED to the program's text (the seventh form; the later family's looks); each row that meets fmt, with fmt's text TOLD by the authors' own Lean function (tested against real Go, not proved from fmt's source: count such statements apart). THE CARD IS WHAT COUNTS. Prove the row's statement (the work); the ties are given (YtkodeoocebimkaaDoorTie.lean); close each card by the builder's one call (the guide's Derived/Test/ToyasCard.lean, 'card_holds'). Laid BY PROGRAM, IN A SANDBOX (cutbox-door.mjs). By AI agents, Wed Nov 11 2026. No macro, syntax, notation, axiom, sorry.
-/
import Derived.Test.YtkodeoocebimkaaDoorRows
import GoSem.ClaimSeven
namespace Go.Proofs.YtkodeoocebimkaaDoor
namespace Rows

/-- THE TIED CARD OF 'carryalllaw03.IsaWords'. -/
def isaWordsCard : Claim7 := { stood := { row := isaWordsRow, standIns := [], harness := (true, "012f0f432c6a098fa836fad5c5d53305918066b711ab0176828001c7c4cc3acf"), looks := false }, kinds := [], alts := [], laidByText := true, laidKinds := [.data, .data, .data, .data, .data, .pinned], laidTests := true, laidLooks := .later }
def IsaWordsCardSaid : Prop := Claim7.holds Tryd.pinned (.plain (OpenSpec.ofChange isaWordsSpec)) isaWordsCard

/-- THE TIED CARD OF 'carryalllaw03.IsaApart'. -/
def isaApartCard : Claim7 := { stood := { row := isaApartRow, standIns := [], harness := (true, "012f0f432c6a098fa836fad5c5d53305918066b711ab0176828001c7c4cc3acf"), looks := false }, kinds := [], alts := [], laidByText := true, laidKinds := [.data, .data, .data, .data, .data, .pinned], laidTests := true, laidLooks := .later }
def IsaApartCardSaid : Prop := Claim7.holds Tryd.pinned (.plain (OpenSpec.ofChange isaApartSpec)) isaApartCard

/-- THE TIED CARD OF 'carryalllaw03.IsaBack'. -/
def isaBackCard : Claim7 := { stood := { row := isaBackRow, standIns := [], harness := (true, "012f0f432c6a098fa836fad5c5d53305918066b711ab0176828001c7c4cc3acf"), looks := false }, kinds := [], alts := [], laidByText := true, laidKinds := [.data, .data, .data, .data, .data, .pinned], laidTests := true, laidLooks := .later }
def IsaBackCardSaid : Prop := Claim7.holds Tryd.pinned (.plain (OpenSpec.ofChange isaBackSpec)) isaBackCard

/-- THE TIED CARD OF 'carryalllaw03.IsaNames'. -/
def isaNamesCard : Claim7 := { stood := { row := isaNamesRow, standIns := [], harness := (true, "012f0f432c6a098fa836fad5c5d53305918066b711ab0176828001c7c4cc3acf"), looks := false }, kinds := [], alts := [], laidByText := true, laidKinds := [.data, .data, .data, .data, .data, .pinned], laidTests := true, laidLooks := .later }
def IsaNamesCardSaid : Prop := Claim7.holds Tryd.pinned (.plain (OpenSpec.ofChange isaNamesSpec)) isaNamesCard

/-- THE TIED CARD OF 'carryalllaw03.IsaLists'. -/
def isaListsCard : Claim7 := { stood := { row := isaListsRow, standIns := [], harness := (true, "012f0f432c6a098fa836fad5c5d53305918066b711ab0176828001c7c4cc3acf"), looks := false }, kinds := [], alts := [], laidByText := true, laidKinds := [.data, .data, .data, .data, .data, .pinned], laidTests := true, laidLooks := .later }
def IsaListsCardSaid : Prop := Claim7.holds Tryd.pinned (.plain (OpenSpec.ofChange isaListsSpec)) isaListsCard

/-- THE TIED CARD OF 'carryalllaw03.IsaJumps'. -/
def isaJumpsCard : Claim7 := { stood := { row := isaJumpsRow, standIns := [], harness := (true, "012f0f432c6a098fa836fad5c5d53305918066b711ab0176828001c7c4cc3acf"), looks := false }, kinds := [], alts := [], laidByText := true, laidKinds := [.data, .data, .data, .data, .data, .pinned], laidTests := true, laidLooks := .later }
def IsaJumpsCardSaid : Prop := Claim7.holds Tryd.pinned (.plain (OpenSpec.ofChange isaJumpsSpec)) isaJumpsCard

/-- THE TIED CARD OF 'carryalllaw03.IsaAssembles'. -/
def isaAssemblesCard : Claim7 := { stood := { row := isaAssemblesRow, standIns := [], harness := (true, "012f0f432c6a098fa836fad5c5d53305918066b711ab0176828001c7c4cc3acf"), looks := false }, kinds := [], alts := [], laidByText := true, laidKinds := [.data, .data, .data, .data, .data, .pinned], laidTests := true, laidLooks := .later }
def IsaAssemblesCardSaid : Prop := Claim7.holds Tryd.pinned (.plain (OpenSpec.ofChange isaAssemblesSpec)) isaAssemblesCard

/-- THE SECOND FORM's CARD OF 'carryalllaw03.IsaWords'. -/
def isaWordsUptoCard : Claim7 := { stood := { row := isaWordsUptoRow, standIns := [], harness := (true, "012f0f432c6a098fa836fad5c5d53305918066b711ab0176828001c7c4cc3acf"), looks := false }, kinds := [], alts := [], laidByText := true, laidKinds := [.data, .data, .data, .data, .data, .pinned], laidTests := true, laidLooks := .later }
def IsaWordsUptoCardSaid : Prop := Claim7.holds Tryd.pinned (.plain (OpenSpec.upto isaWordsSpec)) isaWordsUptoCard

/-- THE SECOND FORM's CARD OF 'carryalllaw03.IsaApart'. -/
def isaApartUptoCard : Claim7 := { stood := { row := isaApartUptoRow, standIns := [], harness := (true, "012f0f432c6a098fa836fad5c5d53305918066b711ab0176828001c7c4cc3acf"), looks := false }, kinds := [], alts := [], laidByText := true, laidKinds := [.data, .data, .data, .data, .data, .pinned], laidTests := true, laidLooks := .later }
def IsaApartUptoCardSaid : Prop := Claim7.holds Tryd.pinned (.plain (OpenSpec.upto isaApartSpec)) isaApartUptoCard

/-- THE SECOND FORM's CARD OF 'carryalllaw03.IsaBack'. -/
def isaBackUptoCard : Claim7 := { stood := { row := isaBackUptoRow, standIns := [], harness := (true, "012f0f432c6a098fa836fad5c5d53305918066b711ab0176828001c7c4cc3acf"), looks := false }, kinds := [], alts := [], laidByText := true, laidKinds := [.data, .data, .data, .data, .data, .pinned], laidTests := true, laidLooks := .later }
def IsaBackUptoCardSaid : Prop := Claim7.holds Tryd.pinned (.plain (OpenSpec.upto isaBackSpec)) isaBackUptoCard

/-- THE SECOND FORM's CARD OF 'carryalllaw03.IsaNames'. -/
def isaNamesUptoCard : Claim7 := { stood := { row := isaNamesUptoRow, standIns := [], harness := (true, "012f0f432c6a098fa836fad5c5d53305918066b711ab0176828001c7c4cc3acf"), looks := false }, kinds := [], alts := [], laidByText := true, laidKinds := [.data, .data, .data, .data, .data, .pinned], laidTests := true, laidLooks := .later }
def IsaNamesUptoCardSaid : Prop := Claim7.holds Tryd.pinned (.plain (OpenSpec.upto isaNamesSpec)) isaNamesUptoCard

/-- THE SECOND FORM's CARD OF 'carryalllaw03.IsaLists'. -/
def isaListsUptoCard : Claim7 := { stood := { row := isaListsUptoRow, standIns := [], harness := (true, "012f0f432c6a098fa836fad5c5d53305918066b711ab0176828001c7c4cc3acf"), looks := false }, kinds := [], alts := [], laidByText := true, laidKinds := [.data, .data, .data, .data, .data, .pinned], laidTests := true, laidLooks := .later }
def IsaListsUptoCardSaid : Prop := Claim7.holds Tryd.pinned (.plain (OpenSpec.upto isaListsSpec)) isaListsUptoCard

/-- THE SECOND FORM's CARD OF 'carryalllaw03.IsaJumps'. -/
def isaJumpsUptoCard : Claim7 := { stood := { row := isaJumpsUptoRow, standIns := [], harness := (true, "012f0f432c6a098fa836fad5c5d53305918066b711ab0176828001c7c4cc3acf"), looks := false }, kinds := [], alts := [], laidByText := true, laidKinds := [.data, .data, .data, .data, .data, .pinned], laidTests := true, laidLooks := .later }
def IsaJumpsUptoCardSaid : Prop := Claim7.holds Tryd.pinned (.plain (OpenSpec.upto isaJumpsSpec)) isaJumpsUptoCard

/-- THE SECOND FORM's CARD OF 'carryalllaw03.IsaAssembles'. -/
def isaAssemblesUptoCard : Claim7 := { stood := { row := isaAssemblesUptoRow, standIns := [], harness := (true, "012f0f432c6a098fa836fad5c5d53305918066b711ab0176828001c7c4cc3acf"), looks := false }, kinds := [], alts := [], laidByText := true, laidKinds := [.data, .data, .data, .data, .data, .pinned], laidTests := true, laidLooks := .later }
def IsaAssemblesUptoCardSaid : Prop := Claim7.holds Tryd.pinned (.plain (OpenSpec.upto isaAssemblesSpec)) isaAssemblesUptoCard
end Rows
end Go.Proofs.YtkodeoocebimkaaDoor
