/-
  DERIVED. GIVEN WITH THE SEED: THE CARDS: each row of YthmjddnccgiinaaDoorRows.lean that lists a variable, with what it lists TIED to the program's text (the seventh form; the later family's looks); each row that meets fmt, with fmt's text TOLD by the authors' own Lean function (tested against real Go, not proved from fmt's source: count such statements apart). THE CARD IS WHAT COUNTS. Prove the row's statement (the work); the ties are given (YthmjddnccgiinaaDoorTie.lean); close each card by the builder's one call (the guide's Derived/Test/ToyasCard.lean, 'card_holds'). Laid BY PROGRAM, IN A SANDBOX (cutbox-door.mjs). By AI agents, Wed Nov 11 2026. No macro, syntax, notation, axiom, sorry.
-/
import Derived.Test.YthmjddnccgiinaaDoorRows
import GoSem.ClaimSeven
namespace Go.Proofs.YthmjddnccgiinaaDoor
namespace Rows

/-- THE TIED CARD OF 'carryalllaw16.CallTells'. -/
def callTellsCard : Claim7 := { stood := { row := callTellsRow, standIns := [], harness := (true, "35df71ac241aca937c09b5bbbd158f3b59107e6994d8058cad934fffc9d3e923"), looks := true }, kinds := [], alts := [], laidByText := true, laidKinds := [.data, .data], laidTests := true, laidLooks := .later }
def CallTellsCardSaid : Prop := Claim7.holds Tryd.pinned (.plain (OpenSpec.ofChange callTellsSpec)) callTellsCard

/-- THE TIED CARD OF 'carryalllaw16.CallRegs'. -/
def callRegsCard : Claim7 := { stood := { row := callRegsRow, standIns := [], harness := (true, "35df71ac241aca937c09b5bbbd158f3b59107e6994d8058cad934fffc9d3e923"), looks := true }, kinds := [], alts := [], laidByText := true, laidKinds := [.data, .data, .data, .data, .data], laidTests := true, laidLooks := .later }
def CallRegsCardSaid : Prop := Claim7.holds Tryd.pinned (.plain (OpenSpec.ofChange callRegsSpec)) callRegsCard

/-- THE TIED CARD OF 'carryalllaw16.CallRuns'. -/
def callRunsCard : Claim7 := { stood := { row := callRunsRow, standIns := [], harness := (true, "35df71ac241aca937c09b5bbbd158f3b59107e6994d8058cad934fffc9d3e923"), looks := true }, kinds := [], alts := [], laidByText := true, laidKinds := [.data, .data, .data, .data, .data, .data, .data, .pinned], laidTests := true, laidLooks := .later }
def CallRunsCardSaid : Prop := Claim7.holds Tryd.pinned (.plain (OpenSpec.ofChange callRunsSpec)) callRunsCard

/-- THE TIED CARD OF 'carryalllaw16.CallLines'. -/
def callLinesCard : Claim7 := { stood := { row := callLinesRow, standIns := [], harness := (true, "35df71ac241aca937c09b5bbbd158f3b59107e6994d8058cad934fffc9d3e923"), looks := true }, kinds := [], alts := [], laidByText := true, laidKinds := [.data, .data, .data, .data, .sentinel, .sentinel, .data, .pinned], laidTests := true, laidLooks := .later }
def CallLinesCardSaid : Prop := Claim7.holds Tryd.pinned (.plain (OpenSpec.ofChange callLinesSpec)) callLinesCard

/-- THE TIED CARD OF 'carryalllaw16.CallNames'. -/
def callNamesCard : Claim7 := { stood := { row := callNamesRow, standIns := [], harness := (true, "35df71ac241aca937c09b5bbbd158f3b59107e6994d8058cad934fffc9d3e923"), looks := true }, kinds := [], alts := [], laidByText := true, laidKinds := [.data, .data, .data, .data, .sentinel, .sentinel, .data, .data, .pinned], laidTests := true, laidLooks := .later }
def CallNamesCardSaid : Prop := Claim7.holds Tryd.pinned (.plain (OpenSpec.ofChange callNamesSpec)) callNamesCard

/-- THE TIED CARD OF 'carryalllaw16.CallBack'. -/
def callBackCard : Claim7 := { stood := { row := callBackRow, standIns := [], harness := (true, "35df71ac241aca937c09b5bbbd158f3b59107e6994d8058cad934fffc9d3e923"), looks := true }, kinds := [], alts := [], laidByText := true, laidKinds := [.data, .data, .data, .data, .sentinel, .sentinel, .data, .data, .pinned], laidTests := true, laidLooks := .later }
def CallBackCardSaid : Prop := Claim7.holds Tryd.pinned (.plain (OpenSpec.ofChange callBackSpec)) callBackCard

/-- THE SECOND FORM's CARD OF 'carryalllaw16.CallTells'. -/
def callTellsUptoCard : Claim7 := { stood := { row := callTellsUptoRow, standIns := [], harness := (true, "35df71ac241aca937c09b5bbbd158f3b59107e6994d8058cad934fffc9d3e923"), looks := true }, kinds := [], alts := [], laidByText := true, laidKinds := [.data, .data], laidTests := true, laidLooks := .later }
def CallTellsUptoCardSaid : Prop := Claim7.holds Tryd.pinned (.plain (OpenSpec.upto callTellsSpec)) callTellsUptoCard

/-- THE SECOND FORM's CARD OF 'carryalllaw16.CallRegs'. -/
def callRegsUptoCard : Claim7 := { stood := { row := callRegsUptoRow, standIns := [], harness := (true, "35df71ac241aca937c09b5bbbd158f3b59107e6994d8058cad934fffc9d3e923"), looks := true }, kinds := [], alts := [], laidByText := true, laidKinds := [.data, .data, .data, .data, .data], laidTests := true, laidLooks := .later }
def CallRegsUptoCardSaid : Prop := Claim7.holds Tryd.pinned (.plain (OpenSpec.upto callRegsSpec)) callRegsUptoCard

/-- THE SECOND FORM's CARD OF 'carryalllaw16.CallRuns'. -/
def callRunsUptoCard : Claim7 := { stood := { row := callRunsUptoRow, standIns := [], harness := (true, "35df71ac241aca937c09b5bbbd158f3b59107e6994d8058cad934fffc9d3e923"), looks := true }, kinds := [], alts := [], laidByText := true, laidKinds := [.data, .data, .data, .data, .data, .data, .data, .pinned], laidTests := true, laidLooks := .later }
def CallRunsUptoCardSaid : Prop := Claim7.holds Tryd.pinned (.plain (OpenSpec.upto callRunsSpec)) callRunsUptoCard

/-- THE SECOND FORM's CARD OF 'carryalllaw16.CallLines'. -/
def callLinesUptoCard : Claim7 := { stood := { row := callLinesUptoRow, standIns := [], harness := (true, "35df71ac241aca937c09b5bbbd158f3b59107e6994d8058cad934fffc9d3e923"), looks := true }, kinds := [], alts := [], laidByText := true, laidKinds := [.data, .data, .data, .data, .sentinel, .sentinel, .data, .pinned], laidTests := true, laidLooks := .later }
def CallLinesUptoCardSaid : Prop := Claim7.holds Tryd.pinned (.plain (OpenSpec.upto callLinesSpec)) callLinesUptoCard

/-- THE SECOND FORM's CARD OF 'carryalllaw16.CallNames'. -/
def callNamesUptoCard : Claim7 := { stood := { row := callNamesUptoRow, standIns := [], harness := (true, "35df71ac241aca937c09b5bbbd158f3b59107e6994d8058cad934fffc9d3e923"), looks := true }, kinds := [], alts := [], laidByText := true, laidKinds := [.data, .data, .data, .data, .sentinel, .sentinel, .data, .data, .pinned], laidTests := true, laidLooks := .later }
def CallNamesUptoCardSaid : Prop := Claim7.holds Tryd.pinned (.plain (OpenSpec.upto callNamesSpec)) callNamesUptoCard

/-- THE SECOND FORM's CARD OF 'carryalllaw16.CallBack'. -/
def callBackUptoCard : Claim7 := { stood := { row := callBackUptoRow, standIns := [], harness := (true, "35df71ac241aca937c09b5bbbd158f3b59107e6994d8058cad934fffc9d3e923"), looks := true }, kinds := [], alts := [], laidByText := true, laidKinds := [.data, .data, .data, .data, .sentinel, .sentinel, .data, .data, .pinned], laidTests := true, laidLooks := .later }
def CallBackUptoCardSaid : Prop := Claim7.holds Tryd.pinned (.plain (OpenSpec.upto callBackSpec)) callBackUptoCard
end Rows
end Go.Proofs.YthmjddnccgiinaaDoor
