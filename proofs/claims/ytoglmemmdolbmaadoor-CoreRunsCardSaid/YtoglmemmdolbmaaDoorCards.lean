/-
  DERIVED. GIVEN WITH THE SEED: THE CARDS: each row of YtoglmemmdolbmaaDoorRows.lean that lists a variable, with what it lists TIED to the program's text (the seventh form; the later family's looks); each row that meets fmt, with fmt's text TOLD by the authors' own Lean function (tested against real Go, not proved from fmt's source: count such statements apart). THE CARD IS WHAT COUNTS. Prove the row's statement (the work); the ties are given (YtoglmemmdolbmaaDoorTie.lean); close each card by the builder's one call (the guide's Derived/Test/ToyasCard.lean, 'card_holds'). Laid BY PROGRAM, IN A SANDBOX (cutbox-door.mjs). By AI agents, Wed Nov 11 2026. No macro, syntax, notation, axiom, sorry.
-/
import Derived.Test.YtoglmemmdolbmaaDoorRows
import GoSem.ClaimSeven
namespace Go.Proofs.YtoglmemmdolbmaaDoor
namespace Rows

/-- THE TIED CARD OF 'carryalllaw07.CoreSums'. -/
def coreSumsCard : Claim7 := { stood := { row := coreSumsRow, standIns := [], harness := (true, "2526afef52a114bc2f45f199b7c7775acf4555d1d22651f6c82e789cad1faccc"), looks := false }, kinds := [], alts := [], laidByText := true, laidKinds := [.data, .data, .data, .data, .data, .pinned], laidTests := true, laidLooks := .later }
def CoreSumsCardSaid : Prop := Claim7.holds Tryd.pinned (.plain (OpenSpec.ofChange coreSumsSpec)) coreSumsCard

/-- THE TIED CARD OF 'carryalllaw07.CoreSteps'. -/
def coreStepsCard : Claim7 := { stood := { row := coreStepsRow, standIns := [], harness := (true, "2526afef52a114bc2f45f199b7c7775acf4555d1d22651f6c82e789cad1faccc"), looks := false }, kinds := [], alts := [], laidByText := true, laidKinds := [.data], laidTests := true, laidLooks := .later }
def CoreStepsCardSaid : Prop := Claim7.holds Tryd.pinned (.plain (OpenSpec.ofChange coreStepsSpec)) coreStepsCard

/-- THE TIED CARD OF 'carryalllaw07.CoreRuns'. -/
def coreRunsCard : Claim7 := { stood := { row := coreRunsRow, standIns := [], harness := (true, "2526afef52a114bc2f45f199b7c7775acf4555d1d22651f6c82e789cad1faccc"), looks := false }, kinds := [], alts := [], laidByText := true, laidKinds := [.data], laidTests := true, laidLooks := .later }
def CoreRunsCardSaid : Prop := Claim7.holds Tryd.pinned (.plain (OpenSpec.ofChange coreRunsSpec)) coreRunsCard

/-- THE TIED CARD OF 'carryalllaw07.CoreNames'. -/
def coreNamesCard : Claim7 := { stood := { row := coreNamesRow, standIns := [], harness := (true, "2526afef52a114bc2f45f199b7c7775acf4555d1d22651f6c82e789cad1faccc"), looks := false }, kinds := [], alts := [], laidByText := true, laidKinds := [.data, .data, .data, .data, .data, .pinned], laidTests := true, laidLooks := .later }
def CoreNamesCardSaid : Prop := Claim7.holds Tryd.pinned (.plain (OpenSpec.ofChange coreNamesSpec)) coreNamesCard

/-- THE TIED CARD OF 'carryalllaw07.CoreCalls'. -/
def coreCallsCard : Claim7 := { stood := { row := coreCallsRow, standIns := [], harness := (true, "2526afef52a114bc2f45f199b7c7775acf4555d1d22651f6c82e789cad1faccc"), looks := false }, kinds := [], alts := [], laidByText := true, laidKinds := [.data, .data, .data, .data, .data, .pinned], laidTests := true, laidLooks := .later }
def CoreCallsCardSaid : Prop := Claim7.holds Tryd.pinned (.plain (OpenSpec.ofChange coreCallsSpec)) coreCallsCard

/-- THE SECOND FORM's CARD OF 'carryalllaw07.CoreSums'. -/
def coreSumsUptoCard : Claim7 := { stood := { row := coreSumsUptoRow, standIns := [], harness := (true, "2526afef52a114bc2f45f199b7c7775acf4555d1d22651f6c82e789cad1faccc"), looks := false }, kinds := [], alts := [], laidByText := true, laidKinds := [.data, .data, .data, .data, .data, .pinned], laidTests := true, laidLooks := .later }
def CoreSumsUptoCardSaid : Prop := Claim7.holds Tryd.pinned (.plain (OpenSpec.upto coreSumsSpec)) coreSumsUptoCard

/-- THE SECOND FORM's CARD OF 'carryalllaw07.CoreSteps'. -/
def coreStepsUptoCard : Claim7 := { stood := { row := coreStepsUptoRow, standIns := [], harness := (true, "2526afef52a114bc2f45f199b7c7775acf4555d1d22651f6c82e789cad1faccc"), looks := false }, kinds := [], alts := [], laidByText := true, laidKinds := [.data], laidTests := true, laidLooks := .later }
def CoreStepsUptoCardSaid : Prop := Claim7.holds Tryd.pinned (.plain (OpenSpec.upto coreStepsSpec)) coreStepsUptoCard

/-- THE SECOND FORM's CARD OF 'carryalllaw07.CoreRuns'. -/
def coreRunsUptoCard : Claim7 := { stood := { row := coreRunsUptoRow, standIns := [], harness := (true, "2526afef52a114bc2f45f199b7c7775acf4555d1d22651f6c82e789cad1faccc"), looks := false }, kinds := [], alts := [], laidByText := true, laidKinds := [.data], laidTests := true, laidLooks := .later }
def CoreRunsUptoCardSaid : Prop := Claim7.holds Tryd.pinned (.plain (OpenSpec.upto coreRunsSpec)) coreRunsUptoCard

/-- THE SECOND FORM's CARD OF 'carryalllaw07.CoreNames'. -/
def coreNamesUptoCard : Claim7 := { stood := { row := coreNamesUptoRow, standIns := [], harness := (true, "2526afef52a114bc2f45f199b7c7775acf4555d1d22651f6c82e789cad1faccc"), looks := false }, kinds := [], alts := [], laidByText := true, laidKinds := [.data, .data, .data, .data, .data, .pinned], laidTests := true, laidLooks := .later }
def CoreNamesUptoCardSaid : Prop := Claim7.holds Tryd.pinned (.plain (OpenSpec.upto coreNamesSpec)) coreNamesUptoCard

/-- THE SECOND FORM's CARD OF 'carryalllaw07.CoreCalls'. -/
def coreCallsUptoCard : Claim7 := { stood := { row := coreCallsUptoRow, standIns := [], harness := (true, "2526afef52a114bc2f45f199b7c7775acf4555d1d22651f6c82e789cad1faccc"), looks := false }, kinds := [], alts := [], laidByText := true, laidKinds := [.data, .data, .data, .data, .data, .pinned], laidTests := true, laidLooks := .later }
def CoreCallsUptoCardSaid : Prop := Claim7.holds Tryd.pinned (.plain (OpenSpec.upto coreCallsSpec)) coreCallsUptoCard
end Rows
end Go.Proofs.YtoglmemmdolbmaaDoor
