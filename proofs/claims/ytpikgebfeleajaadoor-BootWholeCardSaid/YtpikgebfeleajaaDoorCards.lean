/-
  DERIVED. GIVEN WITH THE SEED: THE CARDS: each row of YtpikgebfeleajaaDoorRows.lean that lists a variable, with what it lists TIED to the program's text (the seventh form; the later family's looks); each row that meets fmt, with fmt's text TOLD by the authors' own Lean function (tested against real Go, not proved from fmt's source: count such statements apart). THE CARD IS WHAT COUNTS. Prove the row's statement (the work); the ties are given (YtpikgebfeleajaaDoorTie.lean); close each card by the builder's one call (the guide's Derived/Test/ToyasCard.lean, 'card_holds'). Laid BY PROGRAM, IN A SANDBOX (cutbox-door.mjs). By AI agents, Wed Nov 11 2026. No macro, syntax, notation, axiom, sorry.
-/
import Derived.Test.YtpikgebfeleajaaDoorRows
import GoSem.ClaimSeven
namespace Go.Proofs.YtpikgebfeleajaaDoor
namespace Rows

/-- THE TIED CARD OF 'carryalllaw19.BootBack'. -/
def bootBackCard : Claim7 := { stood := { row := bootBackRow, standIns := [], harness := (true, "815d9c4401d72e3278cb34f2cc3ed0d77b95e49942a0711bb31d69e2aa3c86aa"), looks := true }, kinds := [], alts := [], laidByText := true, laidKinds := [.data, .data, .data, .data, .sentinel, .sentinel, .data, .data, .pinned], laidTests := true, laidLooks := .later }
def BootBackCardSaid : Prop := Claim7.holds Tryd.pinned (.plain (OpenSpec.ofChange bootBackSpec)) bootBackCard

/-- THE TIED CARD OF 'carryalllaw19.BootSays'. -/
def bootSaysCard : Claim7 := { stood := { row := bootSaysRow, standIns := [], harness := (true, "815d9c4401d72e3278cb34f2cc3ed0d77b95e49942a0711bb31d69e2aa3c86aa"), looks := true }, kinds := [], alts := [], laidByText := true, laidKinds := [.data, .data, .data, .data, .sentinel, .sentinel, .data, .data, .pinned], laidTests := true, laidLooks := .later }
def BootSaysCardSaid : Prop := Claim7.holds Tryd.pinned (.plain (OpenSpec.ofChange bootSaysSpec)) bootSaysCard

/-- THE TIED CARD OF 'carryalllaw19.BootWhole'. -/
def bootWholeCard : Claim7 := { stood := { row := bootWholeRow, standIns := [], harness := (true, "815d9c4401d72e3278cb34f2cc3ed0d77b95e49942a0711bb31d69e2aa3c86aa"), looks := true }, kinds := [], alts := [], laidByText := true, laidKinds := [.data, .data, .data, .data, .sentinel, .sentinel, .data, .data, .pinned], laidTests := true, laidLooks := .later }
def BootWholeCardSaid : Prop := Claim7.holds Tryd.pinned (.plain (OpenSpec.ofChange bootWholeSpec)) bootWholeCard

/-- THE SECOND FORM's CARD OF 'carryalllaw19.BootBack'. -/
def bootBackUptoCard : Claim7 := { stood := { row := bootBackUptoRow, standIns := [], harness := (true, "815d9c4401d72e3278cb34f2cc3ed0d77b95e49942a0711bb31d69e2aa3c86aa"), looks := true }, kinds := [], alts := [], laidByText := true, laidKinds := [.data, .data, .data, .data, .sentinel, .sentinel, .data, .data, .pinned], laidTests := true, laidLooks := .later }
def BootBackUptoCardSaid : Prop := Claim7.holds Tryd.pinned (.plain (OpenSpec.upto bootBackSpec)) bootBackUptoCard

/-- THE SECOND FORM's CARD OF 'carryalllaw19.BootSays'. -/
def bootSaysUptoCard : Claim7 := { stood := { row := bootSaysUptoRow, standIns := [], harness := (true, "815d9c4401d72e3278cb34f2cc3ed0d77b95e49942a0711bb31d69e2aa3c86aa"), looks := true }, kinds := [], alts := [], laidByText := true, laidKinds := [.data, .data, .data, .data, .sentinel, .sentinel, .data, .data, .pinned], laidTests := true, laidLooks := .later }
def BootSaysUptoCardSaid : Prop := Claim7.holds Tryd.pinned (.plain (OpenSpec.upto bootSaysSpec)) bootSaysUptoCard

/-- THE SECOND FORM's CARD OF 'carryalllaw19.BootWhole'. -/
def bootWholeUptoCard : Claim7 := { stood := { row := bootWholeUptoRow, standIns := [], harness := (true, "815d9c4401d72e3278cb34f2cc3ed0d77b95e49942a0711bb31d69e2aa3c86aa"), looks := true }, kinds := [], alts := [], laidByText := true, laidKinds := [.data, .data, .data, .data, .sentinel, .sentinel, .data, .data, .pinned], laidTests := true, laidLooks := .later }
def BootWholeUptoCardSaid : Prop := Claim7.holds Tryd.pinned (.plain (OpenSpec.upto bootWholeSpec)) bootWholeUptoCard
end Rows
end Go.Proofs.YtpikgebfeleajaaDoor
