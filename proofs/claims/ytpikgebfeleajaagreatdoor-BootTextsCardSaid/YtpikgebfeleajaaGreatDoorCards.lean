/-
  DERIVED. GIVEN WITH THE SEED: THE CARDS: each row of YtpikgebfeleajaaGreatDoorRows.lean that lists a variable, with what it lists TIED to the program's text (the seventh form; the later family's looks); each row that meets fmt, with fmt's text TOLD by the authors' own Lean function (tested against real Go, not proved from fmt's source: count such statements apart). THE CARD IS WHAT COUNTS. Prove the row's statement (the work); the ties are given (YtpikgebfeleajaaGreatDoorTie.lean); close each card by the builder's one call (the guide's Derived/Test/ToyasCard.lean, 'card_holds'). Laid BY PROGRAM, IN A SANDBOX (cutbox-door.mjs). By AI agents, Wed Nov 11 2026. No macro, syntax, notation, axiom, sorry.
-/
import Derived.Test.YtpikgebfeleajaaGreatDoorRows
import GoSem.ClaimSeven
namespace Go.Proofs.YtpikgebfeleajaaGreatDoor
namespace Rows

/-- THE TIED CARD OF 'carryalllaw19.BootTexts'. -/
def bootTextsCard : Claim7 := { stood := { row := bootTextsRow, standIns := [], harness := (true, "4e73569eee38b5c7a8fa9894e7b012823cc5e695e5c417e53bd8539c9e98d112"), looks := true }, kinds := [], alts := [], laidByText := true, laidKinds := [.data, .data, .data, .data, .sentinel, .sentinel, .data, .data, .pinned], laidTests := true, laidLooks := .later }
def BootTextsCardSaid : Prop := Claim7.holds Tryz.pinned (.plain (OpenSpec.ofChange bootTextsSpec)) bootTextsCard

/-- THE TIED CARD OF 'carryalllaw19.BootWords'. -/
def bootWordsCard : Claim7 := { stood := { row := bootWordsRow, standIns := [], harness := (true, "4e73569eee38b5c7a8fa9894e7b012823cc5e695e5c417e53bd8539c9e98d112"), looks := true }, kinds := [], alts := [], laidByText := true, laidKinds := [.data, .data, .data, .data, .sentinel, .sentinel, .data, .data, .pinned], laidTests := true, laidLooks := .later }
def BootWordsCardSaid : Prop := Claim7.holds Tryz.pinned (.plain (OpenSpec.ofChange bootWordsSpec)) bootWordsCard

/-- THE TIED CARD OF 'carryalllaw19.BootNames'. -/
def bootNamesCard : Claim7 := { stood := { row := bootNamesRow, standIns := [], harness := (true, "4e73569eee38b5c7a8fa9894e7b012823cc5e695e5c417e53bd8539c9e98d112"), looks := true }, kinds := [], alts := [], laidByText := true, laidKinds := [.data, .data, .data, .data, .sentinel, .sentinel, .data, .data, .pinned], laidTests := true, laidLooks := .later }
def BootNamesCardSaid : Prop := Claim7.holds Tryz.pinned (.plain (OpenSpec.ofChange bootNamesSpec)) bootNamesCard

/-- THE SECOND FORM's CARD OF 'carryalllaw19.BootTexts'. -/
def bootTextsUptoCard : Claim7 := { stood := { row := bootTextsUptoRow, standIns := [], harness := (true, "4e73569eee38b5c7a8fa9894e7b012823cc5e695e5c417e53bd8539c9e98d112"), looks := true }, kinds := [], alts := [], laidByText := true, laidKinds := [.data, .data, .data, .data, .sentinel, .sentinel, .data, .data, .pinned], laidTests := true, laidLooks := .later }
def BootTextsUptoCardSaid : Prop := Claim7.holds Tryz.pinned (.plain (OpenSpec.upto bootTextsSpec)) bootTextsUptoCard

/-- THE SECOND FORM's CARD OF 'carryalllaw19.BootWords'. -/
def bootWordsUptoCard : Claim7 := { stood := { row := bootWordsUptoRow, standIns := [], harness := (true, "4e73569eee38b5c7a8fa9894e7b012823cc5e695e5c417e53bd8539c9e98d112"), looks := true }, kinds := [], alts := [], laidByText := true, laidKinds := [.data, .data, .data, .data, .sentinel, .sentinel, .data, .data, .pinned], laidTests := true, laidLooks := .later }
def BootWordsUptoCardSaid : Prop := Claim7.holds Tryz.pinned (.plain (OpenSpec.upto bootWordsSpec)) bootWordsUptoCard

/-- THE SECOND FORM's CARD OF 'carryalllaw19.BootNames'. -/
def bootNamesUptoCard : Claim7 := { stood := { row := bootNamesUptoRow, standIns := [], harness := (true, "4e73569eee38b5c7a8fa9894e7b012823cc5e695e5c417e53bd8539c9e98d112"), looks := true }, kinds := [], alts := [], laidByText := true, laidKinds := [.data, .data, .data, .data, .sentinel, .sentinel, .data, .data, .pinned], laidTests := true, laidLooks := .later }
def BootNamesUptoCardSaid : Prop := Claim7.holds Tryz.pinned (.plain (OpenSpec.upto bootNamesSpec)) bootNamesUptoCard
end Rows
end Go.Proofs.YtpikgebfeleajaaGreatDoor
