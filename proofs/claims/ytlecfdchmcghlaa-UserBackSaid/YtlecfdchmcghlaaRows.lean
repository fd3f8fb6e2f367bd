/-
  No cell of these rows narrows 'for every input' (looked for: loops, veiled, ifaces, maps, wideKeys, modest, calm, conditions, laid).
  DERIVED. THE GIVEN ROWS OF THIS SEAT. 3 by the template 'for every input the law returns true; each argument reads behind the call as it read before'; 0 by the template 'total and deterministic' (their statements: YtlecfdchmcghlaaTotals.lean).
  GIVEN WITH THE SEED: the statements are not yours to turn. If you find one false, say at which input.
  Laid BY PROGRAM, IN A SANDBOX (cutbox-rows.mjs): the forced cells as the released guide's own fill.sh prints them over the translation 04c7966aef19989d… (all of the seat's roots in one cut). By AI agents, Wed Nov 11 2026. No macro, syntax, notation, axiom, sorry.
-/
import Derived.Test.YtlecfdchmcghlaaChecked
import GoSem.Claim
import GoSem.ClaimJoined
import GoSem.ClaimMapViews
import Derived.JoinedTies
import Derived.KernelRfl
namespace Go.Proofs.Ytlecfdchmcghlaa
/- THE CELL 'sum', in the pinned program and in every row, IS THE sha256 OF THE DUMP (.gsa) THAT YtlecfdchmcghlaaProg.lean LOADS. Nothing in Lean hashes anything: it is a label: what it is worth is what the hold of that sum in a sandbox is worth. -/
noncomputable def Try.pinned : Pinned := { name := "ytlecfdchmcghlaa", sum := "04c7966aef19989d938e3ef1fba18a0fc542689dbfb721f06133db5d1799bbf2", checked := Try.checked }
namespace Rows
def none {H : Type} : Left H := { results := [], args := [] }

/-- 'carryalllaw17.UserEnds': WHATEVER THE INPUT: true; the input reads as it did. -/
def userEndsSpec : ChangeSpec := { name := "userEnds", fn := fun _ => fun
  | [d1, d2, d3] => { results := [.lit (.bool true)], args := [d1, d2, d3] }
  | _ => none }
def userEndsRow : OpenClaim := { program := "ytlecfdchmcghlaa", sum := "04c7966aef19989d938e3ef1fba18a0fc542689dbfb721f06133db5d1799bbf2", func := "carryall/carryalllaw17.UserEnds", spec := "userEnds", inPlace := ["internal/bytealg.IndexByteString"], unfollowed := true, recurses := true, apart := false }
def UserEndsSaid : Prop := userEndsRow.holds Try.pinned (OpenSpec.ofChange userEndsSpec)

/-- ITS FALSE NEIGHBOUR: 'it returns false'. Refute it at one input. -/
def userEndsWrong : ChangeSpec := { name := "userEnds", fn := fun _ => fun
  | [d1, d2, d3] => { results := [.lit (.bool false)], args := [d1, d2, d3] }
  | _ => none }
def UserEndsWrongFalsely : Prop := userEndsRow.holds Try.pinned (OpenSpec.ofChange userEndsWrong)

/-- 'carryalllaw17.UserBack': WHATEVER THE INPUT: true; the input reads as it did. -/
def userBackSpec : ChangeSpec := { name := "userBack", fn := fun _ => fun
  | [d1, d2, d3, d4] => { results := [.lit (.bool true)], args := [d1, d2, d3, d4] }
  | _ => none }
def userBackRow : OpenClaim := { program := "ytlecfdchmcghlaa", sum := "04c7966aef19989d938e3ef1fba18a0fc542689dbfb721f06133db5d1799bbf2", func := "carryall/carryalllaw17.UserBack", spec := "userBack", inPlace := ["internal/bytealg.IndexByteString"], unfollowed := true, recurses := true, apart := false }
def UserBackSaid : Prop := userBackRow.holds Try.pinned (OpenSpec.ofChange userBackSpec)

/-- ITS FALSE NEIGHBOUR: 'it returns false'. Refute it at one input. -/
def userBackWrong : ChangeSpec := { name := "userBack", fn := fun _ => fun
  | [d1, d2, d3, d4] => { results := [.lit (.bool false)], args := [d1, d2, d3, d4] }
  | _ => none }
def UserBackWrongFalsely : Prop := userBackRow.holds Try.pinned (OpenSpec.ofChange userBackWrong)

/-- 'carryalllaw17.UserParts': WHATEVER THE INPUT: true; the input reads as it did. -/
def userPartsSpec : ChangeSpec := { name := "userParts", fn := fun _ => fun
  | [d1, d2, d3] => { results := [.lit (.bool true)], args := [d1, d2, d3] }
  | _ => none }
def userPartsRow : OpenClaim := { program := "ytlecfdchmcghlaa", sum := "04c7966aef19989d938e3ef1fba18a0fc542689dbfb721f06133db5d1799bbf2", func := "carryall/carryalllaw17.UserParts", spec := "userParts", inPlace := ["internal/bytealg.IndexByteString"], unfollowed := true, recurses := true, apart := false }
def UserPartsSaid : Prop := userPartsRow.holds Try.pinned (OpenSpec.ofChange userPartsSpec)

/-- ITS FALSE NEIGHBOUR: 'it returns false'. Refute it at one input. -/
def userPartsWrong : ChangeSpec := { name := "userParts", fn := fun _ => fun
  | [d1, d2, d3] => { results := [.lit (.bool false)], args := [d1, d2, d3] }
  | _ => none }
def UserPartsWrongFalsely : Prop := userPartsRow.holds Try.pinned (OpenSpec.ofChange userPartsWrong)

/- THE SECOND FORM. 'bulk': how many values and letters a reading holds, each counted each time it is reached (what is shared counts as often as it is met; a slice's spare places count too). A statement '..UptoSaid' is the law's where the arguments, and the package variables that the reading takes, are together of bulk at most 1048576: NARROWER than '..Said'. Prove '..Said' where nothing that the law and all that it calls make is longer than what came in: it says more and counts as full. Else prove '..UptoSaid'. A law counts once. -/
mutual
def uptoBulk {H : Type} : DataW H → Nat
  | .lit (.string bytes) => bytes.length + 1
  | .lit _ => 1
  | .nil => 1
  | .ptr d => uptoBulk d + 1
  | .slice elems spare => uptoBulkAll elems + uptoBulkAll spare + 1
  | .agg parts => uptoBulkAll parts + 1
  | .iface _ d => uptoBulk d + 1
  | .map entries => uptoBulkEntries entries + 1
  | .held _ => 1
def uptoBulkAll {H : Type} : List (DataW H) → Nat
  | [] => 0
  | d :: r => uptoBulk d + uptoBulkAll r
def uptoBulkEntries {H : Type} : List (Lit × DataW H) → Nat
  | [] => 0
  | x :: r => uptoBulkEntry x + uptoBulkEntries r
def uptoBulkEntry {H : Type} : Lit × DataW H → Nat
  | (.string bytes, d) => bytes.length + uptoBulk d + 1
  | (_, d) => uptoBulk d + 1
 end
def uptoSmall : (H : Type) → List (DataW H) → Bool := fun _ ds => decide (uptoBulkAll ds ≤ 1048576)
def OpenSpec.upto (s : _root_.Go.ChangeSpec) : _root_.Go.OpenSpec := { _root_.Go.OpenSpec.ofChange s with cond := some uptoSmall }

/-- 'carryalllaw17.UserEnds', WHERE WHAT IT READS IS OF BULK AT MOST 1048576: true; the input reads as it did. -/
def userEndsUptoRow : OpenClaim := { program := "ytlecfdchmcghlaa", sum := "04c7966aef19989d938e3ef1fba18a0fc542689dbfb721f06133db5d1799bbf2", func := "carryall/carryalllaw17.UserEnds", spec := "userEnds", inPlace := ["internal/bytealg.IndexByteString"], unfollowed := true, recurses := true, apart := false, narrowed := true }
def UserEndsUptoSaid : Prop := userEndsUptoRow.holds Try.pinned (OpenSpec.upto userEndsSpec)

/-- 'carryalllaw17.UserBack', WHERE WHAT IT READS IS OF BULK AT MOST 1048576: true; the input reads as it did. -/
def userBackUptoRow : OpenClaim := { program := "ytlecfdchmcghlaa", sum := "04c7966aef19989d938e3ef1fba18a0fc542689dbfb721f06133db5d1799bbf2", func := "carryall/carryalllaw17.UserBack", spec := "userBack", inPlace := ["internal/bytealg.IndexByteString"], unfollowed := true, recurses := true, apart := false, narrowed := true }
def UserBackUptoSaid : Prop := userBackUptoRow.holds Try.pinned (OpenSpec.upto userBackSpec)

/-- 'carryalllaw17.UserParts', WHERE WHAT IT READS IS OF BULK AT MOST 1048576: true; the input reads as it did. -/
def userPartsUptoRow : OpenClaim := { program := "ytlecfdchmcghlaa", sum := "04c7966aef19989d938e3ef1fba18a0fc542689dbfb721f06133db5d1799bbf2", func := "carryall/carryalllaw17.UserParts", spec := "userParts", inPlace := ["internal/bytealg.IndexByteString"], unfollowed := true, recurses := true, apart := false, narrowed := true }
def UserPartsUptoSaid : Prop := userPartsUptoRow.holds Try.pinned (OpenSpec.upto userPartsSpec)

end Rows
end Go.Proofs.Ytlecfdchmcghlaa
