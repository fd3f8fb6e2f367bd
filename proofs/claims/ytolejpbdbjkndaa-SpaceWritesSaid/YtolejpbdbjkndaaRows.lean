/-
  No cell of these rows narrows 'for every input' (looked for: loops, veiled, ifaces, maps, wideKeys, modest, calm, conditions, laid).
  DERIVED. THE GIVEN ROWS OF THIS SEAT. 4 by the template 'for every input the law returns true; each argument reads behind the call as it read before'; 0 by the template 'total and deterministic' (their statements: YtolejpbdbjkndaaTotals.lean).
  GIVEN WITH THE SEED: the statements are not yours to turn. If you find one false, say at which input.
  Laid BY PROGRAM, IN A SANDBOX (cutbox-rows.mjs): the forced cells as the released guide's own fill.sh prints them over the translation 2d7f0ea23923a95c… (all of the seat's roots in one cut). By AI agents, Wed Nov 11 2026. No macro, syntax, notation, axiom, sorry.
-/
import Derived.Test.YtolejpbdbjkndaaChecked
import GoSem.Claim
import GoSem.ClaimJoined
import GoSem.ClaimMapViews
import Derived.JoinedTies
import Derived.KernelRfl
namespace Go.Proofs.Ytolejpbdbjkndaa
/- THE CELL 'sum', in the pinned program and in every row, IS THE sha256 OF THE DUMP (.gsa) THAT YtolejpbdbjkndaaProg.lean LOADS. Nothing in Lean hashes anything: it is a label: what it is worth is what the hold of that sum in a sandbox is worth. -/
noncomputable def Try.pinned : Pinned := { name := "ytolejpbdbjkndaa", sum := "2d7f0ea23923a95c6d58fa5b7d584d946f4b0e16f8c74c5734f318293cbb85e1", checked := Try.checked }
namespace Rows
def none {H : Type} : Left H := { results := [], args := [] }

/-- 'carryalllaw06.SpaceClones': WHATEVER THE INPUT: true; the input reads as it did. -/
def spaceClonesSpec : ChangeSpec := { name := "spaceClones", fn := fun _ => fun
  | [d1, d2, d3] => { results := [.lit (.bool true)], args := [d1, d2, d3] }
  | _ => none }
def spaceClonesRow : OpenClaim := { program := "ytolejpbdbjkndaa", sum := "2d7f0ea23923a95c6d58fa5b7d584d946f4b0e16f8c74c5734f318293cbb85e1", func := "carryall/carryalllaw06.SpaceClones", spec := "spaceClones", unfollowed := true, recurses := true, apart := false }
def SpaceClonesSaid : Prop := spaceClonesRow.holds Try.pinned (OpenSpec.ofChange spaceClonesSpec)

/-- ITS FALSE NEIGHBOUR: 'it returns false'. Refute it at one input. -/
def spaceClonesWrong : ChangeSpec := { name := "spaceClones", fn := fun _ => fun
  | [d1, d2, d3] => { results := [.lit (.bool false)], args := [d1, d2, d3] }
  | _ => none }
def SpaceClonesWrongFalsely : Prop := spaceClonesRow.holds Try.pinned (OpenSpec.ofChange spaceClonesWrong)

/-- 'carryalllaw06.SpaceNames': WHATEVER THE INPUT: true; the input reads as it did. -/
def spaceNamesSpec : ChangeSpec := { name := "spaceNames", fn := fun _ => fun
  | [] => { results := [.lit (.bool true)], args := [] }
  | _ => none }
def spaceNamesRow : OpenClaim := { program := "ytolejpbdbjkndaa", sum := "2d7f0ea23923a95c6d58fa5b7d584d946f4b0e16f8c74c5734f318293cbb85e1", func := "carryall/carryalllaw06.SpaceNames", spec := "spaceNames", unfollowed := true, recurses := true, apart := false }
def SpaceNamesSaid : Prop := spaceNamesRow.holds Try.pinned (OpenSpec.ofChange spaceNamesSpec)

/-- ITS FALSE NEIGHBOUR: 'it returns false'. Refute it at one input. -/
def spaceNamesWrong : ChangeSpec := { name := "spaceNames", fn := fun _ => fun
  | [] => { results := [.lit (.bool false)], args := [] }
  | _ => none }
def SpaceNamesWrongFalsely : Prop := spaceNamesRow.holds Try.pinned (OpenSpec.ofChange spaceNamesWrong)

/-- 'carryalllaw06.SpaceWrites': WHATEVER THE INPUT: true; the input reads as it did. -/
def spaceWritesSpec : ChangeSpec := { name := "spaceWrites", fn := fun _ => fun
  | [d1, d2, d3, d4, d5] => { results := [.lit (.bool true)], args := [d1, d2, d3, d4, d5] }
  | _ => none }
def spaceWritesRow : OpenClaim := { program := "ytolejpbdbjkndaa", sum := "2d7f0ea23923a95c6d58fa5b7d584d946f4b0e16f8c74c5734f318293cbb85e1", func := "carryall/carryalllaw06.SpaceWrites", spec := "spaceWrites", unfollowed := true, recurses := true, apart := false }
def SpaceWritesSaid : Prop := spaceWritesRow.holds Try.pinned (OpenSpec.ofChange spaceWritesSpec)

/-- ITS FALSE NEIGHBOUR: 'it returns false'. Refute it at one input. -/
def spaceWritesWrong : ChangeSpec := { name := "spaceWrites", fn := fun _ => fun
  | [d1, d2, d3, d4, d5] => { results := [.lit (.bool false)], args := [d1, d2, d3, d4, d5] }
  | _ => none }
def SpaceWritesWrongFalsely : Prop := spaceWritesRow.holds Try.pinned (OpenSpec.ofChange spaceWritesWrong)

/-- 'carryalllaw06.SpaceMaps': WHATEVER THE INPUT: true; the input reads as it did. -/
def spaceMapsSpec : ChangeSpec := { name := "spaceMaps", fn := fun _ => fun
  | [d1, d2, d3, d4, d5, d6] => { results := [.lit (.bool true)], args := [d1, d2, d3, d4, d5, d6] }
  | _ => none }
def spaceMapsRow : OpenClaim := { program := "ytolejpbdbjkndaa", sum := "2d7f0ea23923a95c6d58fa5b7d584d946f4b0e16f8c74c5734f318293cbb85e1", func := "carryall/carryalllaw06.SpaceMaps", spec := "spaceMaps", unfollowed := true, recurses := true, apart := false }
def SpaceMapsSaid : Prop := spaceMapsRow.holds Try.pinned (OpenSpec.ofChange spaceMapsSpec)

/-- ITS FALSE NEIGHBOUR: 'it returns false'. Refute it at one input. -/
def spaceMapsWrong : ChangeSpec := { name := "spaceMaps", fn := fun _ => fun
  | [d1, d2, d3, d4, d5, d6] => { results := [.lit (.bool false)], args := [d1, d2, d3, d4, d5, d6] }
  | _ => none }
def SpaceMapsWrongFalsely : Prop := spaceMapsRow.holds Try.pinned (OpenSpec.ofChange spaceMapsWrong)

/- THE SECOND FORM. 'bulk': how many values and letters a reading holds, each counted each time it is reached (what is shared counts as often as it is met; a slice's spare places count too). A statement '..UptoSaid' is the law's where the arguments, and the package variables that the reading takes, are together of bulk at most 1048576: NARROWER than '..Said'. Prove '..Said' where nothing that the law and all that it calls make is longer than what came in: it says more and counts as full. Else prove '..UptoSaid'. A law counts once. -/
mutual
def uptoBulk {H : Type} : DataW H → Nat
  | .lit (.string bytes) => bytes.length + 1
  | .lit _ => 1
  | .nil => 1
  | .ptr d => uptoBulk d + 1
  | .slice elems spare => uptoBulkAll elems + uptoBulkAll spare + 1
  | .agg parts => uptoBulkAll parts + 1
  | .iface _ d => uptoBulk d + 1
  | .map entries => uptoBulkEntries entries + 1
  | .held _ => 1
def uptoBulkAll {H : Type} : List (DataW H) → Nat
  | [] => 0
  | d :: r => uptoBulk d + uptoBulkAll r
def uptoBulkEntries {H : Type} : List (Lit × DataW H) → Nat
  | [] => 0
  | x :: r => uptoBulkEntry x + uptoBulkEntries r
def uptoBulkEntry {H : Type} : Lit × DataW H → Nat
  | (.string bytes, d) => bytes.length + uptoBulk d + 1
  | (_, d) => uptoBulk d + 1
 end
def uptoSmall : (H : Type) → List (DataW H) → Bool := fun _ ds => decide (uptoBulkAll ds ≤ 1048576)
def OpenSpec.upto (s : _root_.Go.ChangeSpec) : _root_.Go.OpenSpec := { _root_.Go.OpenSpec.ofChange s with cond := some uptoSmall }

/-- 'carryalllaw06.SpaceClones', WHERE WHAT IT READS IS OF BULK AT MOST 1048576: true; the input reads as it did. -/
def spaceClonesUptoRow : OpenClaim := { program := "ytolejpbdbjkndaa", sum := "2d7f0ea23923a95c6d58fa5b7d584d946f4b0e16f8c74c5734f318293cbb85e1", func := "carryall/carryalllaw06.SpaceClones", spec := "spaceClones", unfollowed := true, recurses := true, apart := false, narrowed := true }
def SpaceClonesUptoSaid : Prop := spaceClonesUptoRow.holds Try.pinned (OpenSpec.upto spaceClonesSpec)

/-- 'carryalllaw06.SpaceNames', WHERE WHAT IT READS IS OF BULK AT MOST 1048576: true; the input reads as it did. -/
def spaceNamesUptoRow : OpenClaim := { program := "ytolejpbdbjkndaa", sum := "2d7f0ea23923a95c6d58fa5b7d584d946f4b0e16f8c74c5734f318293cbb85e1", func := "carryall/carryalllaw06.SpaceNames", spec := "spaceNames", unfollowed := true, recurses := true, apart := false, narrowed := true }
def SpaceNamesUptoSaid : Prop := spaceNamesUptoRow.holds Try.pinned (OpenSpec.upto spaceNamesSpec)

/-- 'carryalllaw06.SpaceWrites', WHERE WHAT IT READS IS OF BULK AT MOST 1048576: true; the input reads as it did. -/
def spaceWritesUptoRow : OpenClaim := { program := "ytolejpbdbjkndaa", sum := "2d7f0ea23923a95c6d58fa5b7d584d946f4b0e16f8c74c5734f318293cbb85e1", func := "carryall/carryalllaw06.SpaceWrites", spec := "spaceWrites", unfollowed := true, recurses := true, apart := false, narrowed := true }
def SpaceWritesUptoSaid : Prop := spaceWritesUptoRow.holds Try.pinned (OpenSpec.upto spaceWritesSpec)

/-- 'carryalllaw06.SpaceMaps', WHERE WHAT IT READS IS OF BULK AT MOST 1048576: true; the input reads as it did. -/
def spaceMapsUptoRow : OpenClaim := { program := "ytolejpbdbjkndaa", sum := "2d7f0ea23923a95c6d58fa5b7d584d946f4b0e16f8c74c5734f318293cbb85e1", func := "carryall/carryalllaw06.SpaceMaps", spec := "spaceMaps", unfollowed := true, recurses := true, apart := false, narrowed := true }
def SpaceMapsUptoSaid : Prop := spaceMapsUptoRow.holds Try.pinned (OpenSpec.upto spaceMapsSpec)

end Rows
end Go.Proofs.Ytolejpbdbjkndaa
