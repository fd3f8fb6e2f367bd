/-
  No cell of these rows narrows 'for every input' (looked for: loops, veiled, ifaces, maps, wideKeys, modest, calm, conditions, laid).
  DERIVED. THE GIVEN ROWS OF THIS SEAT. 7 by the template 'for every input the law returns true; each argument reads behind the call as it read before'; 0 by the template 'total and deterministic' (their statements: YtgdimjcpdndklaaTotals.lean).
  GIVEN WITH THE SEED: the statements are not yours to turn. If you find one false, say at which input.
  Laid BY PROGRAM, IN A SANDBOX (cutbox-rows.mjs): the forced cells as the released guide's own fill.sh prints them over the translation f8bf73d2f40e91a2… (all of the seat's roots in one cut). By AI agents, Wed Nov 11 2026. No macro, syntax, notation, axiom, sorry.
-/
import Derived.Test.YtgdimjcpdndklaaChecked
import GoSem.Claim
import GoSem.ClaimJoined
import GoSem.ClaimMapViews
import Derived.JoinedTies
import Derived.KernelRfl
namespace Go.Proofs.Ytgdimjcpdndklaa
/- THE CELL 'sum', in the pinned program and in every row, IS THE sha256 OF THE DUMP (.gsa) THAT YtgdimjcpdndklaaProg.lean LOADS. Nothing in Lean hashes anything: it is a label: what it is worth is what the hold of that sum in a sandbox is worth. -/
noncomputable def Try.pinned : Pinned := { name := "ytgdimjcpdndklaa", sum := "f8bf73d2f40e91a2eea1bf2230078a0b2138a79fd9626f2dc26fc4cb564b58d4", checked := Try.checked }
namespace Rows
def none {H : Type} : Left H := { results := [], args := [] }

/-- 'carryalllaw05.PagesHole': WHATEVER THE INPUT: true; the input reads as it did. -/
def pagesHoleSpec : ChangeSpec := { name := "pagesHole", fn := fun _ => fun
  | [d1, d2] => { results := [.lit (.bool true)], args := [d1, d2] }
  | _ => none }
def pagesHoleRow : OpenClaim := { program := "ytgdimjcpdndklaa", sum := "f8bf73d2f40e91a2eea1bf2230078a0b2138a79fd9626f2dc26fc4cb564b58d4", func := "carryall/carryalllaw05.PagesHole", spec := "pagesHole", unfollowed := true, recurses := true, apart := false }
def PagesHoleSaid : Prop := pagesHoleRow.holds Try.pinned (OpenSpec.ofChange pagesHoleSpec)

/-- ITS FALSE NEIGHBOUR: 'it returns false'. Refute it at one input. -/
def pagesHoleWrong : ChangeSpec := { name := "pagesHole", fn := fun _ => fun
  | [d1, d2] => { results := [.lit (.bool false)], args := [d1, d2] }
  | _ => none }
def PagesHoleWrongFalsely : Prop := pagesHoleRow.holds Try.pinned (OpenSpec.ofChange pagesHoleWrong)

/-- 'carryalllaw05.PagesTraces': WHATEVER THE INPUT: true; the input reads as it did. -/
def pagesTracesSpec : ChangeSpec := { name := "pagesTraces", fn := fun _ => fun
  | [d1, d2, d3] => { results := [.lit (.bool true)], args := [d1, d2, d3] }
  | _ => none }
def pagesTracesRow : OpenClaim := { program := "ytgdimjcpdndklaa", sum := "f8bf73d2f40e91a2eea1bf2230078a0b2138a79fd9626f2dc26fc4cb564b58d4", func := "carryall/carryalllaw05.PagesTraces", spec := "pagesTraces", unfollowed := true, recurses := true, apart := false }
def PagesTracesSaid : Prop := pagesTracesRow.holds Try.pinned (OpenSpec.ofChange pagesTracesSpec)

/-- ITS FALSE NEIGHBOUR: 'it returns false'. Refute it at one input. -/
def pagesTracesWrong : ChangeSpec := { name := "pagesTraces", fn := fun _ => fun
  | [d1, d2, d3] => { results := [.lit (.bool false)], args := [d1, d2, d3] }
  | _ => none }
def PagesTracesWrongFalsely : Prop := pagesTracesRow.holds Try.pinned (OpenSpec.ofChange pagesTracesWrong)

/-- 'carryalllaw05.PagesList': WHATEVER THE INPUT: true; the input reads as it did. -/
def pagesListSpec : ChangeSpec := { name := "pagesList", fn := fun _ => fun
  | [d] => { results := [.lit (.bool true)], args := [d] }
  | _ => none }
def pagesListRow : OpenClaim := { program := "ytgdimjcpdndklaa", sum := "f8bf73d2f40e91a2eea1bf2230078a0b2138a79fd9626f2dc26fc4cb564b58d4", func := "carryall/carryalllaw05.PagesList", spec := "pagesList", unfollowed := true, recurses := true, apart := false }
def PagesListSaid : Prop := pagesListRow.holds Try.pinned (OpenSpec.ofChange pagesListSpec)

/-- ITS FALSE NEIGHBOUR: 'it returns false'. Refute it at one input. -/
def pagesListWrong : ChangeSpec := { name := "pagesList", fn := fun _ => fun
  | [d] => { results := [.lit (.bool false)], args := [d] }
  | _ => none }
def PagesListWrongFalsely : Prop := pagesListRow.holds Try.pinned (OpenSpec.ofChange pagesListWrong)

/-- 'carryalllaw05.PagesParts': WHATEVER THE INPUT: true; the input reads as it did. -/
def pagesPartsSpec : ChangeSpec := { name := "pagesParts", fn := fun _ => fun
  | [d] => { results := [.lit (.bool true)], args := [d] }
  | _ => none }
def pagesPartsRow : OpenClaim := { program := "ytgdimjcpdndklaa", sum := "f8bf73d2f40e91a2eea1bf2230078a0b2138a79fd9626f2dc26fc4cb564b58d4", func := "carryall/carryalllaw05.PagesParts", spec := "pagesParts", unfollowed := true, recurses := true, apart := false }
def PagesPartsSaid : Prop := pagesPartsRow.holds Try.pinned (OpenSpec.ofChange pagesPartsSpec)

/-- ITS FALSE NEIGHBOUR: 'it returns false'. Refute it at one input. -/
def pagesPartsWrong : ChangeSpec := { name := "pagesParts", fn := fun _ => fun
  | [d] => { results := [.lit (.bool false)], args := [d] }
  | _ => none }
def PagesPartsWrongFalsely : Prop := pagesPartsRow.holds Try.pinned (OpenSpec.ofChange pagesPartsWrong)

/-- 'carryalllaw05.PagesPlays': WHATEVER THE INPUT: true; the input reads as it did. -/
def pagesPlaysSpec : ChangeSpec := { name := "pagesPlays", fn := fun _ => fun
  | [d1, d2] => { results := [.lit (.bool true)], args := [d1, d2] }
  | _ => none }
def pagesPlaysRow : OpenClaim := { program := "ytgdimjcpdndklaa", sum := "f8bf73d2f40e91a2eea1bf2230078a0b2138a79fd9626f2dc26fc4cb564b58d4", func := "carryall/carryalllaw05.PagesPlays", spec := "pagesPlays", unfollowed := true, recurses := true, apart := false }
def PagesPlaysSaid : Prop := pagesPlaysRow.holds Try.pinned (OpenSpec.ofChange pagesPlaysSpec)

/-- ITS FALSE NEIGHBOUR: 'it returns false'. Refute it at one input. -/
def pagesPlaysWrong : ChangeSpec := { name := "pagesPlays", fn := fun _ => fun
  | [d1, d2] => { results := [.lit (.bool false)], args := [d1, d2] }
  | _ => none }
def PagesPlaysWrongFalsely : Prop := pagesPlaysRow.holds Try.pinned (OpenSpec.ofChange pagesPlaysWrong)

/-- 'carryalllaw05.PagesNames': WHATEVER THE INPUT: true; the input reads as it did. -/
def pagesNamesSpec : ChangeSpec := { name := "pagesNames", fn := fun _ => fun
  | [] => { results := [.lit (.bool true)], args := [] }
  | _ => none }
def pagesNamesRow : OpenClaim := { program := "ytgdimjcpdndklaa", sum := "f8bf73d2f40e91a2eea1bf2230078a0b2138a79fd9626f2dc26fc4cb564b58d4", func := "carryall/carryalllaw05.PagesNames", spec := "pagesNames", unfollowed := true, recurses := true, apart := false }
def PagesNamesSaid : Prop := pagesNamesRow.holds Try.pinned (OpenSpec.ofChange pagesNamesSpec)

/-- ITS FALSE NEIGHBOUR: 'it returns false'. Refute it at one input. -/
def pagesNamesWrong : ChangeSpec := { name := "pagesNames", fn := fun _ => fun
  | [] => { results := [.lit (.bool false)], args := [] }
  | _ => none }
def PagesNamesWrongFalsely : Prop := pagesNamesRow.holds Try.pinned (OpenSpec.ofChange pagesNamesWrong)

/-- 'carryalllaw05.PagesCopies': WHATEVER THE INPUT: true; the input reads as it did. -/
def pagesCopiesSpec : ChangeSpec := { name := "pagesCopies", fn := fun _ => fun
  | [d1, d2] => { results := [.lit (.bool true)], args := [d1, d2] }
  | _ => none }
def pagesCopiesRow : OpenClaim := { program := "ytgdimjcpdndklaa", sum := "f8bf73d2f40e91a2eea1bf2230078a0b2138a79fd9626f2dc26fc4cb564b58d4", func := "carryall/carryalllaw05.PagesCopies", spec := "pagesCopies", unfollowed := true, recurses := true, apart := false }
def PagesCopiesSaid : Prop := pagesCopiesRow.holds Try.pinned (OpenSpec.ofChange pagesCopiesSpec)

/-- ITS FALSE NEIGHBOUR: 'it returns false'. Refute it at one input. -/
def pagesCopiesWrong : ChangeSpec := { name := "pagesCopies", fn := fun _ => fun
  | [d1, d2] => { results := [.lit (.bool false)], args := [d1, d2] }
  | _ => none }
def PagesCopiesWrongFalsely : Prop := pagesCopiesRow.holds Try.pinned (OpenSpec.ofChange pagesCopiesWrong)

/- THE SECOND FORM. 'bulk': how many values and letters a reading holds, each counted each time it is reached (what is shared counts as often as it is met; a slice's spare places count too). A statement '..UptoSaid' is the law's where the arguments, and the package variables that the reading takes, are together of bulk at most 1048576: NARROWER than '..Said'. Prove '..Said' where nothing that the law and all that it calls make is longer than what came in: it says more and counts as full. Else prove '..UptoSaid'. A law counts once. -/
mutual
def uptoBulk {H : Type} : DataW H → Nat
  | .lit (.string bytes) => bytes.length + 1
  | .lit _ => 1
  | .nil => 1
  | .ptr d => uptoBulk d + 1
  | .slice elems spare => uptoBulkAll elems + uptoBulkAll spare + 1
  | .agg parts => uptoBulkAll parts + 1
  | .iface _ d => uptoBulk d + 1
  | .map entries => uptoBulkEntries entries + 1
  | .held _ => 1
def uptoBulkAll {H : Type} : List (DataW H) → Nat
  | [] => 0
  | d :: r => uptoBulk d + uptoBulkAll r
def uptoBulkEntries {H : Type} : List (Lit × DataW H) → Nat
  | [] => 0
  | x :: r => uptoBulkEntry x + uptoBulkEntries r
def uptoBulkEntry {H : Type} : Lit × DataW H → Nat
  | (.string bytes, d) => bytes.length + uptoBulk d + 1
  | (_, d) => uptoBulk d + 1
 end
def uptoSmall : (H : Type) → List (DataW H) → Bool := fun _ ds => decide (uptoBulkAll ds ≤ 1048576)
def OpenSpec.upto (s : _root_.Go.ChangeSpec) : _root_.Go.OpenSpec := { _root_.Go.OpenSpec.ofChange s with cond := some uptoSmall }

/-- 'carryalllaw05.PagesHole', WHERE WHAT IT READS IS OF BULK AT MOST 1048576: true; the input reads as it did. -/
def pagesHoleUptoRow : OpenClaim := { program := "ytgdimjcpdndklaa", sum := "f8bf73d2f40e91a2eea1bf2230078a0b2138a79fd9626f2dc26fc4cb564b58d4", func := "carryall/carryalllaw05.PagesHole", spec := "pagesHole", unfollowed := true, recurses := true, apart := false, narrowed := true }
def PagesHoleUptoSaid : Prop := pagesHoleUptoRow.holds Try.pinned (OpenSpec.upto pagesHoleSpec)

/-- 'carryalllaw05.PagesTraces', WHERE WHAT IT READS IS OF BULK AT MOST 1048576: true; the input reads as it did. -/
def pagesTracesUptoRow : OpenClaim := { program := "ytgdimjcpdndklaa", sum := "f8bf73d2f40e91a2eea1bf2230078a0b2138a79fd9626f2dc26fc4cb564b58d4", func := "carryall/carryalllaw05.PagesTraces", spec := "pagesTraces", unfollowed := true, recurses := true, apart := false, narrowed := true }
def PagesTracesUptoSaid : Prop := pagesTracesUptoRow.holds Try.pinned (OpenSpec.upto pagesTracesSpec)

/-- 'carryalllaw05.PagesList', WHERE WHAT IT READS IS OF BULK AT MOST 1048576: true; the input reads as it did. -/
def pagesListUptoRow : OpenClaim := { program := "ytgdimjcpdndklaa", sum := "f8bf73d2f40e91a2eea1bf2230078a0b2138a79fd9626f2dc26fc4cb564b58d4", func := "carryall/carryalllaw05.PagesList", spec := "pagesList", unfollowed := true, recurses := true, apart := false, narrowed := true }
def PagesListUptoSaid : Prop := pagesListUptoRow.holds Try.pinned (OpenSpec.upto pagesListSpec)

/-- 'carryalllaw05.PagesParts', WHERE WHAT IT READS IS OF BULK AT MOST 1048576: true; the input reads as it did. -/
def pagesPartsUptoRow : OpenClaim := { program := "ytgdimjcpdndklaa", sum := "f8bf73d2f40e91a2eea1bf2230078a0b2138a79fd9626f2dc26fc4cb564b58d4", func := "carryall/carryalllaw05.PagesParts", spec := "pagesParts", unfollowed := true, recurses := true, apart := false, narrowed := true }
def PagesPartsUptoSaid : Prop := pagesPartsUptoRow.holds Try.pinned (OpenSpec.upto pagesPartsSpec)

/-- 'carryalllaw05.PagesPlays', WHERE WHAT IT READS IS OF BULK AT MOST 1048576: true; the input reads as it did. -/
def pagesPlaysUptoRow : OpenClaim := { program := "ytgdimjcpdndklaa", sum := "f8bf73d2f40e91a2eea1bf2230078a0b2138a79fd9626f2dc26fc4cb564b58d4", func := "carryall/carryalllaw05.PagesPlays", spec := "pagesPlays", unfollowed := true, recurses := true, apart := false, narrowed := true }
def PagesPlaysUptoSaid : Prop := pagesPlaysUptoRow.holds Try.pinned (OpenSpec.upto pagesPlaysSpec)

/-- 'carryalllaw05.PagesNames', WHERE WHAT IT READS IS OF BULK AT MOST 1048576: true; the input reads as it did. -/
def pagesNamesUptoRow : OpenClaim := { program := "ytgdimjcpdndklaa", sum := "f8bf73d2f40e91a2eea1bf2230078a0b2138a79fd9626f2dc26fc4cb564b58d4", func := "carryall/carryalllaw05.PagesNames", spec := "pagesNames", unfollowed := true, recurses := true, apart := false, narrowed := true }
def PagesNamesUptoSaid : Prop := pagesNamesUptoRow.holds Try.pinned (OpenSpec.upto pagesNamesSpec)

/-- 'carryalllaw05.PagesCopies', WHERE WHAT IT READS IS OF BULK AT MOST 1048576: true; the input reads as it did. -/
def pagesCopiesUptoRow : OpenClaim := { program := "ytgdimjcpdndklaa", sum := "f8bf73d2f40e91a2eea1bf2230078a0b2138a79fd9626f2dc26fc4cb564b58d4", func := "carryall/carryalllaw05.PagesCopies", spec := "pagesCopies", unfollowed := true, recurses := true, apart := false, narrowed := true }
def PagesCopiesUptoSaid : Prop := pagesCopiesUptoRow.holds Try.pinned (OpenSpec.upto pagesCopiesSpec)

end Rows
end Go.Proofs.Ytgdimjcpdndklaa
