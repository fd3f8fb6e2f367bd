/-
  NARROWER THAN 'FOR EVERY INPUT', by the rows' own cells (each row's printed sentence says how): CoreSums: laid · CoreSteps: laid · CoreRuns: laid · CoreNames: laid · CoreCalls: laid.
  DERIVED. THE GIVEN ROWS OF THIS SEAT. 5 by the template 'for every input the law returns true; each argument reads behind the call as it read before'; 0 by the template 'total and deterministic' (their statements: YtoglmemmdolbmaaDoorTotals.lean).
  GIVEN WITH THE SEED: the statements are not yours to turn. If you find one false, say at which input.
  Laid BY PROGRAM, IN A SANDBOX (cutbox-rows.mjs): the forced cells as the released guide's own fill.sh prints them over the translation 1bf23862d4bf89a7… (all of the seat's roots in one cut). By AI agents, Wed Nov 11 2026. No macro, syntax, notation, axiom, sorry.
-/
import Derived.Test.YtoglmemmdolbmaaDoorChecked
import GoSem.PinnedTables
import GoSem.Claim
import GoSem.ClaimJoined
import GoSem.ClaimMapViews
import Derived.JoinedTies
import Derived.KernelRfl
namespace Go.Proofs.YtoglmemmdolbmaaDoor
/- THE CELL 'sum', in the pinned program and in every row, IS THE sha256 OF THE DUMP (.gsa) THAT YtoglmemmdolbmaaDoorProg.lean LOADS. Nothing in Lean hashes anything: it is a label: what it is worth is what the hold of that sum in a sandbox is worth. -/
noncomputable def Tryd.pinned : Pinned := { name := "ytoglmemmdolbmaadoor", sum := "1bf23862d4bf89a7ca633d2f45e0c78e2ed36804d806b909690878307937fc9d", checked := Tryd.checked }
namespace Rows
def none {H : Type} : Left H := { results := [], args := [] }

/- WHAT THE LISTED PACKAGE-LEVEL VARIABLES READ AS WHEN THE CALL BEGINS. Each datum BY PROGRAM (the guide's laid-datum.mjs) off the statement by which the dump's own 'gosem.cut.vars' lays the variable. In a bare row this is a premise. The card (YtoglmemmdolbmaaDoorCards.lean) ties it to the program's text. -/
def laid_math_bits_deBruijn32tab {H : Type} : DataW H := .agg [.lit (.int .u8 0), .lit (.int .u8 1), .lit (.int .u8 28), .lit (.int .u8 2), .lit (.int .u8 29), .lit (.int .u8 14), .lit (.int .u8 24), .lit (.int .u8 3), .lit (.int .u8 30), .lit (.int .u8 22), .lit (.int .u8 20), .lit (.int .u8 15), .lit (.int .u8 25), .lit (.int .u8 17), .lit (.int .u8 4), .lit (.int .u8 8), .lit (.int .u8 31), .lit (.int .u8 27), .lit (.int .u8 13), .lit (.int .u8 23), .lit (.int .u8 21), .lit (.int .u8 19), .lit (.int .u8 16), .lit (.int .u8 7), .lit (.int .u8 26), .lit (.int .u8 12), .lit (.int .u8 18), .lit (.int .u8 6), .lit (.int .u8 11), .lit (.int .u8 5), .lit (.int .u8 10), .lit (.int .u8 9)]
def laid_math_bits_deBruijn64tab {H : Type} : DataW H := .agg [.lit (.int .u8 0), .lit (.int .u8 1), .lit (.int .u8 56), .lit (.int .u8 2), .lit (.int .u8 57), .lit (.int .u8 49), .lit (.int .u8 28), .lit (.int .u8 3), .lit (.int .u8 61), .lit (.int .u8 58), .lit (.int .u8 42), .lit (.int .u8 50), .lit (.int .u8 38), .lit (.int .u8 29), .lit (.int .u8 17), .lit (.int .u8 4), .lit (.int .u8 62), .lit (.int .u8 47), .lit (.int .u8 59), .lit (.int .u8 36), .lit (.int .u8 45), .lit (.int .u8 43), .lit (.int .u8 51), .lit (.int .u8 22), .lit (.int .u8 53), .lit (.int .u8 39), .lit (.int .u8 33), .lit (.int .u8 30), .lit (.int .u8 24), .lit (.int .u8 18), .lit (.int .u8 12), .lit (.int .u8 5), .lit (.int .u8 63), .lit (.int .u8 55), .lit (.int .u8 48), .lit (.int .u8 27), .lit (.int .u8 60), .lit (.int .u8 41), .lit (.int .u8 37), .lit (.int .u8 16), .lit (.int .u8 46), .lit (.int .u8 35), .lit (.int .u8 44), .lit (.int .u8 21), .lit (.int .u8 52), .lit (.int .u8 32), .lit (.int .u8 23), .lit (.int .u8 11), .lit (.int .u8 54), .lit (.int .u8 26), .lit (.int .u8 40), .lit (.int .u8 15), .lit (.int .u8 34), .lit (.int .u8 20), .lit (.int .u8 31), .lit (.int .u8 10), .lit (.int .u8 25), .lit (.int .u8 14), .lit (.int .u8 19), .lit (.int .u8 9), .lit (.int .u8 13), .lit (.int .u8 8), .lit (.int .u8 7), .lit (.int .u8 6)]
def laid_internal_strconv_uint64pow10 {H : Type} : DataW H := .agg [.lit (.int .u64 1), .lit (.int .u64 10), .lit (.int .u64 100), .lit (.int .u64 1000), .lit (.int .u64 10000), .lit (.int .u64 100000), .lit (.int .u64 1000000), .lit (.int .u64 10000000), .lit (.int .u64 100000000), .lit (.int .u64 1000000000), .lit (.int .u64 10000000000), .lit (.int .u64 100000000000), .lit (.int .u64 1000000000000), .lit (.int .u64 10000000000000), .lit (.int .u64 100000000000000), .lit (.int .u64 1000000000000000), .lit (.int .u64 10000000000000000), .lit (.int .u64 100000000000000000), .lit (.int .u64 1000000000000000000), .lit (.int .u64 10000000000000000000)]
def laid_unicode_utf8_acceptRanges {H : Type} : DataW H := .agg [.agg [.lit (.int .u8 128), .lit (.int .u8 191)], .agg [.lit (.int .u8 160), .lit (.int .u8 191)], .agg [.lit (.int .u8 128), .lit (.int .u8 159)], .agg [.lit (.int .u8 144), .lit (.int .u8 191)], .agg [.lit (.int .u8 128), .lit (.int .u8 143)], .agg [.lit (.int .u8 0), .lit (.int .u8 0)], .agg [.lit (.int .u8 0), .lit (.int .u8 0)], .agg [.lit (.int .u8 0), .lit (.int .u8 0)], .agg [.lit (.int .u8 0), .lit (.int .u8 0)], .agg [.lit (.int .u8 0), .lit (.int .u8 0)], .agg [.lit (.int .u8 0), .lit (.int .u8 0)], .agg [.lit (.int .u8 0), .lit (.int .u8 0)], .agg [.lit (.int .u8 0), .lit (.int .u8 0)], .agg [.lit (.int .u8 0), .lit (.int .u8 0)], .agg [.lit (.int .u8 0), .lit (.int .u8 0)], .agg [.lit (.int .u8 0), .lit (.int .u8 0)]]
def laid_carryall_isa_forms {H : Type} : DataW H := .agg [.agg [.lit (.string [110, 111, 112]), .lit (.int .i64 (-1)), .lit (.int .i64 (-1)), .lit (.bool false)], .agg [.lit (.string [108, 105]), .lit (.int .i64 7), .lit (.int .i64 (-1)), .lit (.bool true)], .agg [.lit (.string [108, 117, 105]), .lit (.int .i64 7), .lit (.int .i64 (-1)), .lit (.bool true)], .agg [.lit (.string [109, 111, 118]), .lit (.int .i64 7), .lit (.int .i64 7), .lit (.bool false)], .agg [.lit (.string [97, 100, 100]), .lit (.int .i64 7), .lit (.int .i64 7), .lit (.bool false)], .agg [.lit (.string [115, 117, 98]), .lit (.int .i64 7), .lit (.int .i64 7), .lit (.bool false)], .agg [.lit (.string [109, 117, 108]), .lit (.int .i64 7), .lit (.int .i64 7), .lit (.bool false)], .agg [.lit (.string [97, 110, 100]), .lit (.int .i64 7), .lit (.int .i64 7), .lit (.bool false)], .agg [.lit (.string [111, 114]), .lit (.int .i64 7), .lit (.int .i64 7), .lit (.bool false)], .agg [.lit (.string [120, 111, 114]), .lit (.int .i64 7), .lit (.int .i64 7), .lit (.bool false)], .agg [.lit (.string [115, 104, 108]), .lit (.int .i64 7), .lit (.int .i64 7), .lit (.bool false)], .agg [.lit (.string [115, 104, 114]), .lit (.int .i64 7), .lit (.int .i64 7), .lit (.bool false)], .agg [.lit (.string [97, 100, 100, 105]), .lit (.int .i64 7), .lit (.int .i64 (-1)), .lit (.bool true)], .agg [.lit (.string [115, 108, 116]), .lit (.int .i64 7), .lit (.int .i64 7), .lit (.bool false)], .agg [.lit (.string [115, 101, 113]), .lit (.int .i64 7), .lit (.int .i64 7), .lit (.bool false)], .agg [.lit (.string [108, 119]), .lit (.int .i64 7), .lit (.int .i64 7), .lit (.bool true)], .agg [.lit (.string [115, 119]), .lit (.int .i64 7), .lit (.int .i64 7), .lit (.bool true)], .agg [.lit (.string [108, 98]), .lit (.int .i64 7), .lit (.int .i64 7), .lit (.bool true)], .agg [.lit (.string [115, 98]), .lit (.int .i64 7), .lit (.int .i64 7), .lit (.bool true)], .agg [.lit (.string [106, 109, 112]), .lit (.int .i64 (-1)), .lit (.int .i64 (-1)), .lit (.bool true)], .agg [.lit (.string [106, 122]), .lit (.int .i64 7), .lit (.int .i64 (-1)), .lit (.bool true)], .agg [.lit (.string [106, 110, 122]), .lit (.int .i64 7), .lit (.int .i64 (-1)), .lit (.bool true)], .agg [.lit (.string [106, 97, 108]), .lit (.int .i64 7), .lit (.int .i64 (-1)), .lit (.bool true)], .agg [.lit (.string [106, 114]), .lit (.int .i64 7), .lit (.int .i64 (-1)), .lit (.bool false)], .agg [.lit (.string [115, 121, 115]), .lit (.int .i64 (-1)), .lit (.int .i64 (-1)), .lit (.bool false)], .agg [.lit (.string [122, 115, 101, 116]), .lit (.int .i64 1), .lit (.int .i64 6), .lit (.bool false)], .agg [.lit (.string [122, 103, 101, 116]), .lit (.int .i64 1), .lit (.int .i64 6), .lit (.bool false)], .agg [.lit (.string [122, 97, 100, 100]), .lit (.int .i64 1), .lit (.int .i64 1), .lit (.bool false)], .agg [.lit (.string [122, 109, 117, 108]), .lit (.int .i64 1), .lit (.int .i64 1), .lit (.bool false)], .agg [.lit (.string [122, 99, 111, 110, 106]), .lit (.int .i64 1), .lit (.int .i64 (-1)), .lit (.bool false)]]
/-- One of Go's own tables, pinned by name: the form's constant. -/
def laid_unicode_utf8_first : DataW Unit := Go.Pinned.utf8First

/-- 'carryalllaw07.CoreSums': WHATEVER THE INPUT: true; the input reads as it did. -/
def coreSumsSpec : ChangeSpec := { name := "coreSums", fn := fun _ => fun
  | [d1, d2] => { results := [.lit (.bool true)], args := [d1, d2] }
  | _ => none }
def coreSumsRow : OpenClaim := { program := "ytoglmemmdolbmaadoor", sum := "1bf23862d4bf89a7ca633d2f45e0c78e2ed36804d806b909690878307937fc9d", func := "carryall/carryalllaw07.CoreSums", spec := "coreSums", inPlace := ["internal/bytealg.IndexByteString", "internal/bytealg.CountString", "internal/bytealg.IndexString", "math.archFloor", "math.Float64bits", "math.Float64frombits", "math.archTrunc"], unfollowed := true, recurses := true, named := ["internal/strconv.uint64pow10", "math/bits.deBruijn32tab", "math/bits.deBruijn64tab", "unicode/utf8.first", "unicode/utf8.acceptRanges", "internal/bytealg.MaxLen", "carryall/isa.forms"], apart := false, laid := [("math/bits.deBruijn32tab", laid_math_bits_deBruijn32tab), ("math/bits.deBruijn64tab", laid_math_bits_deBruijn64tab), ("internal/strconv.uint64pow10", laid_internal_strconv_uint64pow10), ("unicode/utf8.acceptRanges", laid_unicode_utf8_acceptRanges), ("carryall/isa.forms", laid_carryall_isa_forms), ("unicode/utf8.first", laid_unicode_utf8_first)] }
def CoreSumsSaid : Prop := coreSumsRow.holds Tryd.pinned (OpenSpec.ofChange coreSumsSpec)

/-- ITS FALSE NEIGHBOUR: 'it returns false'. Refute it at one input. -/
def coreSumsWrong : ChangeSpec := { name := "coreSums", fn := fun _ => fun
  | [d1, d2] => { results := [.lit (.bool false)], args := [d1, d2] }
  | _ => none }
def CoreSumsWrongFalsely : Prop := coreSumsRow.holds Tryd.pinned (OpenSpec.ofChange coreSumsWrong)

/-- 'carryalllaw07.CoreSteps': WHATEVER THE INPUT: true; the input reads as it did. -/
def coreStepsSpec : ChangeSpec := { name := "coreSteps", fn := fun _ => fun
  | [d1, d2, d3] => { results := [.lit (.bool true)], args := [d1, d2, d3] }
  | _ => none }
def coreStepsRow : OpenClaim := { program := "ytoglmemmdolbmaadoor", sum := "1bf23862d4bf89a7ca633d2f45e0c78e2ed36804d806b909690878307937fc9d", func := "carryall/carryalllaw07.CoreSteps", spec := "coreSteps", inPlace := ["math.archFloor", "math.Float64bits", "math.Float64frombits", "math.archTrunc"], unfollowed := true, recurses := true, named := ["carryall/isa.forms"], apart := false, laid := [("carryall/isa.forms", laid_carryall_isa_forms)] }
def CoreStepsSaid : Prop := coreStepsRow.holds Tryd.pinned (OpenSpec.ofChange coreStepsSpec)

/-- ITS FALSE NEIGHBOUR: 'it returns false'. Refute it at one input. -/
def coreStepsWrong : ChangeSpec := { name := "coreSteps", fn := fun _ => fun
  | [d1, d2, d3] => { results := [.lit (.bool false)], args := [d1, d2, d3] }
  | _ => none }
def CoreStepsWrongFalsely : Prop := coreStepsRow.holds Tryd.pinned (OpenSpec.ofChange coreStepsWrong)

/-- 'carryalllaw07.CoreRuns': WHATEVER THE INPUT: true; the input reads as it did. -/
def coreRunsSpec : ChangeSpec := { name := "coreRuns", fn := fun _ => fun
  | [d1, d2, d3, d4, d5] => { results := [.lit (.bool true)], args := [d1, d2, d3, d4, d5] }
  | _ => none }
def coreRunsRow : OpenClaim := { program := "ytoglmemmdolbmaadoor", sum := "1bf23862d4bf89a7ca633d2f45e0c78e2ed36804d806b909690878307937fc9d", func := "carryall/carryalllaw07.CoreRuns", spec := "coreRuns", inPlace := ["math.archFloor", "math.Float64bits", "math.Float64frombits", "math.archTrunc"], unfollowed := true, recurses := true, named := ["carryall/isa.forms"], apart := false, laid := [("carryall/isa.forms", laid_carryall_isa_forms)] }
def CoreRunsSaid : Prop := coreRunsRow.holds Tryd.pinned (OpenSpec.ofChange coreRunsSpec)

/-- ITS FALSE NEIGHBOUR: 'it returns false'. Refute it at one input. -/
def coreRunsWrong : ChangeSpec := { name := "coreRuns", fn := fun _ => fun
  | [d1, d2, d3, d4, d5] => { results := [.lit (.bool false)], args := [d1, d2, d3, d4, d5] }
  | _ => none }
def CoreRunsWrongFalsely : Prop := coreRunsRow.holds Tryd.pinned (OpenSpec.ofChange coreRunsWrong)

/-- 'carryalllaw07.CoreNames': WHATEVER THE INPUT: true; the input reads as it did. -/
def coreNamesSpec : ChangeSpec := { name := "coreNames", fn := fun _ => fun
  | [] => { results := [.lit (.bool true)], args := [] }
  | _ => none }
def coreNamesRow : OpenClaim := { program := "ytoglmemmdolbmaadoor", sum := "1bf23862d4bf89a7ca633d2f45e0c78e2ed36804d806b909690878307937fc9d", func := "carryall/carryalllaw07.CoreNames", spec := "coreNames", inPlace := ["math.archFloor", "math.Float64bits", "math.Float64frombits", "math.archTrunc", "internal/bytealg.IndexByteString", "internal/bytealg.CountString", "internal/bytealg.IndexString"], unfollowed := true, recurses := true, named := ["carryall/isa.forms", "internal/strconv.uint64pow10", "math/bits.deBruijn32tab", "math/bits.deBruijn64tab", "unicode/utf8.first", "unicode/utf8.acceptRanges", "internal/bytealg.MaxLen"], apart := false, laid := [("math/bits.deBruijn32tab", laid_math_bits_deBruijn32tab), ("math/bits.deBruijn64tab", laid_math_bits_deBruijn64tab), ("internal/strconv.uint64pow10", laid_internal_strconv_uint64pow10), ("unicode/utf8.acceptRanges", laid_unicode_utf8_acceptRanges), ("carryall/isa.forms", laid_carryall_isa_forms), ("unicode/utf8.first", laid_unicode_utf8_first)] }
def CoreNamesSaid : Prop := coreNamesRow.holds Tryd.pinned (OpenSpec.ofChange coreNamesSpec)

/-- ITS FALSE NEIGHBOUR: 'it returns false'. Refute it at one input. -/
def coreNamesWrong : ChangeSpec := { name := "coreNames", fn := fun _ => fun
  | [] => { results := [.lit (.bool false)], args := [] }
  | _ => none }
def CoreNamesWrongFalsely : Prop := coreNamesRow.holds Tryd.pinned (OpenSpec.ofChange coreNamesWrong)

/-- 'carryalllaw07.CoreCalls': WHATEVER THE INPUT: true; the input reads as it did. -/
def coreCallsSpec : ChangeSpec := { name := "coreCalls", fn := fun _ => fun
  | [d1, d2, d3] => { results := [.lit (.bool true)], args := [d1, d2, d3] }
  | _ => none }
def coreCallsRow : OpenClaim := { program := "ytoglmemmdolbmaadoor", sum := "1bf23862d4bf89a7ca633d2f45e0c78e2ed36804d806b909690878307937fc9d", func := "carryall/carryalllaw07.CoreCalls", spec := "coreCalls", inPlace := ["internal/bytealg.IndexByteString", "internal/bytealg.CountString", "internal/bytealg.IndexString", "math.archFloor", "math.Float64bits", "math.Float64frombits", "math.archTrunc"], unfollowed := true, recurses := true, named := ["internal/strconv.uint64pow10", "math/bits.deBruijn32tab", "math/bits.deBruijn64tab", "unicode/utf8.first", "unicode/utf8.acceptRanges", "internal/bytealg.MaxLen", "carryall/isa.forms"], apart := false, laid := [("math/bits.deBruijn32tab", laid_math_bits_deBruijn32tab), ("math/bits.deBruijn64tab", laid_math_bits_deBruijn64tab), ("internal/strconv.uint64pow10", laid_internal_strconv_uint64pow10), ("unicode/utf8.acceptRanges", laid_unicode_utf8_acceptRanges), ("carryall/isa.forms", laid_carryall_isa_forms), ("unicode/utf8.first", laid_unicode_utf8_first)] }
def CoreCallsSaid : Prop := coreCallsRow.holds Tryd.pinned (OpenSpec.ofChange coreCallsSpec)

/-- ITS FALSE NEIGHBOUR: 'it returns false'. Refute it at one input. -/
def coreCallsWrong : ChangeSpec := { name := "coreCalls", fn := fun _ => fun
  | [d1, d2, d3] => { results := [.lit (.bool false)], args := [d1, d2, d3] }
  | _ => none }
def CoreCallsWrongFalsely : Prop := coreCallsRow.holds Tryd.pinned (OpenSpec.ofChange coreCallsWrong)

/- THE SECOND FORM. 'bulk': how many values and letters a reading holds, each counted each time it is reached (what is shared counts as often as it is met; a slice's spare places count too). A statement '..UptoSaid' is the law's where the arguments, and the package variables that the reading takes, are together of bulk at most 1048576: NARROWER than '..Said'. Prove '..Said' where nothing that the law and all that it calls make is longer than what came in: it says more and counts as full. Else prove '..UptoSaid'. A law counts once. -/
mutual
def uptoBulk {H : Type} : DataW H → Nat
  | .lit (.string bytes) => bytes.length + 1
  | .lit _ => 1
  | .nil => 1
  | .ptr d => uptoBulk d + 1
  | .slice elems spare => uptoBulkAll elems + uptoBulkAll spare + 1
  | .agg parts => uptoBulkAll parts + 1
  | .iface _ d => uptoBulk d + 1
  | .map entries => uptoBulkEntries entries + 1
  | .held _ => 1
def uptoBulkAll {H : Type} : List (DataW H) → Nat
  | [] => 0
  | d :: r => uptoBulk d + uptoBulkAll r
def uptoBulkEntries {H : Type} : List (Lit × DataW H) → Nat
  | [] => 0
  | x :: r => uptoBulkEntry x + uptoBulkEntries r
def uptoBulkEntry {H : Type} : Lit × DataW H → Nat
  | (.string bytes, d) => bytes.length + uptoBulk d + 1
  | (_, d) => uptoBulk d + 1
 end
def uptoSmall : (H : Type) → List (DataW H) → Bool := fun _ ds => decide (uptoBulkAll ds ≤ 1048576)
def OpenSpec.upto (s : _root_.Go.ChangeSpec) : _root_.Go.OpenSpec := { _root_.Go.OpenSpec.ofChange s with cond := some uptoSmall }

/-- 'carryalllaw07.CoreSums', WHERE WHAT IT READS IS OF BULK AT MOST 1048576: true; the input reads as it did. -/
def coreSumsUptoRow : OpenClaim := { program := "ytoglmemmdolbmaadoor", sum := "1bf23862d4bf89a7ca633d2f45e0c78e2ed36804d806b909690878307937fc9d", func := "carryall/carryalllaw07.CoreSums", spec := "coreSums", inPlace := ["internal/bytealg.IndexByteString", "internal/bytealg.CountString", "internal/bytealg.IndexString", "math.archFloor", "math.Float64bits", "math.Float64frombits", "math.archTrunc"], unfollowed := true, recurses := true, named := ["internal/strconv.uint64pow10", "math/bits.deBruijn32tab", "math/bits.deBruijn64tab", "unicode/utf8.first", "unicode/utf8.acceptRanges", "internal/bytealg.MaxLen", "carryall/isa.forms"], apart := false, laid := [("math/bits.deBruijn32tab", laid_math_bits_deBruijn32tab), ("math/bits.deBruijn64tab", laid_math_bits_deBruijn64tab), ("internal/strconv.uint64pow10", laid_internal_strconv_uint64pow10), ("unicode/utf8.acceptRanges", laid_unicode_utf8_acceptRanges), ("carryall/isa.forms", laid_carryall_isa_forms), ("unicode/utf8.first", laid_unicode_utf8_first)], narrowed := true }
def CoreSumsUptoSaid : Prop := coreSumsUptoRow.holds Tryd.pinned (OpenSpec.upto coreSumsSpec)

/-- 'carryalllaw07.CoreSteps', WHERE WHAT IT READS IS OF BULK AT MOST 1048576: true; the input reads as it did. -/
def coreStepsUptoRow : OpenClaim := { program := "ytoglmemmdolbmaadoor", sum := "1bf23862d4bf89a7ca633d2f45e0c78e2ed36804d806b909690878307937fc9d", func := "carryall/carryalllaw07.CoreSteps", spec := "coreSteps", inPlace := ["math.archFloor", "math.Float64bits", "math.Float64frombits", "math.archTrunc"], unfollowed := true, recurses := true, named := ["carryall/isa.forms"], apart := false, laid := [("carryall/isa.forms", laid_carryall_isa_forms)], narrowed := true }
def CoreStepsUptoSaid : Prop := coreStepsUptoRow.holds Tryd.pinned (OpenSpec.upto coreStepsSpec)

/-- 'carryalllaw07.CoreRuns', WHERE WHAT IT READS IS OF BULK AT MOST 1048576: true; the input reads as it did. -/
def coreRunsUptoRow : OpenClaim := { program := "ytoglmemmdolbmaadoor", sum := "1bf23862d4bf89a7ca633d2f45e0c78e2ed36804d806b909690878307937fc9d", func := "carryall/carryalllaw07.CoreRuns", spec := "coreRuns", inPlace := ["math.archFloor", "math.Float64bits", "math.Float64frombits", "math.archTrunc"], unfollowed := true, recurses := true, named := ["carryall/isa.forms"], apart := false, laid := [("carryall/isa.forms", laid_carryall_isa_forms)], narrowed := true }
def CoreRunsUptoSaid : Prop := coreRunsUptoRow.holds Tryd.pinned (OpenSpec.upto coreRunsSpec)

/-- 'carryalllaw07.CoreNames', WHERE WHAT IT READS IS OF BULK AT MOST 1048576: true; the input reads as it did. -/
def coreNamesUptoRow : OpenClaim := { program := "ytoglmemmdolbmaadoor", sum := "1bf23862d4bf89a7ca633d2f45e0c78e2ed36804d806b909690878307937fc9d", func := "carryall/carryalllaw07.CoreNames", spec := "coreNames", inPlace := ["math.archFloor", "math.Float64bits", "math.Float64frombits", "math.archTrunc", "internal/bytealg.IndexByteString", "internal/bytealg.CountString", "internal/bytealg.IndexString"], unfollowed := true, recurses := true, named := ["carryall/isa.forms", "internal/strconv.uint64pow10", "math/bits.deBruijn32tab", "math/bits.deBruijn64tab", "unicode/utf8.first", "unicode/utf8.acceptRanges", "internal/bytealg.MaxLen"], apart := false, laid := [("math/bits.deBruijn32tab", laid_math_bits_deBruijn32tab), ("math/bits.deBruijn64tab", laid_math_bits_deBruijn64tab), ("internal/strconv.uint64pow10", laid_internal_strconv_uint64pow10), ("unicode/utf8.acceptRanges", laid_unicode_utf8_acceptRanges), ("carryall/isa.forms", laid_carryall_isa_forms), ("unicode/utf8.first", laid_unicode_utf8_first)], narrowed := true }
def CoreNamesUptoSaid : Prop := coreNamesUptoRow.holds Tryd.pinned (OpenSpec.upto coreNamesSpec)

/-- 'carryalllaw07.CoreCalls', WHERE WHAT IT READS IS OF BULK AT MOST 1048576: true; the input reads as it did. -/
def coreCallsUptoRow : OpenClaim := { program := "ytoglmemmdolbmaadoor", sum := "1bf23862d4bf89a7ca633d2f45e0c78e2ed36804d806b909690878307937fc9d", func := "carryall/carryalllaw07.CoreCalls", spec := "coreCalls", inPlace := ["internal/bytealg.IndexByteString", "internal/bytealg.CountString", "internal/bytealg.IndexString", "math.archFloor", "math.Float64bits", "math.Float64frombits", "math.archTrunc"], unfollowed := true, recurses := true, named := ["internal/strconv.uint64pow10", "math/bits.deBruijn32tab", "math/bits.deBruijn64tab", "unicode/utf8.first", "unicode/utf8.acceptRanges", "internal/bytealg.MaxLen", "carryall/isa.forms"], apart := false, laid := [("math/bits.deBruijn32tab", laid_math_bits_deBruijn32tab), ("math/bits.deBruijn64tab", laid_math_bits_deBruijn64tab), ("internal/strconv.uint64pow10", laid_internal_strconv_uint64pow10), ("unicode/utf8.acceptRanges", laid_unicode_utf8_acceptRanges), ("carryall/isa.forms", laid_carryall_isa_forms), ("unicode/utf8.first", laid_unicode_utf8_first)], narrowed := true }
def CoreCallsUptoSaid : Prop := coreCallsUptoRow.holds Tryd.pinned (OpenSpec.upto coreCallsSpec)

end Rows
end Go.Proofs.YtoglmemmdolbmaaDoor
