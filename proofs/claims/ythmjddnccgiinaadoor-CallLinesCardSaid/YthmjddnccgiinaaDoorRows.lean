/-
  NARROWER THAN 'FOR EVERY INPUT', by the rows' own cells (each row's printed sentence says how): CallTells: laid · CallRegs: laid · CallRuns: laid · CallLines: laid · CallNames: laid · CallBack: laid.
  DERIVED. THE GIVEN ROWS OF THIS SEAT. 6 by the template 'for every input the law returns true; each argument reads behind the call as it read before'; 0 by the template 'total and deterministic' (their statements: YthmjddnccgiinaaDoorTotals.lean).
  GIVEN WITH THE SEED: the statements are not yours to turn. If you find one false, say at which input.
  Laid BY PROGRAM, IN A SANDBOX (cutbox-rows.mjs): the forced cells as the released guide's own fill.sh prints them over the translation a46b7d12d0506d17… (all of the seat's roots in one cut). By AI agents, Wed Nov 11 2026. No macro, syntax, notation, axiom, sorry.
-/
import Derived.Test.YthmjddnccgiinaaDoorChecked
import GoSem.PinnedTables
import GoSem.Claim
import GoSem.ClaimJoined
import GoSem.ClaimMapViews
import Derived.JoinedTies
import Derived.KernelRfl
namespace Go.Proofs.YthmjddnccgiinaaDoor
/- THE CELL 'sum', in the pinned program and in every row, IS THE sha256 OF THE DUMP (.gsa) THAT YthmjddnccgiinaaDoorProg.lean LOADS. Nothing in Lean hashes anything: it is a label: what it is worth is what the hold of that sum in a sandbox is worth. -/
noncomputable def Tryd.pinned : Pinned := { name := "ythmjddnccgiinaadoor", sum := "a46b7d12d0506d17930e5bd190f2bb8072d84db2b7e298e606e1933798cb23b4", checked := Tryd.checked }
namespace Rows
def none {H : Type} : Left H := { results := [], args := [] }

/- WHAT THE LISTED PACKAGE-LEVEL VARIABLES READ AS WHEN THE CALL BEGINS. Each datum BY PROGRAM (the guide's laid-datum.mjs) off the statement by which the dump's own 'gosem.cut.vars' lays the variable. In a bare row this is a premise. The card (YthmjddnccgiinaaDoorCards.lean) ties it to the program's text. -/
def laid_carryall_call_kinds {H : Type} : DataW H := .agg [.agg [.lit (.string []), .lit (.int .i64 (-1))], .agg [.lit (.string [101, 120, 105, 116]), .lit (.int .i64 1)], .agg [.lit (.string [102, 111, 114, 107]), .lit (.int .i64 0)], .agg [.lit (.string [119, 97, 105, 116]), .lit (.int .i64 1)], .agg [.lit (.string [103, 101, 116, 112, 105, 100]), .lit (.int .i64 0)], .agg [.lit (.string [103, 101, 116, 112, 112, 105, 100]), .lit (.int .i64 0)], .agg [.lit (.string [112, 105, 112, 101]), .lit (.int .i64 1)], .agg [.lit (.string [114, 101, 97, 100]), .lit (.int .i64 3)], .agg [.lit (.string [119, 114, 105, 116, 101]), .lit (.int .i64 3)], .agg [.lit (.string [99, 108, 111, 115, 101]), .lit (.int .i64 1)], .agg [.lit (.string [100, 117, 112]), .lit (.int .i64 1)], .agg [.lit (.string [107, 105, 108, 108]), .lit (.int .i64 2)], .agg [.lit (.string [109, 97, 115, 107]), .lit (.int .i64 1)], .agg [.lit (.string [104, 97, 110, 100, 108, 101]), .lit (.int .i64 2)], .agg [.lit (.string [115, 105, 103, 114, 101, 116, 117, 114, 110]), .lit (.int .i64 0)], .agg [.lit (.string [102, 117, 116, 101, 120, 119, 97, 105, 116]), .lit (.int .i64 2)], .agg [.lit (.string [102, 117, 116, 101, 120, 119, 97, 107, 101]), .lit (.int .i64 2)], .agg [.lit (.string [115, 108, 101, 101, 112]), .lit (.int .i64 1)], .agg [.lit (.string [121, 105, 101, 108, 100]), .lit (.int .i64 0)], .agg [.lit (.string [109, 97, 112]), .lit (.int .i64 3)], .agg [.lit (.string [117, 110, 109, 97, 112]), .lit (.int .i64 2)], .agg [.lit (.string [97, 102, 102, 105, 110, 105, 116, 121]), .lit (.int .i64 1)], .agg [.lit (.string [112, 114, 105, 110, 116]), .lit (.int .i64 1)]]
def laid_carryall_call_codes {H : Type} : DataW H := .agg [.agg [.lit (.int .i64 1), .lit (.string [69, 80, 69, 82, 77])], .agg [.lit (.int .i64 3), .lit (.string [69, 83, 82, 67, 72])], .agg [.lit (.int .i64 4), .lit (.string [69, 73, 78, 84, 82])], .agg [.lit (.int .i64 9), .lit (.string [69, 66, 65, 68, 70])], .agg [.lit (.int .i64 10), .lit (.string [69, 67, 72, 73, 76, 68])], .agg [.lit (.int .i64 11), .lit (.string [69, 65, 71, 65, 73, 78])], .agg [.lit (.int .i64 12), .lit (.string [69, 78, 79, 77, 69, 77])], .agg [.lit (.int .i64 14), .lit (.string [69, 70, 65, 85, 76, 84])], .agg [.lit (.int .i64 16), .lit (.string [69, 66, 85, 83, 89])], .agg [.lit (.int .i64 22), .lit (.string [69, 73, 78, 86, 65, 76])], .agg [.lit (.int .i64 23), .lit (.string [69, 78, 70, 73, 76, 69])], .agg [.lit (.int .i64 24), .lit (.string [69, 77, 70, 73, 76, 69])], .agg [.lit (.int .i64 32), .lit (.string [69, 80, 73, 80, 69])], .agg [.lit (.int .i64 38), .lit (.string [69, 78, 79, 83, 89, 83])], .agg [.lit (.int .i64 60), .lit (.string [69, 78, 79, 84, 67, 76, 79, 83, 69, 68])]]
def laid_math_bits_deBruijn32tab {H : Type} : DataW H := .agg [.lit (.int .u8 0), .lit (.int .u8 1), .lit (.int .u8 28), .lit (.int .u8 2), .lit (.int .u8 29), .lit (.int .u8 14), .lit (.int .u8 24), .lit (.int .u8 3), .lit (.int .u8 30), .lit (.int .u8 22), .lit (.int .u8 20), .lit (.int .u8 15), .lit (.int .u8 25), .lit (.int .u8 17), .lit (.int .u8 4), .lit (.int .u8 8), .lit (.int .u8 31), .lit (.int .u8 27), .lit (.int .u8 13), .lit (.int .u8 23), .lit (.int .u8 21), .lit (.int .u8 19), .lit (.int .u8 16), .lit (.int .u8 7), .lit (.int .u8 26), .lit (.int .u8 12), .lit (.int .u8 18), .lit (.int .u8 6), .lit (.int .u8 11), .lit (.int .u8 5), .lit (.int .u8 10), .lit (.int .u8 9)]
def laid_math_bits_deBruijn64tab {H : Type} : DataW H := .agg [.lit (.int .u8 0), .lit (.int .u8 1), .lit (.int .u8 56), .lit (.int .u8 2), .lit (.int .u8 57), .lit (.int .u8 49), .lit (.int .u8 28), .lit (.int .u8 3), .lit (.int .u8 61), .lit (.int .u8 58), .lit (.int .u8 42), .lit (.int .u8 50), .lit (.int .u8 38), .lit (.int .u8 29), .lit (.int .u8 17), .lit (.int .u8 4), .lit (.int .u8 62), .lit (.int .u8 47), .lit (.int .u8 59), .lit (.int .u8 36), .lit (.int .u8 45), .lit (.int .u8 43), .lit (.int .u8 51), .lit (.int .u8 22), .lit (.int .u8 53), .lit (.int .u8 39), .lit (.int .u8 33), .lit (.int .u8 30), .lit (.int .u8 24), .lit (.int .u8 18), .lit (.int .u8 12), .lit (.int .u8 5), .lit (.int .u8 63), .lit (.int .u8 55), .lit (.int .u8 48), .lit (.int .u8 27), .lit (.int .u8 60), .lit (.int .u8 41), .lit (.int .u8 37), .lit (.int .u8 16), .lit (.int .u8 46), .lit (.int .u8 35), .lit (.int .u8 44), .lit (.int .u8 21), .lit (.int .u8 52), .lit (.int .u8 32), .lit (.int .u8 23), .lit (.int .u8 11), .lit (.int .u8 54), .lit (.int .u8 26), .lit (.int .u8 40), .lit (.int .u8 15), .lit (.int .u8 34), .lit (.int .u8 20), .lit (.int .u8 31), .lit (.int .u8 10), .lit (.int .u8 25), .lit (.int .u8 14), .lit (.int .u8 19), .lit (.int .u8 9), .lit (.int .u8 13), .lit (.int .u8 8), .lit (.int .u8 7), .lit (.int .u8 6)]
def laid_internal_strconv_uint64pow10 {H : Type} : DataW H := .agg [.lit (.int .u64 1), .lit (.int .u64 10), .lit (.int .u64 100), .lit (.int .u64 1000), .lit (.int .u64 10000), .lit (.int .u64 100000), .lit (.int .u64 1000000), .lit (.int .u64 10000000), .lit (.int .u64 100000000), .lit (.int .u64 1000000000), .lit (.int .u64 10000000000), .lit (.int .u64 100000000000), .lit (.int .u64 1000000000000), .lit (.int .u64 10000000000000), .lit (.int .u64 100000000000000), .lit (.int .u64 1000000000000000), .lit (.int .u64 10000000000000000), .lit (.int .u64 100000000000000000), .lit (.int .u64 1000000000000000000), .lit (.int .u64 10000000000000000000)]
def laid_unicode_utf8_acceptRanges {H : Type} : DataW H := .agg [.agg [.lit (.int .u8 128), .lit (.int .u8 191)], .agg [.lit (.int .u8 160), .lit (.int .u8 191)], .agg [.lit (.int .u8 128), .lit (.int .u8 159)], .agg [.lit (.int .u8 144), .lit (.int .u8 191)], .agg [.lit (.int .u8 128), .lit (.int .u8 143)], .agg [.lit (.int .u8 0), .lit (.int .u8 0)], .agg [.lit (.int .u8 0), .lit (.int .u8 0)], .agg [.lit (.int .u8 0), .lit (.int .u8 0)], .agg [.lit (.int .u8 0), .lit (.int .u8 0)], .agg [.lit (.int .u8 0), .lit (.int .u8 0)], .agg [.lit (.int .u8 0), .lit (.int .u8 0)], .agg [.lit (.int .u8 0), .lit (.int .u8 0)], .agg [.lit (.int .u8 0), .lit (.int .u8 0)], .agg [.lit (.int .u8 0), .lit (.int .u8 0)], .agg [.lit (.int .u8 0), .lit (.int .u8 0)], .agg [.lit (.int .u8 0), .lit (.int .u8 0)]]
def laid_carryall_isa_forms {H : Type} : DataW H := .agg [.agg [.lit (.string [110, 111, 112]), .lit (.int .i64 (-1)), .lit (.int .i64 (-1)), .lit (.bool false)], .agg [.lit (.string [108, 105]), .lit (.int .i64 7), .lit (.int .i64 (-1)), .lit (.bool true)], .agg [.lit (.string [108, 117, 105]), .lit (.int .i64 7), .lit (.int .i64 (-1)), .lit (.bool true)], .agg [.lit (.string [109, 111, 118]), .lit (.int .i64 7), .lit (.int .i64 7), .lit (.bool false)], .agg [.lit (.string [97, 100, 100]), .lit (.int .i64 7), .lit (.int .i64 7), .lit (.bool false)], .agg [.lit (.string [115, 117, 98]), .lit (.int .i64 7), .lit (.int .i64 7), .lit (.bool false)], .agg [.lit (.string [109, 117, 108]), .lit (.int .i64 7), .lit (.int .i64 7), .lit (.bool false)], .agg [.lit (.string [97, 110, 100]), .lit (.int .i64 7), .lit (.int .i64 7), .lit (.bool false)], .agg [.lit (.string [111, 114]), .lit (.int .i64 7), .lit (.int .i64 7), .lit (.bool false)], .agg [.lit (.string [120, 111, 114]), .lit (.int .i64 7), .lit (.int .i64 7), .lit (.bool false)], .agg [.lit (.string [115, 104, 108]), .lit (.int .i64 7), .lit (.int .i64 7), .lit (.bool false)], .agg [.lit (.string [115, 104, 114]), .lit (.int .i64 7), .lit (.int .i64 7), .lit (.bool false)], .agg [.lit (.string [97, 100, 100, 105]), .lit (.int .i64 7), .lit (.int .i64 (-1)), .lit (.bool true)], .agg [.lit (.string [115, 108, 116]), .lit (.int .i64 7), .lit (.int .i64 7), .lit (.bool false)], .agg [.lit (.string [115, 101, 113]), .lit (.int .i64 7), .lit (.int .i64 7), .lit (.bool false)], .agg [.lit (.string [108, 119]), .lit (.int .i64 7), .lit (.int .i64 7), .lit (.bool true)], .agg [.lit (.string [115, 119]), .lit (.int .i64 7), .lit (.int .i64 7), .lit (.bool true)], .agg [.lit (.string [108, 98]), .lit (.int .i64 7), .lit (.int .i64 7), .lit (.bool true)], .agg [.lit (.string [115, 98]), .lit (.int .i64 7), .lit (.int .i64 7), .lit (.bool true)], .agg [.lit (.string [106, 109, 112]), .lit (.int .i64 (-1)), .lit (.int .i64 (-1)), .lit (.bool true)], .agg [.lit (.string [106, 122]), .lit (.int .i64 7), .lit (.int .i64 (-1)), .lit (.bool true)], .agg [.lit (.string [106, 110, 122]), .lit (.int .i64 7), .lit (.int .i64 (-1)), .lit (.bool true)], .agg [.lit (.string [106, 97, 108]), .lit (.int .i64 7), .lit (.int .i64 (-1)), .lit (.bool true)], .agg [.lit (.string [106, 114]), .lit (.int .i64 7), .lit (.int .i64 (-1)), .lit (.bool false)], .agg [.lit (.string [115, 121, 115]), .lit (.int .i64 (-1)), .lit (.int .i64 (-1)), .lit (.bool false)], .agg [.lit (.string [122, 115, 101, 116]), .lit (.int .i64 1), .lit (.int .i64 6), .lit (.bool false)], .agg [.lit (.string [122, 103, 101, 116]), .lit (.int .i64 1), .lit (.int .i64 6), .lit (.bool false)], .agg [.lit (.string [122, 97, 100, 100]), .lit (.int .i64 1), .lit (.int .i64 1), .lit (.bool false)], .agg [.lit (.string [122, 109, 117, 108]), .lit (.int .i64 1), .lit (.int .i64 1), .lit (.bool false)], .agg [.lit (.string [122, 99, 111, 110, 106]), .lit (.int .i64 1), .lit (.int .i64 (-1)), .lit (.bool false)]]
/-- One of Go's own tables, pinned by name: the form's constant. -/
def laid_unicode_utf8_first : DataW Unit := Go.Pinned.utf8First
def laid_strconv_ErrRange {H : Type} : DataW H := .iface "*errors.errorString" (.ptr (.agg [.lit (.string [118, 97, 108, 117, 101, 32, 111, 117, 116, 32, 111, 102, 32, 114, 97, 110, 103, 101])]))
def laid_strconv_ErrSyntax {H : Type} : DataW H := .iface "*errors.errorString" (.ptr (.agg [.lit (.string [105, 110, 118, 97, 108, 105, 100, 32, 115, 121, 110, 116, 97, 120])]))

/-- 'carryalllaw16.CallTells': WHATEVER THE INPUT: true; the input reads as it did. -/
def callTellsSpec : ChangeSpec := { name := "callTells", fn := fun _ => fun
  | [d1, d2, d3, d4, d5] => { results := [.lit (.bool true)], args := [d1, d2, d3, d4, d5] }
  | _ => none }
def callTellsRow : OpenClaim := { program := "ythmjddnccgiinaadoor", sum := "a46b7d12d0506d17930e5bd190f2bb8072d84db2b7e298e606e1933798cb23b4", func := "carryall/carryalllaw16.CallTells", spec := "callTells", unfollowed := true, recurses := true, named := ["carryall/call.kinds", "carryall/call.codes"], apart := false, laid := [("carryall/call.kinds", laid_carryall_call_kinds), ("carryall/call.codes", laid_carryall_call_codes)] }
def CallTellsSaid : Prop := callTellsRow.holds Tryd.pinned (OpenSpec.ofChange callTellsSpec)

/-- ITS FALSE NEIGHBOUR: 'it returns false'. Refute it at one input. -/
def callTellsWrong : ChangeSpec := { name := "callTells", fn := fun _ => fun
  | [d1, d2, d3, d4, d5] => { results := [.lit (.bool false)], args := [d1, d2, d3, d4, d5] }
  | _ => none }
def CallTellsWrongFalsely : Prop := callTellsRow.holds Tryd.pinned (OpenSpec.ofChange callTellsWrong)

/-- 'carryalllaw16.CallRegs': WHATEVER THE INPUT: true; the input reads as it did. -/
def callRegsSpec : ChangeSpec := { name := "callRegs", fn := fun _ => fun
  | [d1, d2, d3] => { results := [.lit (.bool true)], args := [d1, d2, d3] }
  | _ => none }
def callRegsRow : OpenClaim := { program := "ythmjddnccgiinaadoor", sum := "a46b7d12d0506d17930e5bd190f2bb8072d84db2b7e298e606e1933798cb23b4", func := "carryall/carryalllaw16.CallRegs", spec := "callRegs", inPlace := ["internal/abi.NoEscape"], unfollowed := true, recurses := true, named := ["carryall/call.kinds", "internal/strconv.uint64pow10", "math/bits.deBruijn32tab", "math/bits.deBruijn64tab", "carryall/call.codes"], apart := false, laid := [("math/bits.deBruijn32tab", laid_math_bits_deBruijn32tab), ("math/bits.deBruijn64tab", laid_math_bits_deBruijn64tab), ("internal/strconv.uint64pow10", laid_internal_strconv_uint64pow10), ("carryall/call.kinds", laid_carryall_call_kinds), ("carryall/call.codes", laid_carryall_call_codes)] }
def CallRegsSaid : Prop := callRegsRow.holds Tryd.pinned (OpenSpec.ofChange callRegsSpec)

/-- ITS FALSE NEIGHBOUR: 'it returns false'. Refute it at one input. -/
def callRegsWrong : ChangeSpec := { name := "callRegs", fn := fun _ => fun
  | [d1, d2, d3] => { results := [.lit (.bool false)], args := [d1, d2, d3] }
  | _ => none }
def CallRegsWrongFalsely : Prop := callRegsRow.holds Tryd.pinned (OpenSpec.ofChange callRegsWrong)

/-- 'carryalllaw16.CallRuns': WHATEVER THE INPUT: true; the input reads as it did. -/
def callRunsSpec : ChangeSpec := { name := "callRuns", fn := fun _ => fun
  | [d] => { results := [.lit (.bool true)], args := [d] }
  | _ => none }
def callRunsRow : OpenClaim := { program := "ythmjddnccgiinaadoor", sum := "a46b7d12d0506d17930e5bd190f2bb8072d84db2b7e298e606e1933798cb23b4", func := "carryall/carryalllaw16.CallRuns", spec := "callRuns", inPlace := ["internal/abi.NoEscape", "internal/bytealg.IndexByteString", "internal/bytealg.CountString", "internal/bytealg.IndexString"], unfollowed := true, recurses := true, named := ["carryall/call.kinds", "internal/strconv.uint64pow10", "math/bits.deBruijn32tab", "math/bits.deBruijn64tab", "carryall/call.codes", "unicode/utf8.first", "unicode/utf8.acceptRanges", "internal/bytealg.MaxLen", "carryall/isa.forms"], apart := false, laid := [("math/bits.deBruijn32tab", laid_math_bits_deBruijn32tab), ("math/bits.deBruijn64tab", laid_math_bits_deBruijn64tab), ("internal/strconv.uint64pow10", laid_internal_strconv_uint64pow10), ("unicode/utf8.acceptRanges", laid_unicode_utf8_acceptRanges), ("carryall/call.kinds", laid_carryall_call_kinds), ("carryall/call.codes", laid_carryall_call_codes), ("carryall/isa.forms", laid_carryall_isa_forms), ("unicode/utf8.first", laid_unicode_utf8_first)] }
def CallRunsSaid : Prop := callRunsRow.holds Tryd.pinned (OpenSpec.ofChange callRunsSpec)

/-- ITS FALSE NEIGHBOUR: 'it returns false'. Refute it at one input. -/
def callRunsWrong : ChangeSpec := { name := "callRuns", fn := fun _ => fun
  | [d] => { results := [.lit (.bool false)], args := [d] }
  | _ => none }
def CallRunsWrongFalsely : Prop := callRunsRow.holds Tryd.pinned (OpenSpec.ofChange callRunsWrong)

/-- 'carryalllaw16.CallLines': WHATEVER THE INPUT: true; the input reads as it did. -/
def callLinesSpec : ChangeSpec := { name := "callLines", fn := fun _ => fun
  | [d1, d2, d3] => { results := [.lit (.bool true)], args := [d1, d2, d3] }
  | _ => none }
def callLinesRow : OpenClaim := { program := "ythmjddnccgiinaadoor", sum := "a46b7d12d0506d17930e5bd190f2bb8072d84db2b7e298e606e1933798cb23b4", func := "carryall/carryalllaw16.CallLines", spec := "callLines", inPlace := ["internal/bytealg.CountString", "internal/bytealg.IndexByteString", "internal/bytealg.IndexString", "internal/abi.NoEscape"], unfollowed := true, recurses := true, named := ["carryall/call.kinds", "internal/strconv.uint64pow10", "math/bits.deBruijn32tab", "math/bits.deBruijn64tab", "unicode/utf8.first", "unicode/utf8.acceptRanges", "internal/bytealg.MaxLen", "strconv.ErrSyntax", "strconv.ErrRange"], apart := false, laid := [("math/bits.deBruijn32tab", laid_math_bits_deBruijn32tab), ("math/bits.deBruijn64tab", laid_math_bits_deBruijn64tab), ("internal/strconv.uint64pow10", laid_internal_strconv_uint64pow10), ("unicode/utf8.acceptRanges", laid_unicode_utf8_acceptRanges), ("strconv.ErrRange", laid_strconv_ErrRange), ("strconv.ErrSyntax", laid_strconv_ErrSyntax), ("carryall/call.kinds", laid_carryall_call_kinds), ("unicode/utf8.first", laid_unicode_utf8_first)] }
def CallLinesSaid : Prop := callLinesRow.holds Tryd.pinned (OpenSpec.ofChange callLinesSpec)

/-- ITS FALSE NEIGHBOUR: 'it returns false'. Refute it at one input. -/
def callLinesWrong : ChangeSpec := { name := "callLines", fn := fun _ => fun
  | [d1, d2, d3] => { results := [.lit (.bool false)], args := [d1, d2, d3] }
  | _ => none }
def CallLinesWrongFalsely : Prop := callLinesRow.holds Tryd.pinned (OpenSpec.ofChange callLinesWrong)

/-- 'carryalllaw16.CallNames': WHATEVER THE INPUT: true; the input reads as it did. -/
def callNamesSpec : ChangeSpec := { name := "callNames", fn := fun _ => fun
  | [] => { results := [.lit (.bool true)], args := [] }
  | _ => none }
def callNamesRow : OpenClaim := { program := "ythmjddnccgiinaadoor", sum := "a46b7d12d0506d17930e5bd190f2bb8072d84db2b7e298e606e1933798cb23b4", func := "carryall/carryalllaw16.CallNames", spec := "callNames", inPlace := ["internal/bytealg.CountString", "internal/bytealg.IndexByteString", "internal/bytealg.IndexString", "internal/abi.NoEscape"], unfollowed := true, recurses := true, named := ["carryall/call.kinds", "internal/strconv.uint64pow10", "math/bits.deBruijn32tab", "math/bits.deBruijn64tab", "unicode/utf8.first", "unicode/utf8.acceptRanges", "internal/bytealg.MaxLen", "strconv.ErrSyntax", "strconv.ErrRange", "carryall/call.codes"], apart := false, laid := [("math/bits.deBruijn32tab", laid_math_bits_deBruijn32tab), ("math/bits.deBruijn64tab", laid_math_bits_deBruijn64tab), ("internal/strconv.uint64pow10", laid_internal_strconv_uint64pow10), ("unicode/utf8.acceptRanges", laid_unicode_utf8_acceptRanges), ("strconv.ErrRange", laid_strconv_ErrRange), ("strconv.ErrSyntax", laid_strconv_ErrSyntax), ("carryall/call.kinds", laid_carryall_call_kinds), ("carryall/call.codes", laid_carryall_call_codes), ("unicode/utf8.first", laid_unicode_utf8_first)] }
def CallNamesSaid : Prop := callNamesRow.holds Tryd.pinned (OpenSpec.ofChange callNamesSpec)

/-- ITS FALSE NEIGHBOUR: 'it returns false'. Refute it at one input. -/
def callNamesWrong : ChangeSpec := { name := "callNames", fn := fun _ => fun
  | [] => { results := [.lit (.bool false)], args := [] }
  | _ => none }
def CallNamesWrongFalsely : Prop := callNamesRow.holds Tryd.pinned (OpenSpec.ofChange callNamesWrong)

/-- 'carryalllaw16.CallBack': WHATEVER THE INPUT: true; the input reads as it did. -/
def callBackSpec : ChangeSpec := { name := "callBack", fn := fun _ => fun
  | [d1, d2, d3, d4] => { results := [.lit (.bool true)], args := [d1, d2, d3, d4] }
  | _ => none }
def callBackRow : OpenClaim := { program := "ythmjddnccgiinaadoor", sum := "a46b7d12d0506d17930e5bd190f2bb8072d84db2b7e298e606e1933798cb23b4", func := "carryall/carryalllaw16.CallBack", spec := "callBack", inPlace := ["internal/abi.NoEscape", "internal/bytealg.CountString", "internal/bytealg.IndexByteString", "internal/bytealg.IndexString"], unfollowed := true, recurses := true, named := ["carryall/call.kinds", "internal/strconv.uint64pow10", "math/bits.deBruijn32tab", "math/bits.deBruijn64tab", "carryall/call.codes", "unicode/utf8.first", "unicode/utf8.acceptRanges", "internal/bytealg.MaxLen", "strconv.ErrSyntax", "strconv.ErrRange"], apart := false, laid := [("math/bits.deBruijn32tab", laid_math_bits_deBruijn32tab), ("math/bits.deBruijn64tab", laid_math_bits_deBruijn64tab), ("internal/strconv.uint64pow10", laid_internal_strconv_uint64pow10), ("unicode/utf8.acceptRanges", laid_unicode_utf8_acceptRanges), ("strconv.ErrRange", laid_strconv_ErrRange), ("strconv.ErrSyntax", laid_strconv_ErrSyntax), ("carryall/call.kinds", laid_carryall_call_kinds), ("carryall/call.codes", laid_carryall_call_codes), ("unicode/utf8.first", laid_unicode_utf8_first)] }
def CallBackSaid : Prop := callBackRow.holds Tryd.pinned (OpenSpec.ofChange callBackSpec)

/-- ITS FALSE NEIGHBOUR: 'it returns false'. Refute it at one input. -/
def callBackWrong : ChangeSpec := { name := "callBack", fn := fun _ => fun
  | [d1, d2, d3, d4] => { results := [.lit (.bool false)], args := [d1, d2, d3, d4] }
  | _ => none }
def CallBackWrongFalsely : Prop := callBackRow.holds Tryd.pinned (OpenSpec.ofChange callBackWrong)

/- THE SECOND FORM. 'bulk': how many values and letters a reading holds, each counted each time it is reached (what is shared counts as often as it is met; a slice's spare places count too). A statement '..UptoSaid' is the law's where the arguments, and the package variables that the reading takes, are together of bulk at most 1048576: NARROWER than '..Said'. Prove '..Said' where nothing that the law and all that it calls make is longer than what came in: it says more and counts as full. Else prove '..UptoSaid'. A law counts once. -/
mutual
def uptoBulk {H : Type} : DataW H → Nat
  | .lit (.string bytes) => bytes.length + 1
  | .lit _ => 1
  | .nil => 1
  | .ptr d => uptoBulk d + 1
  | .slice elems spare => uptoBulkAll elems + uptoBulkAll spare + 1
  | .agg parts => uptoBulkAll parts + 1
  | .iface _ d => uptoBulk d + 1
  | .map entries => uptoBulkEntries entries + 1
  | .held _ => 1
def uptoBulkAll {H : Type} : List (DataW H) → Nat
  | [] => 0
  | d :: r => uptoBulk d + uptoBulkAll r
def uptoBulkEntries {H : Type} : List (Lit × DataW H) → Nat
  | [] => 0
  | x :: r => uptoBulkEntry x + uptoBulkEntries r
def uptoBulkEntry {H : Type} : Lit × DataW H → Nat
  | (.string bytes, d) => bytes.length + uptoBulk d + 1
  | (_, d) => uptoBulk d + 1
 end
def uptoSmall : (H : Type) → List (DataW H) → Bool := fun _ ds => decide (uptoBulkAll ds ≤ 1048576)
def OpenSpec.upto (s : _root_.Go.ChangeSpec) : _root_.Go.OpenSpec := { _root_.Go.OpenSpec.ofChange s with cond := some uptoSmall }

/-- 'carryalllaw16.CallTells', WHERE WHAT IT READS IS OF BULK AT MOST 1048576: true; the input reads as it did. -/
def callTellsUptoRow : OpenClaim := { program := "ythmjddnccgiinaadoor", sum := "a46b7d12d0506d17930e5bd190f2bb8072d84db2b7e298e606e1933798cb23b4", func := "carryall/carryalllaw16.CallTells", spec := "callTells", unfollowed := true, recurses := true, named := ["carryall/call.kinds", "carryall/call.codes"], apart := false, laid := [("carryall/call.kinds", laid_carryall_call_kinds), ("carryall/call.codes", laid_carryall_call_codes)], narrowed := true }
def CallTellsUptoSaid : Prop := callTellsUptoRow.holds Tryd.pinned (OpenSpec.upto callTellsSpec)

/-- 'carryalllaw16.CallRegs', WHERE WHAT IT READS IS OF BULK AT MOST 1048576: true; the input reads as it did. -/
def callRegsUptoRow : OpenClaim := { program := "ythmjddnccgiinaadoor", sum := "a46b7d12d0506d17930e5bd190f2bb8072d84db2b7e298e606e1933798cb23b4", func := "carryall/carryalllaw16.CallRegs", spec := "callRegs", inPlace := ["internal/abi.NoEscape"], unfollowed := true, recurses := true, named := ["carryall/call.kinds", "internal/strconv.uint64pow10", "math/bits.deBruijn32tab", "math/bits.deBruijn64tab", "carryall/call.codes"], apart := false, laid := [("math/bits.deBruijn32tab", laid_math_bits_deBruijn32tab), ("math/bits.deBruijn64tab", laid_math_bits_deBruijn64tab), ("internal/strconv.uint64pow10", laid_internal_strconv_uint64pow10), ("carryall/call.kinds", laid_carryall_call_kinds), ("carryall/call.codes", laid_carryall_call_codes)], narrowed := true }
def CallRegsUptoSaid : Prop := callRegsUptoRow.holds Tryd.pinned (OpenSpec.upto callRegsSpec)

/-- 'carryalllaw16.CallRuns', WHERE WHAT IT READS IS OF BULK AT MOST 1048576: true; the input reads as it did. -/
def callRunsUptoRow : OpenClaim := { program := "ythmjddnccgiinaadoor", sum := "a46b7d12d0506d17930e5bd190f2bb8072d84db2b7e298e606e1933798cb23b4", func := "carryall/carryalllaw16.CallRuns", spec := "callRuns", inPlace := ["internal/abi.NoEscape", "internal/bytealg.IndexByteString", "internal/bytealg.CountString", "internal/bytealg.IndexString"], unfollowed := true, recurses := true, named := ["carryall/call.kinds", "internal/strconv.uint64pow10", "math/bits.deBruijn32tab", "math/bits.deBruijn64tab", "carryall/call.codes", "unicode/utf8.first", "unicode/utf8.acceptRanges", "internal/bytealg.MaxLen", "carryall/isa.forms"], apart := false, laid := [("math/bits.deBruijn32tab", laid_math_bits_deBruijn32tab), ("math/bits.deBruijn64tab", laid_math_bits_deBruijn64tab), ("internal/strconv.uint64pow10", laid_internal_strconv_uint64pow10), ("unicode/utf8.acceptRanges", laid_unicode_utf8_acceptRanges), ("carryall/call.kinds", laid_carryall_call_kinds), ("carryall/call.codes", laid_carryall_call_codes), ("carryall/isa.forms", laid_carryall_isa_forms), ("unicode/utf8.first", laid_unicode_utf8_first)], narrowed := true }
def CallRunsUptoSaid : Prop := callRunsUptoRow.holds Tryd.pinned (OpenSpec.upto callRunsSpec)

/-- 'carryalllaw16.CallLines', WHERE WHAT IT READS IS OF BULK AT MOST 1048576: true; the input reads as it did. -/
def callLinesUptoRow : OpenClaim := { program := "ythmjddnccgiinaadoor", sum := "a46b7d12d0506d17930e5bd190f2bb8072d84db2b7e298e606e1933798cb23b4", func := "carryall/carryalllaw16.CallLines", spec := "callLines", inPlace := ["internal/bytealg.CountString", "internal/bytealg.IndexByteString", "internal/bytealg.IndexString", "internal/abi.NoEscape"], unfollowed := true, recurses := true, named := ["carryall/call.kinds", "internal/strconv.uint64pow10", "math/bits.deBruijn32tab", "math/bits.deBruijn64tab", "unicode/utf8.first", "unicode/utf8.acceptRanges", "internal/bytealg.MaxLen", "strconv.ErrSyntax", "strconv.ErrRange"], apart := false, laid := [("math/bits.deBruijn32tab", laid_math_bits_deBruijn32tab), ("math/bits.deBruijn64tab", laid_math_bits_deBruijn64tab), ("internal/strconv.uint64pow10", laid_internal_strconv_uint64pow10), ("unicode/utf8.acceptRanges", laid_unicode_utf8_acceptRanges), ("strconv.ErrRange", laid_strconv_ErrRange), ("strconv.ErrSyntax", laid_strconv_ErrSyntax), ("carryall/call.kinds", laid_carryall_call_kinds), ("unicode/utf8.first", laid_unicode_utf8_first)], narrowed := true }
def CallLinesUptoSaid : Prop := callLinesUptoRow.holds Tryd.pinned (OpenSpec.upto callLinesSpec)

/-- 'carryalllaw16.CallNames', WHERE WHAT IT READS IS OF BULK AT MOST 1048576: true; the input reads as it did. -/
def callNamesUptoRow : OpenClaim := { program := "ythmjddnccgiinaadoor", sum := "a46b7d12d0506d17930e5bd190f2bb8072d84db2b7e298e606e1933798cb23b4", func := "carryall/carryalllaw16.CallNames", spec := "callNames", inPlace := ["internal/bytealg.CountString", "internal/bytealg.IndexByteString", "internal/bytealg.IndexString", "internal/abi.NoEscape"], unfollowed := true, recurses := true, named := ["carryall/call.kinds", "internal/strconv.uint64pow10", "math/bits.deBruijn32tab", "math/bits.deBruijn64tab", "unicode/utf8.first", "unicode/utf8.acceptRanges", "internal/bytealg.MaxLen", "strconv.ErrSyntax", "strconv.ErrRange", "carryall/call.codes"], apart := false, laid := [("math/bits.deBruijn32tab", laid_math_bits_deBruijn32tab), ("math/bits.deBruijn64tab", laid_math_bits_deBruijn64tab), ("internal/strconv.uint64pow10", laid_internal_strconv_uint64pow10), ("unicode/utf8.acceptRanges", laid_unicode_utf8_acceptRanges), ("strconv.ErrRange", laid_strconv_ErrRange), ("strconv.ErrSyntax", laid_strconv_ErrSyntax), ("carryall/call.kinds", laid_carryall_call_kinds), ("carryall/call.codes", laid_carryall_call_codes), ("unicode/utf8.first", laid_unicode_utf8_first)], narrowed := true }
def CallNamesUptoSaid : Prop := callNamesUptoRow.holds Tryd.pinned (OpenSpec.upto callNamesSpec)

/-- 'carryalllaw16.CallBack', WHERE WHAT IT READS IS OF BULK AT MOST 1048576: true; the input reads as it did. -/
def callBackUptoRow : OpenClaim := { program := "ythmjddnccgiinaadoor", sum := "a46b7d12d0506d17930e5bd190f2bb8072d84db2b7e298e606e1933798cb23b4", func := "carryall/carryalllaw16.CallBack", spec := "callBack", inPlace := ["internal/abi.NoEscape", "internal/bytealg.CountString", "internal/bytealg.IndexByteString", "internal/bytealg.IndexString"], unfollowed := true, recurses := true, named := ["carryall/call.kinds", "internal/strconv.uint64pow10", "math/bits.deBruijn32tab", "math/bits.deBruijn64tab", "carryall/call.codes", "unicode/utf8.first", "unicode/utf8.acceptRanges", "internal/bytealg.MaxLen", "strconv.ErrSyntax", "strconv.ErrRange"], apart := false, laid := [("math/bits.deBruijn32tab", laid_math_bits_deBruijn32tab), ("math/bits.deBruijn64tab", laid_math_bits_deBruijn64tab), ("internal/strconv.uint64pow10", laid_internal_strconv_uint64pow10), ("unicode/utf8.acceptRanges", laid_unicode_utf8_acceptRanges), ("strconv.ErrRange", laid_strconv_ErrRange), ("strconv.ErrSyntax", laid_strconv_ErrSyntax), ("carryall/call.kinds", laid_carryall_call_kinds), ("carryall/call.codes", laid_carryall_call_codes), ("unicode/utf8.first", laid_unicode_utf8_first)], narrowed := true }
def CallBackUptoSaid : Prop := callBackUptoRow.holds Tryd.pinned (OpenSpec.upto callBackSpec)

end Rows
end Go.Proofs.YthmjddnccgiinaaDoor
