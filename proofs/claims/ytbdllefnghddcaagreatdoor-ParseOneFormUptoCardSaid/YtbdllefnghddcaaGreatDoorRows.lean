/-
  NARROWER THAN 'FOR EVERY INPUT', by the rows' own cells (each row's printed sentence says how): ParseReads: laid · ParsePrints: loops, laid · ParseWants: loops, laid · ParseSames: loops, laid · ParseOneForm: laid · ParseBlanks: loops, laid · ParseBack: loops, laid.
  DERIVED. THE GIVEN ROWS OF THIS SEAT. 7 by the template 'for every input the law returns true; each argument reads behind the call as it read before'; 0 by the template 'total and deterministic' (their statements: YtbdllefnghddcaaGreatDoorTotals.lean).
  GIVEN WITH THE SEED: the statements are not yours to turn. If you find one false, say at which input.
  Laid BY PROGRAM, IN A SANDBOX (cutbox-rows.mjs): the forced cells as the released guide's own fill.sh prints them over the translation 5c0aff389264b058… (all of the seat's roots in one cut). By AI agents, Wed Nov 11 2026. No macro, syntax, notation, axiom, sorry.
-/
import Derived.Test.YtbdllefnghddcaaGreatDoorChecked
import GoSem.Claim
import GoSem.ClaimJoined
import GoSem.ClaimMapViews
import Derived.JoinedTies
import Derived.KernelRfl
namespace Go.Proofs.YtbdllefnghddcaaGreatDoor
/- THE CELL 'sum', in the pinned program and in every row, IS THE sha256 OF THE DUMP (.gsa) THAT YtbdllefnghddcaaGreatDoorProg.lean LOADS. Nothing in Lean hashes anything: it is a label: what it is worth is what the hold of that sum in a sandbox is worth. -/
noncomputable def Tryz.pinned : Pinned := { name := "ytbdllefnghddcaagreatdoor", sum := "5c0aff389264b058750d101f8e933c86a89c41eefc7d01b7f1200c34dd6c0b33", checked := Tryz.checked }
namespace Rows
def none {H : Type} : Left H := { results := [], args := [] }

/- WHAT THE LISTED PACKAGE-LEVEL VARIABLES READ AS WHEN THE CALL BEGINS. Each datum BY PROGRAM (the guide's laid-datum.mjs) off the statement by which the dump's own 'gosem.cut.vars' lays the variable. In a bare row this is a premise. The card (YtbdllefnghddcaaGreatDoorCards.lean) ties it to the program's text. -/
def laid_math_bits_deBruijn32tab {H : Type} : DataW H := .agg [.lit (.int .u8 0), .lit (.int .u8 1), .lit (.int .u8 28), .lit (.int .u8 2), .lit (.int .u8 29), .lit (.int .u8 14), .lit (.int .u8 24), .lit (.int .u8 3), .lit (.int .u8 30), .lit (.int .u8 22), .lit (.int .u8 20), .lit (.int .u8 15), .lit (.int .u8 25), .lit (.int .u8 17), .lit (.int .u8 4), .lit (.int .u8 8), .lit (.int .u8 31), .lit (.int .u8 27), .lit (.int .u8 13), .lit (.int .u8 23), .lit (.int .u8 21), .lit (.int .u8 19), .lit (.int .u8 16), .lit (.int .u8 7), .lit (.int .u8 26), .lit (.int .u8 12), .lit (.int .u8 18), .lit (.int .u8 6), .lit (.int .u8 11), .lit (.int .u8 5), .lit (.int .u8 10), .lit (.int .u8 9)]
def laid_math_bits_deBruijn64tab {H : Type} : DataW H := .agg [.lit (.int .u8 0), .lit (.int .u8 1), .lit (.int .u8 56), .lit (.int .u8 2), .lit (.int .u8 57), .lit (.int .u8 49), .lit (.int .u8 28), .lit (.int .u8 3), .lit (.int .u8 61), .lit (.int .u8 58), .lit (.int .u8 42), .lit (.int .u8 50), .lit (.int .u8 38), .lit (.int .u8 29), .lit (.int .u8 17), .lit (.int .u8 4), .lit (.int .u8 62), .lit (.int .u8 47), .lit (.int .u8 59), .lit (.int .u8 36), .lit (.int .u8 45), .lit (.int .u8 43), .lit (.int .u8 51), .lit (.int .u8 22), .lit (.int .u8 53), .lit (.int .u8 39), .lit (.int .u8 33), .lit (.int .u8 30), .lit (.int .u8 24), .lit (.int .u8 18), .lit (.int .u8 12), .lit (.int .u8 5), .lit (.int .u8 63), .lit (.int .u8 55), .lit (.int .u8 48), .lit (.int .u8 27), .lit (.int .u8 60), .lit (.int .u8 41), .lit (.int .u8 37), .lit (.int .u8 16), .lit (.int .u8 46), .lit (.int .u8 35), .lit (.int .u8 44), .lit (.int .u8 21), .lit (.int .u8 52), .lit (.int .u8 32), .lit (.int .u8 23), .lit (.int .u8 11), .lit (.int .u8 54), .lit (.int .u8 26), .lit (.int .u8 40), .lit (.int .u8 15), .lit (.int .u8 34), .lit (.int .u8 20), .lit (.int .u8 31), .lit (.int .u8 10), .lit (.int .u8 25), .lit (.int .u8 14), .lit (.int .u8 19), .lit (.int .u8 9), .lit (.int .u8 13), .lit (.int .u8 8), .lit (.int .u8 7), .lit (.int .u8 6)]
def laid_internal_strconv_uint64pow10 {H : Type} : DataW H := .agg [.lit (.int .u64 1), .lit (.int .u64 10), .lit (.int .u64 100), .lit (.int .u64 1000), .lit (.int .u64 10000), .lit (.int .u64 100000), .lit (.int .u64 1000000), .lit (.int .u64 10000000), .lit (.int .u64 100000000), .lit (.int .u64 1000000000), .lit (.int .u64 10000000000), .lit (.int .u64 100000000000), .lit (.int .u64 1000000000000), .lit (.int .u64 10000000000000), .lit (.int .u64 100000000000000), .lit (.int .u64 1000000000000000), .lit (.int .u64 10000000000000000), .lit (.int .u64 100000000000000000), .lit (.int .u64 1000000000000000000), .lit (.int .u64 10000000000000000000)]
def laid_conduit_scan_words {H : Type} : DataW H := .agg [.lit (.string [97, 102, 116, 101, 114]), .lit (.string [99, 97, 112, 115]), .lit (.string [100, 114, 111, 112]), .lit (.string [101, 108, 115, 101]), .lit (.string [104, 97, 110, 100, 108, 101, 114]), .lit (.string [105, 110, 98, 111, 120]), .lit (.string [111, 102]), .lit (.string [111, 112, 101, 110]), .lit (.string [114, 111, 117, 116, 101]), .lit (.string [119, 104, 101, 110]), .lit (.string [119, 105, 116, 104]), .lit (.string [33]), .lit (.string [38]), .lit (.string [40]), .lit (.string [41]), .lit (.string [44]), .lit (.string [45]), .lit (.string [45, 62]), .lit (.string [58]), .lit (.string [59]), .lit (.string [61]), .lit (.string [124])]
def laid_conduit_parse_errBroken {H : Type} : DataW H := .iface "*errors.errorString" (.ptr (.agg [.lit (.string [98, 114, 111, 107, 101, 110])]))
def laid_conduit_parse_kinds {H : Type} : DataW H := .agg [.lit (.string [110, 105, 108]), .lit (.string [105, 110, 116]), .lit (.string [107, 101, 121]), .lit (.string [102, 108, 111, 97, 116]), .lit (.string [116, 101, 120, 116]), .lit (.string [110, 97, 109, 101]), .lit (.string [98, 111, 111, 108]), .lit (.string [98, 121, 116, 101, 115]), .lit (.string [108, 105, 115, 116]), .lit (.string [112, 97, 105, 114]), .lit (.string [101, 114, 114, 111, 114]), .lit (.string [112, 111, 105, 110, 116, 101, 114]), .lit (.string [110, 111, 112, 111, 105, 110, 116, 101, 114]), .lit (.string [117, 110, 105, 116])]
def laid_conduit_parse_faces {H : Type} : DataW H := .agg [.lit (.string [115, 105, 122, 101, 100]), .lit (.string [110, 97, 109, 101, 100]), .lit (.string [102, 97, 105, 108, 105, 110, 103]), .lit (.string [111, 112, 101, 110, 105, 110, 103]), .lit (.string [111, 114, 100, 101, 114, 101, 100]), .lit (.string [97, 100, 100, 105, 110, 103]), .lit (.string [108, 97, 98, 101, 108, 108, 101, 100]), .lit (.string [109, 101, 97, 115, 117, 114, 101, 100]), .lit (.string [110, 117, 109, 98, 101, 114]), .lit (.string [119, 104, 111, 108, 101])]

/-- 'conduitlaw07.ParseReads': WHATEVER THE INPUT: true; the input reads as it did. -/
def parseReadsSpec : ChangeSpec := { name := "parseReads", fn := fun _ => fun
  | [d] => { results := [.lit (.bool true)], args := [d] }
  | _ => none }
def parseReadsRow : OpenClaim := { program := "ytbdllefnghddcaagreatdoor", sum := "5c0aff389264b058750d101f8e933c86a89c41eefc7d01b7f1200c34dd6c0b33", func := "conduit/conduitlaw07.ParseReads", spec := "parseReads", inPlace := ["internal/bytealg.IndexByte", "internal/bytealg.Index", "internal/abi.NoEscape", "internal/bytealg.MakeNoZero"], unfollowed := true, recurses := true, named := ["internal/bytealg.MaxLen", "conduit/scan.words", "conduit/parse.errBroken", "conduit/parse.kinds", "conduit/parse.faces", "internal/strconv.uint64pow10", "math/bits.deBruijn32tab", "math/bits.deBruijn64tab"], apart := false, laid := [("math/bits.deBruijn32tab", laid_math_bits_deBruijn32tab), ("math/bits.deBruijn64tab", laid_math_bits_deBruijn64tab), ("internal/strconv.uint64pow10", laid_internal_strconv_uint64pow10), ("conduit/scan.words", laid_conduit_scan_words), ("conduit/parse.errBroken", laid_conduit_parse_errBroken), ("conduit/parse.kinds", laid_conduit_parse_kinds), ("conduit/parse.faces", laid_conduit_parse_faces)] }
def ParseReadsSaid : Prop := parseReadsRow.holds Tryz.pinned (OpenSpec.ofChange parseReadsSpec)

/-- ITS FALSE NEIGHBOUR: 'it returns false'. Refute it at one input. -/
def parseReadsWrong : ChangeSpec := { name := "parseReads", fn := fun _ => fun
  | [d] => { results := [.lit (.bool false)], args := [d] }
  | _ => none }
def ParseReadsWrongFalsely : Prop := parseReadsRow.holds Tryz.pinned (OpenSpec.ofChange parseReadsWrong)

/-- 'conduitlaw07.ParsePrints': WHATEVER THE INPUT: true; the input reads as it did. -/
def parsePrintsSpec : ChangeSpec := { name := "parsePrints", fn := fun _ => fun
  | [d] => { results := [.lit (.bool true)], args := [d] }
  | _ => none }
def parsePrintsRow : OpenClaim := { program := "ytbdllefnghddcaagreatdoor", sum := "5c0aff389264b058750d101f8e933c86a89c41eefc7d01b7f1200c34dd6c0b33", func := "conduit/conduitlaw07.ParsePrints", spec := "parsePrints", inPlace := ["internal/bytealg.IndexByte", "internal/bytealg.Index", "internal/abi.NoEscape", "internal/bytealg.MakeNoZero"], unfollowed := true, recurses := true, named := ["internal/bytealg.MaxLen", "conduit/scan.words", "internal/strconv.uint64pow10", "math/bits.deBruijn32tab", "math/bits.deBruijn64tab", "conduit/parse.kinds", "conduit/parse.faces", "conduit/parse.errBroken"], loops := true, apart := false, laid := [("math/bits.deBruijn32tab", laid_math_bits_deBruijn32tab), ("math/bits.deBruijn64tab", laid_math_bits_deBruijn64tab), ("internal/strconv.uint64pow10", laid_internal_strconv_uint64pow10), ("conduit/scan.words", laid_conduit_scan_words), ("conduit/parse.errBroken", laid_conduit_parse_errBroken), ("conduit/parse.kinds", laid_conduit_parse_kinds), ("conduit/parse.faces", laid_conduit_parse_faces)] }
def ParsePrintsSaid : Prop := parsePrintsRow.holds Tryz.pinned (OpenSpec.ofChange parsePrintsSpec)

/-- ITS FALSE NEIGHBOUR: 'it returns false'. Refute it at one input. -/
def parsePrintsWrong : ChangeSpec := { name := "parsePrints", fn := fun _ => fun
  | [d] => { results := [.lit (.bool false)], args := [d] }
  | _ => none }
def ParsePrintsWrongFalsely : Prop := parsePrintsRow.holds Tryz.pinned (OpenSpec.ofChange parsePrintsWrong)

/-- 'conduitlaw07.ParseWants': WHATEVER THE INPUT: true; the input reads as it did. -/
def parseWantsSpec : ChangeSpec := { name := "parseWants", fn := fun _ => fun
  | [d1, d2] => { results := [.lit (.bool true)], args := [d1, d2] }
  | _ => none }
def parseWantsRow : OpenClaim := { program := "ytbdllefnghddcaagreatdoor", sum := "5c0aff389264b058750d101f8e933c86a89c41eefc7d01b7f1200c34dd6c0b33", func := "conduit/conduitlaw07.ParseWants", spec := "parseWants", inPlace := ["internal/bytealg.IndexByte", "internal/bytealg.Index", "internal/abi.NoEscape", "internal/bytealg.MakeNoZero"], unfollowed := true, recurses := true, named := ["internal/bytealg.MaxLen", "conduit/scan.words", "conduit/parse.errBroken", "conduit/parse.kinds", "conduit/parse.faces", "internal/strconv.uint64pow10", "math/bits.deBruijn32tab", "math/bits.deBruijn64tab"], loops := true, apart := false, laid := [("math/bits.deBruijn32tab", laid_math_bits_deBruijn32tab), ("math/bits.deBruijn64tab", laid_math_bits_deBruijn64tab), ("internal/strconv.uint64pow10", laid_internal_strconv_uint64pow10), ("conduit/scan.words", laid_conduit_scan_words), ("conduit/parse.errBroken", laid_conduit_parse_errBroken), ("conduit/parse.kinds", laid_conduit_parse_kinds), ("conduit/parse.faces", laid_conduit_parse_faces)] }
def ParseWantsSaid : Prop := parseWantsRow.holds Tryz.pinned (OpenSpec.ofChange parseWantsSpec)

/-- ITS FALSE NEIGHBOUR: 'it returns false'. Refute it at one input. -/
def parseWantsWrong : ChangeSpec := { name := "parseWants", fn := fun _ => fun
  | [d1, d2] => { results := [.lit (.bool false)], args := [d1, d2] }
  | _ => none }
def ParseWantsWrongFalsely : Prop := parseWantsRow.holds Tryz.pinned (OpenSpec.ofChange parseWantsWrong)

/-- 'conduitlaw07.ParseSames': WHATEVER THE INPUT: true; the input reads as it did. -/
def parseSamesSpec : ChangeSpec := { name := "parseSames", fn := fun _ => fun
  | [d1, d2] => { results := [.lit (.bool true)], args := [d1, d2] }
  | _ => none }
def parseSamesRow : OpenClaim := { program := "ytbdllefnghddcaagreatdoor", sum := "5c0aff389264b058750d101f8e933c86a89c41eefc7d01b7f1200c34dd6c0b33", func := "conduit/conduitlaw07.ParseSames", spec := "parseSames", inPlace := ["internal/bytealg.IndexByte", "internal/bytealg.Index", "internal/abi.NoEscape", "internal/bytealg.MakeNoZero"], unfollowed := true, recurses := true, named := ["internal/bytealg.MaxLen", "conduit/scan.words", "conduit/parse.errBroken", "conduit/parse.kinds", "conduit/parse.faces", "internal/strconv.uint64pow10", "math/bits.deBruijn32tab", "math/bits.deBruijn64tab"], loops := true, apart := false, laid := [("math/bits.deBruijn32tab", laid_math_bits_deBruijn32tab), ("math/bits.deBruijn64tab", laid_math_bits_deBruijn64tab), ("internal/strconv.uint64pow10", laid_internal_strconv_uint64pow10), ("conduit/scan.words", laid_conduit_scan_words), ("conduit/parse.errBroken", laid_conduit_parse_errBroken), ("conduit/parse.kinds", laid_conduit_parse_kinds), ("conduit/parse.faces", laid_conduit_parse_faces)] }
def ParseSamesSaid : Prop := parseSamesRow.holds Tryz.pinned (OpenSpec.ofChange parseSamesSpec)

/-- ITS FALSE NEIGHBOUR: 'it returns false'. Refute it at one input. -/
def parseSamesWrong : ChangeSpec := { name := "parseSames", fn := fun _ => fun
  | [d1, d2] => { results := [.lit (.bool false)], args := [d1, d2] }
  | _ => none }
def ParseSamesWrongFalsely : Prop := parseSamesRow.holds Tryz.pinned (OpenSpec.ofChange parseSamesWrong)

/-- 'conduitlaw07.ParseOneForm': WHATEVER THE INPUT: true; the input reads as it did. -/
def parseOneFormSpec : ChangeSpec := { name := "parseOneForm", fn := fun _ => fun
  | [d] => { results := [.lit (.bool true)], args := [d] }
  | _ => none }
def parseOneFormRow : OpenClaim := { program := "ytbdllefnghddcaagreatdoor", sum := "5c0aff389264b058750d101f8e933c86a89c41eefc7d01b7f1200c34dd6c0b33", func := "conduit/conduitlaw07.ParseOneForm", spec := "parseOneForm", inPlace := ["internal/bytealg.IndexByte", "internal/bytealg.Index", "internal/abi.NoEscape", "internal/bytealg.MakeNoZero"], unfollowed := true, recurses := true, named := ["internal/bytealg.MaxLen", "conduit/scan.words", "conduit/parse.errBroken", "conduit/parse.kinds", "conduit/parse.faces", "internal/strconv.uint64pow10", "math/bits.deBruijn32tab", "math/bits.deBruijn64tab"], apart := false, laid := [("math/bits.deBruijn32tab", laid_math_bits_deBruijn32tab), ("math/bits.deBruijn64tab", laid_math_bits_deBruijn64tab), ("internal/strconv.uint64pow10", laid_internal_strconv_uint64pow10), ("conduit/scan.words", laid_conduit_scan_words), ("conduit/parse.errBroken", laid_conduit_parse_errBroken), ("conduit/parse.kinds", laid_conduit_parse_kinds), ("conduit/parse.faces", laid_conduit_parse_faces)] }
def ParseOneFormSaid : Prop := parseOneFormRow.holds Tryz.pinned (OpenSpec.ofChange parseOneFormSpec)

/-- ITS FALSE NEIGHBOUR: 'it returns false'. Refute it at one input. -/
def parseOneFormWrong : ChangeSpec := { name := "parseOneForm", fn := fun _ => fun
  | [d] => { results := [.lit (.bool false)], args := [d] }
  | _ => none }
def ParseOneFormWrongFalsely : Prop := parseOneFormRow.holds Tryz.pinned (OpenSpec.ofChange parseOneFormWrong)

/-- 'conduitlaw07.ParseBlanks': WHATEVER THE INPUT: true; the input reads as it did. -/
def parseBlanksSpec : ChangeSpec := { name := "parseBlanks", fn := fun _ => fun
  | [d1, d2, d3] => { results := [.lit (.bool true)], args := [d1, d2, d3] }
  | _ => none }
def parseBlanksRow : OpenClaim := { program := "ytbdllefnghddcaagreatdoor", sum := "5c0aff389264b058750d101f8e933c86a89c41eefc7d01b7f1200c34dd6c0b33", func := "conduit/conduitlaw07.ParseBlanks", spec := "parseBlanks", inPlace := ["internal/bytealg.IndexByte", "internal/bytealg.Index", "internal/abi.NoEscape", "internal/bytealg.MakeNoZero"], unfollowed := true, recurses := true, named := ["internal/bytealg.MaxLen", "conduit/scan.words", "conduit/parse.errBroken", "conduit/parse.kinds", "conduit/parse.faces", "internal/strconv.uint64pow10", "math/bits.deBruijn32tab", "math/bits.deBruijn64tab"], loops := true, apart := false, laid := [("math/bits.deBruijn32tab", laid_math_bits_deBruijn32tab), ("math/bits.deBruijn64tab", laid_math_bits_deBruijn64tab), ("internal/strconv.uint64pow10", laid_internal_strconv_uint64pow10), ("conduit/scan.words", laid_conduit_scan_words), ("conduit/parse.errBroken", laid_conduit_parse_errBroken), ("conduit/parse.kinds", laid_conduit_parse_kinds), ("conduit/parse.faces", laid_conduit_parse_faces)] }
def ParseBlanksSaid : Prop := parseBlanksRow.holds Tryz.pinned (OpenSpec.ofChange parseBlanksSpec)

/-- ITS FALSE NEIGHBOUR: 'it returns false'. Refute it at one input. -/
def parseBlanksWrong : ChangeSpec := { name := "parseBlanks", fn := fun _ => fun
  | [d1, d2, d3] => { results := [.lit (.bool false)], args := [d1, d2, d3] }
  | _ => none }
def ParseBlanksWrongFalsely : Prop := parseBlanksRow.holds Tryz.pinned (OpenSpec.ofChange parseBlanksWrong)

/-- 'conduitlaw07.ParseBack': WHATEVER THE INPUT: true; the input reads as it did. -/
def parseBackSpec : ChangeSpec := { name := "parseBack", fn := fun _ => fun
  | [d1, d2] => { results := [.lit (.bool true)], args := [d1, d2] }
  | _ => none }
def parseBackRow : OpenClaim := { program := "ytbdllefnghddcaagreatdoor", sum := "5c0aff389264b058750d101f8e933c86a89c41eefc7d01b7f1200c34dd6c0b33", func := "conduit/conduitlaw07.ParseBack", spec := "parseBack", inPlace := ["internal/bytealg.IndexByte", "internal/bytealg.Index", "internal/abi.NoEscape", "internal/bytealg.MakeNoZero"], unfollowed := true, recurses := true, named := ["internal/bytealg.MaxLen", "conduit/scan.words", "internal/strconv.uint64pow10", "math/bits.deBruijn32tab", "math/bits.deBruijn64tab", "conduit/parse.kinds", "conduit/parse.faces", "conduit/parse.errBroken"], loops := true, apart := false, laid := [("math/bits.deBruijn32tab", laid_math_bits_deBruijn32tab), ("math/bits.deBruijn64tab", laid_math_bits_deBruijn64tab), ("internal/strconv.uint64pow10", laid_internal_strconv_uint64pow10), ("conduit/scan.words", laid_conduit_scan_words), ("conduit/parse.errBroken", laid_conduit_parse_errBroken), ("conduit/parse.kinds", laid_conduit_parse_kinds), ("conduit/parse.faces", laid_conduit_parse_faces)] }
def ParseBackSaid : Prop := parseBackRow.holds Tryz.pinned (OpenSpec.ofChange parseBackSpec)

/-- ITS FALSE NEIGHBOUR: 'it returns false'. Refute it at one input. -/
def parseBackWrong : ChangeSpec := { name := "parseBack", fn := fun _ => fun
  | [d1, d2] => { results := [.lit (.bool false)], args := [d1, d2] }
  | _ => none }
def ParseBackWrongFalsely : Prop := parseBackRow.holds Tryz.pinned (OpenSpec.ofChange parseBackWrong)

/- THE SECOND FORM. 'bulk': how many values and letters a reading holds, each counted each time it is reached (what is shared counts as often as it is met; a slice's spare places count too). A statement '..UptoSaid' is the law's where the arguments, and the package variables that the reading takes, are together of bulk at most 1048576: NARROWER than '..Said'. Prove '..Said' where nothing that the law and all that it calls make is longer than what came in: it says more and counts as full. Else prove '..UptoSaid'. A law counts once. -/
mutual
def uptoBulk {H : Type} : DataW H → Nat
  | .lit (.string bytes) => bytes.length + 1
  | .lit _ => 1
  | .nil => 1
  | .ptr d => uptoBulk d + 1
  | .slice elems spare => uptoBulkAll elems + uptoBulkAll spare + 1
  | .agg parts => uptoBulkAll parts + 1
  | .iface _ d => uptoBulk d + 1
  | .map entries => uptoBulkEntries entries + 1
  | .held _ => 1
def uptoBulkAll {H : Type} : List (DataW H) → Nat
  | [] => 0
  | d :: r => uptoBulk d + uptoBulkAll r
def uptoBulkEntries {H : Type} : List (Lit × DataW H) → Nat
  | [] => 0
  | x :: r => uptoBulkEntry x + uptoBulkEntries r
def uptoBulkEntry {H : Type} : Lit × DataW H → Nat
  | (.string bytes, d) => bytes.length + uptoBulk d + 1
  | (_, d) => uptoBulk d + 1
 end
def uptoSmall : (H : Type) → List (DataW H) → Bool := fun _ ds => decide (uptoBulkAll ds ≤ 1048576)
def OpenSpec.upto (s : _root_.Go.ChangeSpec) : _root_.Go.OpenSpec := { _root_.Go.OpenSpec.ofChange s with cond := some uptoSmall }

/-- 'conduitlaw07.ParseReads', WHERE WHAT IT READS IS OF BULK AT MOST 1048576: true; the input reads as it did. -/
def parseReadsUptoRow : OpenClaim := { program := "ytbdllefnghddcaagreatdoor", sum := "5c0aff389264b058750d101f8e933c86a89c41eefc7d01b7f1200c34dd6c0b33", func := "conduit/conduitlaw07.ParseReads", spec := "parseReads", inPlace := ["internal/bytealg.IndexByte", "internal/bytealg.Index", "internal/abi.NoEscape", "internal/bytealg.MakeNoZero"], unfollowed := true, recurses := true, named := ["internal/bytealg.MaxLen", "conduit/scan.words", "conduit/parse.errBroken", "conduit/parse.kinds", "conduit/parse.faces", "internal/strconv.uint64pow10", "math/bits.deBruijn32tab", "math/bits.deBruijn64tab"], apart := false, laid := [("math/bits.deBruijn32tab", laid_math_bits_deBruijn32tab), ("math/bits.deBruijn64tab", laid_math_bits_deBruijn64tab), ("internal/strconv.uint64pow10", laid_internal_strconv_uint64pow10), ("conduit/scan.words", laid_conduit_scan_words), ("conduit/parse.errBroken", laid_conduit_parse_errBroken), ("conduit/parse.kinds", laid_conduit_parse_kinds), ("conduit/parse.faces", laid_conduit_parse_faces)], narrowed := true }
def ParseReadsUptoSaid : Prop := parseReadsUptoRow.holds Tryz.pinned (OpenSpec.upto parseReadsSpec)

/-- 'conduitlaw07.ParsePrints', WHERE WHAT IT READS IS OF BULK AT MOST 1048576: true; the input reads as it did. -/
def parsePrintsUptoRow : OpenClaim := { program := "ytbdllefnghddcaagreatdoor", sum := "5c0aff389264b058750d101f8e933c86a89c41eefc7d01b7f1200c34dd6c0b33", func := "conduit/conduitlaw07.ParsePrints", spec := "parsePrints", inPlace := ["internal/bytealg.IndexByte", "internal/bytealg.Index", "internal/abi.NoEscape", "internal/bytealg.MakeNoZero"], unfollowed := true, recurses := true, named := ["internal/bytealg.MaxLen", "conduit/scan.words", "internal/strconv.uint64pow10", "math/bits.deBruijn32tab", "math/bits.deBruijn64tab", "conduit/parse.kinds", "conduit/parse.faces", "conduit/parse.errBroken"], loops := true, apart := false, laid := [("math/bits.deBruijn32tab", laid_math_bits_deBruijn32tab), ("math/bits.deBruijn64tab", laid_math_bits_deBruijn64tab), ("internal/strconv.uint64pow10", laid_internal_strconv_uint64pow10), ("conduit/scan.words", laid_conduit_scan_words), ("conduit/parse.errBroken", laid_conduit_parse_errBroken), ("conduit/parse.kinds", laid_conduit_parse_kinds), ("conduit/parse.faces", laid_conduit_parse_faces)], narrowed := true }
def ParsePrintsUptoSaid : Prop := parsePrintsUptoRow.holds Tryz.pinned (OpenSpec.upto parsePrintsSpec)

/-- 'conduitlaw07.ParseWants', WHERE WHAT IT READS IS OF BULK AT MOST 1048576: true; the input reads as it did. -/
def parseWantsUptoRow : OpenClaim := { program := "ytbdllefnghddcaagreatdoor", sum := "5c0aff389264b058750d101f8e933c86a89c41eefc7d01b7f1200c34dd6c0b33", func := "conduit/conduitlaw07.ParseWants", spec := "parseWants", inPlace := ["internal/bytealg.IndexByte", "internal/bytealg.Index", "internal/abi.NoEscape", "internal/bytealg.MakeNoZero"], unfollowed := true, recurses := true, named := ["internal/bytealg.MaxLen", "conduit/scan.words", "conduit/parse.errBroken", "conduit/parse.kinds", "conduit/parse.faces", "internal/strconv.uint64pow10", "math/bits.deBruijn32tab", "math/bits.deBruijn64tab"], loops := true, apart := false, laid := [("math/bits.deBruijn32tab", laid_math_bits_deBruijn32tab), ("math/bits.deBruijn64tab", laid_math_bits_deBruijn64tab), ("internal/strconv.uint64pow10", laid_internal_strconv_uint64pow10), ("conduit/scan.words", laid_conduit_scan_words), ("conduit/parse.errBroken", laid_conduit_parse_errBroken), ("conduit/parse.kinds", laid_conduit_parse_kinds), ("conduit/parse.faces", laid_conduit_parse_faces)], narrowed := true }
def ParseWantsUptoSaid : Prop := parseWantsUptoRow.holds Tryz.pinned (OpenSpec.upto parseWantsSpec)

/-- 'conduitlaw07.ParseSames', WHERE WHAT IT READS IS OF BULK AT MOST 1048576: true; the input reads as it did. -/
def parseSamesUptoRow : OpenClaim := { program := "ytbdllefnghddcaagreatdoor", sum := "5c0aff389264b058750d101f8e933c86a89c41eefc7d01b7f1200c34dd6c0b33", func := "conduit/conduitlaw07.ParseSames", spec := "parseSames", inPlace := ["internal/bytealg.IndexByte", "internal/bytealg.Index", "internal/abi.NoEscape", "internal/bytealg.MakeNoZero"], unfollowed := true, recurses := true, named := ["internal/bytealg.MaxLen", "conduit/scan.words", "conduit/parse.errBroken", "conduit/parse.kinds", "conduit/parse.faces", "internal/strconv.uint64pow10", "math/bits.deBruijn32tab", "math/bits.deBruijn64tab"], loops := true, apart := false, laid := [("math/bits.deBruijn32tab", laid_math_bits_deBruijn32tab), ("math/bits.deBruijn64tab", laid_math_bits_deBruijn64tab), ("internal/strconv.uint64pow10", laid_internal_strconv_uint64pow10), ("conduit/scan.words", laid_conduit_scan_words), ("conduit/parse.errBroken", laid_conduit_parse_errBroken), ("conduit/parse.kinds", laid_conduit_parse_kinds), ("conduit/parse.faces", laid_conduit_parse_faces)], narrowed := true }
def ParseSamesUptoSaid : Prop := parseSamesUptoRow.holds Tryz.pinned (OpenSpec.upto parseSamesSpec)

/-- 'conduitlaw07.ParseOneForm', WHERE WHAT IT READS IS OF BULK AT MOST 1048576: true; the input reads as it did. -/
def parseOneFormUptoRow : OpenClaim := { program := "ytbdllefnghddcaagreatdoor", sum := "5c0aff389264b058750d101f8e933c86a89c41eefc7d01b7f1200c34dd6c0b33", func := "conduit/conduitlaw07.ParseOneForm", spec := "parseOneForm", inPlace := ["internal/bytealg.IndexByte", "internal/bytealg.Index", "internal/abi.NoEscape", "internal/bytealg.MakeNoZero"], unfollowed := true, recurses := true, named := ["internal/bytealg.MaxLen", "conduit/scan.words", "conduit/parse.errBroken", "conduit/parse.kinds", "conduit/parse.faces", "internal/strconv.uint64pow10", "math/bits.deBruijn32tab", "math/bits.deBruijn64tab"], apart := false, laid := [("math/bits.deBruijn32tab", laid_math_bits_deBruijn32tab), ("math/bits.deBruijn64tab", laid_math_bits_deBruijn64tab), ("internal/strconv.uint64pow10", laid_internal_strconv_uint64pow10), ("conduit/scan.words", laid_conduit_scan_words), ("conduit/parse.errBroken", laid_conduit_parse_errBroken), ("conduit/parse.kinds", laid_conduit_parse_kinds), ("conduit/parse.faces", laid_conduit_parse_faces)], narrowed := true }
def ParseOneFormUptoSaid : Prop := parseOneFormUptoRow.holds Tryz.pinned (OpenSpec.upto parseOneFormSpec)

/-- 'conduitlaw07.ParseBlanks', WHERE WHAT IT READS IS OF BULK AT MOST 1048576: true; the input reads as it did. -/
def parseBlanksUptoRow : OpenClaim := { program := "ytbdllefnghddcaagreatdoor", sum := "5c0aff389264b058750d101f8e933c86a89c41eefc7d01b7f1200c34dd6c0b33", func := "conduit/conduitlaw07.ParseBlanks", spec := "parseBlanks", inPlace := ["internal/bytealg.IndexByte", "internal/bytealg.Index", "internal/abi.NoEscape", "internal/bytealg.MakeNoZero"], unfollowed := true, recurses := true, named := ["internal/bytealg.MaxLen", "conduit/scan.words", "conduit/parse.errBroken", "conduit/parse.kinds", "conduit/parse.faces", "internal/strconv.uint64pow10", "math/bits.deBruijn32tab", "math/bits.deBruijn64tab"], loops := true, apart := false, laid := [("math/bits.deBruijn32tab", laid_math_bits_deBruijn32tab), ("math/bits.deBruijn64tab", laid_math_bits_deBruijn64tab), ("internal/strconv.uint64pow10", laid_internal_strconv_uint64pow10), ("conduit/scan.words", laid_conduit_scan_words), ("conduit/parse.errBroken", laid_conduit_parse_errBroken), ("conduit/parse.kinds", laid_conduit_parse_kinds), ("conduit/parse.faces", laid_conduit_parse_faces)], narrowed := true }
def ParseBlanksUptoSaid : Prop := parseBlanksUptoRow.holds Tryz.pinned (OpenSpec.upto parseBlanksSpec)

/-- 'conduitlaw07.ParseBack', WHERE WHAT IT READS IS OF BULK AT MOST 1048576: true; the input reads as it did. -/
def parseBackUptoRow : OpenClaim := { program := "ytbdllefnghddcaagreatdoor", sum := "5c0aff389264b058750d101f8e933c86a89c41eefc7d01b7f1200c34dd6c0b33", func := "conduit/conduitlaw07.ParseBack", spec := "parseBack", inPlace := ["internal/bytealg.IndexByte", "internal/bytealg.Index", "internal/abi.NoEscape", "internal/bytealg.MakeNoZero"], unfollowed := true, recurses := true, named := ["internal/bytealg.MaxLen", "conduit/scan.words", "internal/strconv.uint64pow10", "math/bits.deBruijn32tab", "math/bits.deBruijn64tab", "conduit/parse.kinds", "conduit/parse.faces", "conduit/parse.errBroken"], loops := true, apart := false, laid := [("math/bits.deBruijn32tab", laid_math_bits_deBruijn32tab), ("math/bits.deBruijn64tab", laid_math_bits_deBruijn64tab), ("internal/strconv.uint64pow10", laid_internal_strconv_uint64pow10), ("conduit/scan.words", laid_conduit_scan_words), ("conduit/parse.errBroken", laid_conduit_parse_errBroken), ("conduit/parse.kinds", laid_conduit_parse_kinds), ("conduit/parse.faces", laid_conduit_parse_faces)], narrowed := true }
def ParseBackUptoSaid : Prop := parseBackUptoRow.holds Tryz.pinned (OpenSpec.upto parseBackSpec)

end Rows
end Go.Proofs.YtbdllefnghddcaaGreatDoor
