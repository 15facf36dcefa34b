/-
  NARROWER THAN 'FOR EVERY INPUT', by the rows' own cells (each row's printed sentence says how): ScanReads: laid · ScanWords: laid · ScanBetween: laid · ScanTwice: laid · ScanQuotes: laid · ScanLines: laid.
  DERIVED. THE GIVEN ROWS OF THIS SEAT. 6 by the template 'for every input the law returns true; each argument reads behind the call as it read before'; 0 by the template 'total and deterministic' (their statements: YtmbejmhnoeoohaaDoorTotals.lean).
  GIVEN WITH THE SEED: the statements are not yours to turn. If you find one false, say at which input.
  Laid BY PROGRAM, IN A SANDBOX (cutbox-rows.mjs): the forced cells as the released guide's own fill.sh prints them over the translation 751e68cb5d9ae733… (all of the seat's roots in one cut). By AI agents, Wed Nov 11 2026. No macro, syntax, notation, axiom, sorry.
-/
import Derived.Test.YtmbejmhnoeoohaaDoorChecked
import GoSem.Claim
import GoSem.ClaimJoined
import GoSem.ClaimMapViews
import Derived.JoinedTies
import Derived.KernelRfl
namespace Go.Proofs.YtmbejmhnoeoohaaDoor
/- THE CELL 'sum', in the pinned program and in every row, IS THE sha256 OF THE DUMP (.gsa) THAT YtmbejmhnoeoohaaDoorProg.lean LOADS. Nothing in Lean hashes anything: it is a label: what it is worth is what the hold of that sum in a sandbox is worth. -/
noncomputable def Tryd.pinned : Pinned := { name := "ytmbejmhnoeoohaadoor", sum := "751e68cb5d9ae733c2c6eaaedd81448089b7b61ab88eb3542953e97676deaaf3", checked := Tryd.checked }
namespace Rows
def none {H : Type} : Left H := { results := [], args := [] }

/- WHAT THE LISTED PACKAGE-LEVEL VARIABLES READ AS WHEN THE CALL BEGINS. Each datum BY PROGRAM (the guide's laid-datum.mjs) off the statement by which the dump's own 'gosem.cut.vars' lays the variable. In a bare row this is a premise. The card (YtmbejmhnoeoohaaDoorCards.lean) ties it to the program's text. -/
def laid_conduit_scan_words {H : Type} : DataW H := .agg [.lit (.string [97, 102, 116, 101, 114]), .lit (.string [99, 97, 112, 115]), .lit (.string [100, 114, 111, 112]), .lit (.string [101, 108, 115, 101]), .lit (.string [104, 97, 110, 100, 108, 101, 114]), .lit (.string [105, 110, 98, 111, 120]), .lit (.string [111, 102]), .lit (.string [111, 112, 101, 110]), .lit (.string [114, 111, 117, 116, 101]), .lit (.string [119, 104, 101, 110]), .lit (.string [119, 105, 116, 104]), .lit (.string [33]), .lit (.string [38]), .lit (.string [40]), .lit (.string [41]), .lit (.string [44]), .lit (.string [45]), .lit (.string [45, 62]), .lit (.string [58]), .lit (.string [59]), .lit (.string [61]), .lit (.string [124])]

/-- 'conduitlaw06.ScanReads': WHATEVER THE INPUT: true; the input reads as it did. -/
def scanReadsSpec : ChangeSpec := { name := "scanReads", fn := fun _ => fun
  | [d] => { results := [.lit (.bool true)], args := [d] }
  | _ => none }
def scanReadsRow : OpenClaim := { program := "ytmbejmhnoeoohaadoor", sum := "751e68cb5d9ae733c2c6eaaedd81448089b7b61ab88eb3542953e97676deaaf3", func := "conduit/conduitlaw06.ScanReads", spec := "scanReads", inPlace := ["internal/bytealg.IndexByte", "internal/bytealg.Index"], named := ["internal/bytealg.MaxLen", "conduit/scan.words"], apart := false, laid := [("conduit/scan.words", laid_conduit_scan_words)] }
def ScanReadsSaid : Prop := scanReadsRow.holds Tryd.pinned (OpenSpec.ofChange scanReadsSpec)

/-- ITS FALSE NEIGHBOUR: 'it returns false'. Refute it at one input. -/
def scanReadsWrong : ChangeSpec := { name := "scanReads", fn := fun _ => fun
  | [d] => { results := [.lit (.bool false)], args := [d] }
  | _ => none }
def ScanReadsWrongFalsely : Prop := scanReadsRow.holds Tryd.pinned (OpenSpec.ofChange scanReadsWrong)

/-- 'conduitlaw06.ScanWords': WHATEVER THE INPUT: true; the input reads as it did. -/
def scanWordsSpec : ChangeSpec := { name := "scanWords", fn := fun _ => fun
  | [d1, d2] => { results := [.lit (.bool true)], args := [d1, d2] }
  | _ => none }
def scanWordsRow : OpenClaim := { program := "ytmbejmhnoeoohaadoor", sum := "751e68cb5d9ae733c2c6eaaedd81448089b7b61ab88eb3542953e97676deaaf3", func := "conduit/conduitlaw06.ScanWords", spec := "scanWords", inPlace := ["internal/bytealg.IndexByte", "internal/bytealg.Index"], named := ["conduit/scan.words", "internal/bytealg.MaxLen"], apart := false, laid := [("conduit/scan.words", laid_conduit_scan_words)] }
def ScanWordsSaid : Prop := scanWordsRow.holds Tryd.pinned (OpenSpec.ofChange scanWordsSpec)

/-- ITS FALSE NEIGHBOUR: 'it returns false'. Refute it at one input. -/
def scanWordsWrong : ChangeSpec := { name := "scanWords", fn := fun _ => fun
  | [d1, d2] => { results := [.lit (.bool false)], args := [d1, d2] }
  | _ => none }
def ScanWordsWrongFalsely : Prop := scanWordsRow.holds Tryd.pinned (OpenSpec.ofChange scanWordsWrong)

/-- 'conduitlaw06.ScanBetween': WHATEVER THE INPUT: true; the input reads as it did. -/
def scanBetweenSpec : ChangeSpec := { name := "scanBetween", fn := fun _ => fun
  | [d] => { results := [.lit (.bool true)], args := [d] }
  | _ => none }
def scanBetweenRow : OpenClaim := { program := "ytmbejmhnoeoohaadoor", sum := "751e68cb5d9ae733c2c6eaaedd81448089b7b61ab88eb3542953e97676deaaf3", func := "conduit/conduitlaw06.ScanBetween", spec := "scanBetween", inPlace := ["internal/bytealg.IndexByte", "internal/bytealg.Index"], named := ["internal/bytealg.MaxLen", "conduit/scan.words"], apart := false, laid := [("conduit/scan.words", laid_conduit_scan_words)] }
def ScanBetweenSaid : Prop := scanBetweenRow.holds Tryd.pinned (OpenSpec.ofChange scanBetweenSpec)

/-- ITS FALSE NEIGHBOUR: 'it returns false'. Refute it at one input. -/
def scanBetweenWrong : ChangeSpec := { name := "scanBetween", fn := fun _ => fun
  | [d] => { results := [.lit (.bool false)], args := [d] }
  | _ => none }
def ScanBetweenWrongFalsely : Prop := scanBetweenRow.holds Tryd.pinned (OpenSpec.ofChange scanBetweenWrong)

/-- 'conduitlaw06.ScanTwice': WHATEVER THE INPUT: true; the input reads as it did. -/
def scanTwiceSpec : ChangeSpec := { name := "scanTwice", fn := fun _ => fun
  | [d] => { results := [.lit (.bool true)], args := [d] }
  | _ => none }
def scanTwiceRow : OpenClaim := { program := "ytmbejmhnoeoohaadoor", sum := "751e68cb5d9ae733c2c6eaaedd81448089b7b61ab88eb3542953e97676deaaf3", func := "conduit/conduitlaw06.ScanTwice", spec := "scanTwice", inPlace := ["internal/bytealg.IndexByte", "internal/bytealg.Index"], named := ["internal/bytealg.MaxLen", "conduit/scan.words"], apart := false, laid := [("conduit/scan.words", laid_conduit_scan_words)] }
def ScanTwiceSaid : Prop := scanTwiceRow.holds Tryd.pinned (OpenSpec.ofChange scanTwiceSpec)

/-- ITS FALSE NEIGHBOUR: 'it returns false'. Refute it at one input. -/
def scanTwiceWrong : ChangeSpec := { name := "scanTwice", fn := fun _ => fun
  | [d] => { results := [.lit (.bool false)], args := [d] }
  | _ => none }
def ScanTwiceWrongFalsely : Prop := scanTwiceRow.holds Tryd.pinned (OpenSpec.ofChange scanTwiceWrong)

/-- 'conduitlaw06.ScanQuotes': WHATEVER THE INPUT: true; the input reads as it did. -/
def scanQuotesSpec : ChangeSpec := { name := "scanQuotes", fn := fun _ => fun
  | [d1, d2] => { results := [.lit (.bool true)], args := [d1, d2] }
  | _ => none }
def scanQuotesRow : OpenClaim := { program := "ytmbejmhnoeoohaadoor", sum := "751e68cb5d9ae733c2c6eaaedd81448089b7b61ab88eb3542953e97676deaaf3", func := "conduit/conduitlaw06.ScanQuotes", spec := "scanQuotes", inPlace := ["internal/bytealg.IndexByte", "internal/bytealg.Index"], named := ["internal/bytealg.MaxLen", "conduit/scan.words"], apart := false, laid := [("conduit/scan.words", laid_conduit_scan_words)] }
def ScanQuotesSaid : Prop := scanQuotesRow.holds Tryd.pinned (OpenSpec.ofChange scanQuotesSpec)

/-- ITS FALSE NEIGHBOUR: 'it returns false'. Refute it at one input. -/
def scanQuotesWrong : ChangeSpec := { name := "scanQuotes", fn := fun _ => fun
  | [d1, d2] => { results := [.lit (.bool false)], args := [d1, d2] }
  | _ => none }
def ScanQuotesWrongFalsely : Prop := scanQuotesRow.holds Tryd.pinned (OpenSpec.ofChange scanQuotesWrong)

/-- 'conduitlaw06.ScanLines': WHATEVER THE INPUT: true; the input reads as it did. -/
def scanLinesSpec : ChangeSpec := { name := "scanLines", fn := fun _ => fun
  | [d1, d2] => { results := [.lit (.bool true)], args := [d1, d2] }
  | _ => none }
def scanLinesRow : OpenClaim := { program := "ytmbejmhnoeoohaadoor", sum := "751e68cb5d9ae733c2c6eaaedd81448089b7b61ab88eb3542953e97676deaaf3", func := "conduit/conduitlaw06.ScanLines", spec := "scanLines", inPlace := ["internal/bytealg.Count", "internal/bytealg.IndexByte", "internal/bytealg.Index"], named := ["internal/bytealg.MaxLen", "conduit/scan.words"], apart := false, laid := [("conduit/scan.words", laid_conduit_scan_words)] }
def ScanLinesSaid : Prop := scanLinesRow.holds Tryd.pinned (OpenSpec.ofChange scanLinesSpec)

/-- ITS FALSE NEIGHBOUR: 'it returns false'. Refute it at one input. -/
def scanLinesWrong : ChangeSpec := { name := "scanLines", fn := fun _ => fun
  | [d1, d2] => { results := [.lit (.bool false)], args := [d1, d2] }
  | _ => none }
def ScanLinesWrongFalsely : Prop := scanLinesRow.holds Tryd.pinned (OpenSpec.ofChange scanLinesWrong)

/- THE SECOND FORM. 'bulk': how many values and letters a reading holds, each counted each time it is reached (what is shared counts as often as it is met; a slice's spare places count too). A statement '..UptoSaid' is the law's where the arguments, and the package variables that the reading takes, are together of bulk at most 1048576: NARROWER than '..Said'. Prove '..Said' where nothing that the law and all that it calls make is longer than what came in: it says more and counts as full. Else prove '..UptoSaid'. A law counts once. -/
mutual
def uptoBulk {H : Type} : DataW H → Nat
  | .lit (.string bytes) => bytes.length + 1
  | .lit _ => 1
  | .nil => 1
  | .ptr d => uptoBulk d + 1
  | .slice elems spare => uptoBulkAll elems + uptoBulkAll spare + 1
  | .agg parts => uptoBulkAll parts + 1
  | .iface _ d => uptoBulk d + 1
  | .map entries => uptoBulkEntries entries + 1
  | .held _ => 1
def uptoBulkAll {H : Type} : List (DataW H) → Nat
  | [] => 0
  | d :: r => uptoBulk d + uptoBulkAll r
def uptoBulkEntries {H : Type} : List (Lit × DataW H) → Nat
  | [] => 0
  | x :: r => uptoBulkEntry x + uptoBulkEntries r
def uptoBulkEntry {H : Type} : Lit × DataW H → Nat
  | (.string bytes, d) => bytes.length + uptoBulk d + 1
  | (_, d) => uptoBulk d + 1
 end
def uptoSmall : (H : Type) → List (DataW H) → Bool := fun _ ds => decide (uptoBulkAll ds ≤ 1048576)
def OpenSpec.upto (s : _root_.Go.ChangeSpec) : _root_.Go.OpenSpec := { _root_.Go.OpenSpec.ofChange s with cond := some uptoSmall }

/-- 'conduitlaw06.ScanReads', WHERE WHAT IT READS IS OF BULK AT MOST 1048576: true; the input reads as it did. -/
def scanReadsUptoRow : OpenClaim := { program := "ytmbejmhnoeoohaadoor", sum := "751e68cb5d9ae733c2c6eaaedd81448089b7b61ab88eb3542953e97676deaaf3", func := "conduit/conduitlaw06.ScanReads", spec := "scanReads", inPlace := ["internal/bytealg.IndexByte", "internal/bytealg.Index"], named := ["internal/bytealg.MaxLen", "conduit/scan.words"], apart := false, laid := [("conduit/scan.words", laid_conduit_scan_words)], narrowed := true }
def ScanReadsUptoSaid : Prop := scanReadsUptoRow.holds Tryd.pinned (OpenSpec.upto scanReadsSpec)

/-- 'conduitlaw06.ScanWords', WHERE WHAT IT READS IS OF BULK AT MOST 1048576: true; the input reads as it did. -/
def scanWordsUptoRow : OpenClaim := { program := "ytmbejmhnoeoohaadoor", sum := "751e68cb5d9ae733c2c6eaaedd81448089b7b61ab88eb3542953e97676deaaf3", func := "conduit/conduitlaw06.ScanWords", spec := "scanWords", inPlace := ["internal/bytealg.IndexByte", "internal/bytealg.Index"], named := ["conduit/scan.words", "internal/bytealg.MaxLen"], apart := false, laid := [("conduit/scan.words", laid_conduit_scan_words)], narrowed := true }
def ScanWordsUptoSaid : Prop := scanWordsUptoRow.holds Tryd.pinned (OpenSpec.upto scanWordsSpec)

/-- 'conduitlaw06.ScanBetween', WHERE WHAT IT READS IS OF BULK AT MOST 1048576: true; the input reads as it did. -/
def scanBetweenUptoRow : OpenClaim := { program := "ytmbejmhnoeoohaadoor", sum := "751e68cb5d9ae733c2c6eaaedd81448089b7b61ab88eb3542953e97676deaaf3", func := "conduit/conduitlaw06.ScanBetween", spec := "scanBetween", inPlace := ["internal/bytealg.IndexByte", "internal/bytealg.Index"], named := ["internal/bytealg.MaxLen", "conduit/scan.words"], apart := false, laid := [("conduit/scan.words", laid_conduit_scan_words)], narrowed := true }
def ScanBetweenUptoSaid : Prop := scanBetweenUptoRow.holds Tryd.pinned (OpenSpec.upto scanBetweenSpec)

/-- 'conduitlaw06.ScanTwice', WHERE WHAT IT READS IS OF BULK AT MOST 1048576: true; the input reads as it did. -/
def scanTwiceUptoRow : OpenClaim := { program := "ytmbejmhnoeoohaadoor", sum := "751e68cb5d9ae733c2c6eaaedd81448089b7b61ab88eb3542953e97676deaaf3", func := "conduit/conduitlaw06.ScanTwice", spec := "scanTwice", inPlace := ["internal/bytealg.IndexByte", "internal/bytealg.Index"], named := ["internal/bytealg.MaxLen", "conduit/scan.words"], apart := false, laid := [("conduit/scan.words", laid_conduit_scan_words)], narrowed := true }
def ScanTwiceUptoSaid : Prop := scanTwiceUptoRow.holds Tryd.pinned (OpenSpec.upto scanTwiceSpec)

/-- 'conduitlaw06.ScanQuotes', WHERE WHAT IT READS IS OF BULK AT MOST 1048576: true; the input reads as it did. -/
def scanQuotesUptoRow : OpenClaim := { program := "ytmbejmhnoeoohaadoor", sum := "751e68cb5d9ae733c2c6eaaedd81448089b7b61ab88eb3542953e97676deaaf3", func := "conduit/conduitlaw06.ScanQuotes", spec := "scanQuotes", inPlace := ["internal/bytealg.IndexByte", "internal/bytealg.Index"], named := ["internal/bytealg.MaxLen", "conduit/scan.words"], apart := false, laid := [("conduit/scan.words", laid_conduit_scan_words)], narrowed := true }
def ScanQuotesUptoSaid : Prop := scanQuotesUptoRow.holds Tryd.pinned (OpenSpec.upto scanQuotesSpec)

/-- 'conduitlaw06.ScanLines', WHERE WHAT IT READS IS OF BULK AT MOST 1048576: true; the input reads as it did. -/
def scanLinesUptoRow : OpenClaim := { program := "ytmbejmhnoeoohaadoor", sum := "751e68cb5d9ae733c2c6eaaedd81448089b7b61ab88eb3542953e97676deaaf3", func := "conduit/conduitlaw06.ScanLines", spec := "scanLines", inPlace := ["internal/bytealg.Count", "internal/bytealg.IndexByte", "internal/bytealg.Index"], named := ["internal/bytealg.MaxLen", "conduit/scan.words"], apart := false, laid := [("conduit/scan.words", laid_conduit_scan_words)], narrowed := true }
def ScanLinesUptoSaid : Prop := scanLinesUptoRow.holds Tryd.pinned (OpenSpec.upto scanLinesSpec)

end Rows
end Go.Proofs.YtmbejmhnoeoohaaDoor
