/- TRIE: what the rows list: unicode/utf8's two tables; a world that holds them; the second form's bound. -/
import Derived.Test.YtflomcbclofbaaaDoorRows
import Derived.Test.YtflomcbclofbaaaDoorRead
import Derived.Test.YtflomcbclofbaaaDoorTopicShelf
import Derived.Test.YtflomcbclofbaaaDoorTrieAwake
import Derived.ProofKit
import Derived.OpenShut
import Derived.Lib.LaidIn
import Derived.Lib.LaidU8T
import Derived.Deep.DeepHandedRow
import Derived.Deep.DeepWitnessRowRef
import Derived.SizedLaws
namespace Go.Proofs.YtflomcbclofbaaaDoor
open Go Go.ChangeShapes Go.WideShapes Go.ChangeAt Go.RowKit

theorem own : ownKnob Tryd.prog.godebug = none := by kernel_rfl
def laidTabs2 : List (String × DataW Unit) := Rows.trieNobodyUptoRow.laid
set_option maxRecDepth 100000 in
theorem first_eq : Rows.laid_unicode_utf8_first = Lib.firstData := by kernel_rfl
theorem accept_eq : (Rows.laid_unicode_utf8_acceptRanges : DataW Unit) = Lib.acceptData := by kernel_rfl
theorem tabs_of2 {W : World} (h : laidMetH Tryd.prog laidTabs2 W) : Tabs W := by
  have h : laidMetH Tryd.prog [(_, Rows.laid_unicode_utf8_acceptRanges), (_, Rows.laid_unicode_utf8_first)] W := h
  rw [first_eq, accept_eq] at h
  exact utf8Tabs_of_readsT (U8Types.of196 Tryd.laysn196) ⟨by kernel_rfl, by kernel_rfl, by kernel_rfl, by kernel_rfl, by kernel_rfl, by kernel_rfl, by kernel_rfl⟩ (Lib.laidMet.reads h (.tail _ (.head _))) (Lib.laidMet.reads h (.head _))
/-- the settled world, the variables holding what their initialisers lay -/
noncomputable def laidWorld2 (os : Os) : World :=
  let w0 := World.holding Tryd.prog os ⟨#[], #[], []⟩
  let put (h : Array Obj) (g : Nat) (cs : Array Value) : Array Obj := h.modify g fun
    | .cells _ t frozen => .cells cs t frozen
    | o => o
  let h1 := put w0.heap 0 (Lib.firstTab.map fun z => Value.int .u8 z).toArray
  let h2 := put h1 1 ((List.range 16).flatMap fun i => [Value.int .u8 (Lib.accLo i), Value.int .u8 (Lib.accHi i)]).toArray
  { w0 with heap := h2 }
theorem laid_met2 (os : Os) (args : Array Value) : laidMet Tryd.prog laidTabs2 ((laidWorld2 os).forCall (fun _ _ => 0) ⟨#[], args, []⟩).memory :=
  (LaidIn.of_run (l := laidTabs2) [0, 1] 8 (by kernel_rfl) (by kernel_rfl) (by kernel_rfl) (by kernel_rfl)).met
end Go.Proofs.YtflomcbclofbaaaDoor
