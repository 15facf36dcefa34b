/- ROUTE: what the rows list: unicode/utf8's two tables, strconv's powers of ten (and math/bits' tables, which nothing here reads); worlds that hold them. -/
import Derived.Test.YtpgdiekpeceicaaDoorRows
import Derived.Test.YtpgdiekpeceicaaDoorRouteRow
import Derived.Lib.LaidIn
import Derived.Lib.LaidU8T
import Derived.Lib.LaidTab
import Derived.Deep.DeepHandedRow
import Derived.Deep.DeepWitnessRowRef
import Derived.SizedLaws
namespace Go.Proofs.YtpgdiekpeceicaaDoor
open Go Go.ChangeShapes Go.WideShapes Go.ChangeAt Go.RowKit

theorem own : ownKnob Tryd.prog.godebug = none := by kernel_rfl
def laidTabs2 : List (String × DataW Unit) := Rows.routeFindsUptoRow.laid
def laidTabs5 : List (String × DataW Unit) := Rows.routeExplainsUptoRow.laid
set_option maxRecDepth 100000 in
theorem first_eq : Rows.laid_unicode_utf8_first = Lib.firstData := by kernel_rfl
theorem accept_eq : (Rows.laid_unicode_utf8_acceptRanges : DataW Unit) = Lib.acceptData := by kernel_rfl
theorem pow_eq : (Rows.laid_internal_strconv_uint64pow10 : DataW Unit) = Lib.tabData .u64 Lib.pow10Tab := by kernel_rfl

theorem tabs_of2 {W : World} (h : laidMetH Tryd.prog laidTabs2 W) : Tabs W := by
  have h : laidMetH Tryd.prog [(_, Rows.laid_unicode_utf8_acceptRanges), (_, Rows.laid_unicode_utf8_first)] W := h
  rw [first_eq, accept_eq] at h
  exact utf8Tabs_of_readsT (U8Types.of196 Tryd.laysn196) ⟨by kernel_rfl, by kernel_rfl, by kernel_rfl, by kernel_rfl, by kernel_rfl, by kernel_rfl, by kernel_rfl⟩ (Lib.laidMet.reads h (.tail _ (.head _))) (Lib.laidMet.reads h (.head _))
theorem tabs_of5 {W : World} (h : laidMetH Tryd.prog laidTabs5 W) : Tabs W ∧ Tab10 W := by
  have h : laidMetH Tryd.prog [(_, Rows.laid_math_bits_deBruijn32tab), (_, Rows.laid_math_bits_deBruijn64tab), ("internal/strconv.uint64pow10", Rows.laid_internal_strconv_uint64pow10), ("unicode/utf8.acceptRanges", Rows.laid_unicode_utf8_acceptRanges), ("unicode/utf8.first", Rows.laid_unicode_utf8_first)] W := h
  have h1 := Lib.laidMet.reads h (.tail _ (.tail _ (.tail _ (.head _))))
  have h2 := Lib.laidMet.reads h (.tail _ (.tail _ (.tail _ (.tail _ (.head _)))))
  have h3 := Lib.laidMet.reads h (.tail _ (.tail _ (.head _)))
  rw [accept_eq] at h1
  rw [first_eq] at h2
  rw [pow_eq] at h3
  refine ⟨utf8Tabs_of_readsT (U8Types.of196 Tryd.laysn196) ⟨by kernel_rfl, by kernel_rfl, by kernel_rfl, by kernel_rfl, by kernel_rfl, by kernel_rfl, by kernel_rfl⟩ h2 h1, ?_⟩
  obtain ⟨g', t', cs, fuel, p, hg', ht', hvar, hd⟩ := h3
  obtain rfl := Option.some.inj ((show Tryd.prog.globalNamed "internal/strconv.uint64pow10" = some 2 by kernel_rfl).symm.trans hg')
  obtain rfl := Option.some.inj ((show (Tryd.prog.globals[2]?).map (·.type) = some 103 by kernel_rfl).symm.trans ht')
  unfold Tab10 Lib.TabIs
  rw [hvar, ← Lib.cells_of_tab Tryd.underlying103 Tryd.underlying23 (by kernel_rfl) (by kernel_rfl) hd]

/-- the settled world, the variables holding what their initialisers lay -/
noncomputable def laidWorld2 (os : Os) : World :=
  let w0 := World.holding Tryd.prog os ⟨#[], #[], []⟩
  let put (h : Array Obj) (g : Nat) (cs : Array Value) : Array Obj := h.modify g fun
    | .cells _ t frozen => .cells cs t frozen
    | o => o
  let h1 := put w0.heap 0 (Lib.firstTab.map fun z => Value.int .u8 z).toArray
  let h2 := put h1 1 ((List.range 16).flatMap fun i => [Value.int .u8 (Lib.accLo i), Value.int .u8 (Lib.accHi i)]).toArray
  { w0 with heap := h2 }
theorem laid_met2 (os : Os) (args : Array Value) : laidMet Tryd.prog laidTabs2 ((laidWorld2 os).forCall (fun _ _ => 0) ⟨#[], args, []⟩).memory :=
  (LaidIn.of_run (l := laidTabs2) [0, 1] 8 (by kernel_rfl) (by kernel_rfl) (by kernel_rfl) (by kernel_rfl)).met
/-- the cells of a table of numbers, off its datum -/
def cellsD : DataW Unit → List Value
  | .agg l => l.filterMap fun d => match d with | .lit (.int k n) => some (.int k n) | _ => none
  | _ => []
noncomputable def laidWorld5 (os : Os) : World :=
  let w0 := World.holding Tryd.prog os ⟨#[], #[], []⟩
  let put (h : Array Obj) (g : Nat) (cs : Array Value) : Array Obj := h.modify g fun
    | .cells _ t frozen => .cells cs t frozen
    | o => o
  let h1 := put w0.heap 0 (Lib.firstTab.map fun z => Value.int .u8 z).toArray
  let h2 := put h1 1 ((List.range 16).flatMap fun i => [Value.int .u8 (Lib.accLo i), Value.int .u8 (Lib.accHi i)]).toArray
  let h3 := put h2 2 (cellsD Rows.laid_internal_strconv_uint64pow10).toArray
  let h4 := put h3 3 (cellsD Rows.laid_math_bits_deBruijn32tab).toArray
  let h5 := put h4 4 (cellsD Rows.laid_math_bits_deBruijn64tab).toArray
  { w0 with heap := h5 }
set_option maxRecDepth 100000 in
theorem laid_met5 (os : Os) (args : Array Value) : laidMet Tryd.prog laidTabs5 ((laidWorld5 os).forCall (fun _ _ => 0) ⟨#[], args, []⟩).memory :=
  (LaidIn.of_run (l := laidTabs5) [0, 1, 2, 3, 4] 8 (by kernel_rfl) (by kernel_rfl) (by kernel_rfl) (by kernel_rfl)).met
end Go.Proofs.YtpgdiekpeceicaaDoor
