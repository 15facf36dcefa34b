/- WHAT THE ROWS LIST: conduit/scan.words: what it gives the walks; a world that holds it. -/
import Derived.Test.YtmbejmhnoeoohaaDoorRows
import Derived.Test.YtmbejmhnoeoohaaDoorScanLib
import Derived.Test.YtmbejmhnoeoohaaDoorScanShelf
import Derived.Lib.LaidIn
import Derived.Lib.LaidU8T
import Derived.Deep.DeepHandedRow
import Derived.Deep.DeepWitnessRowRef
import Derived.ProofKit
import Derived.OpenShut
import Derived.SizedLaws
namespace Go.Proofs.YtmbejmhnoeoohaaDoor
open Go Go.ChangeShapes Go.WideShapes Go.ChangeAt Go.RowKit

theorem own : ownKnob Tryd.prog.godebug = none := by kernel_rfl

def laidTabs : List (String × DataW Unit) := Rows.scanReadsUptoRow.laid

theorem words_data : (Rows.laid_conduit_scan_words : DataW Unit) = .agg (wordsS.map fun l => .lit (.string l)) := by kernel_rfl

theorem words_of {W : World} (h : laidMetH Tryd.prog laidTabs W) : Words W := by
  have h3 : Lib.VarReads Tryd.prog W "conduit/scan.words" Rows.laid_conduit_scan_words := Lib.laidMet.reads h (.head _)
  obtain ⟨g, t, cs, fuel, p, hg, hty, hvar, hd⟩ := h3
  obtain rfl := Option.some.inj ((show Tryd.prog.globalNamed "conduit/scan.words" = some 0 by kernel_rfl).symm.trans hg)
  obtain rfl := Option.some.inj ((show (Tryd.prog.globals[0]?).map (·.type) = some 54 by kernel_rfl).symm.trans hty)
  rw [words_data] at hd
  intro j v hv
  obtain ⟨l, hl, rfl⟩ : ∃ l, wordsS[j]? = some l ∧ Value.string (ba l) = v := by simpa [wordsV] using hv
  have hj : j < 22 := by
    have h1 := (List.getElem?_eq_some_iff.1 hl).1
    exact h1
  obtain ⟨fuel', d, q, hdi, he⟩ := Lib.array_elem Tryd.underlying54 hd j hj
  simp only [List.getElem?_map, hl, Option.map_some, Option.some.injEq] at hdi
  subst hdi
  rw [show Tryd.prog.cellsOf 9 = 1 by kernel_rfl] at he
  obtain ⟨s, hcs, hx, _⟩ := DataW.trod_string Tryd.underlying9 he
  simp only [Prod.mk.injEq, DataW.lit.injEq, Lit.string.injEq] at hx
  have hs : s = ba l := by
    have : s.data.toList = l := hx.1.symm
    rw [← this]; rfl
  have := World.var?_cell hg hvar j
  rw [Nat.zero_add, this, ← Array.getElem?_toList]
  rw [Nat.mul_one] at hcs
  have e : cs.toList[j]? = ((cs.toList.drop j).take 1)[0]? := by simp [List.getElem?_drop]
  rw [e, hcs, hs]; rfl

theorem env_of {W : World} (h : laidMetH Tryd.prog laidTabs W) (hsh : W.ShapedOpen Tryd.prog) : Env W :=
  ⟨words_of h, Tryd.laysMn185.s1_3 W hsh⟩

/-- the settled world, the variable holding what its initialiser lays -/
noncomputable def laidWorld (os : Os) : World :=
  let w0 := World.holding Tryd.prog os ⟨#[], #[], []⟩
  let put (h : Array Obj) (g : Nat) (cs : Array Value) : Array Obj := h.modify g fun
    | .cells _ t frozen => .cells cs t frozen
    | o => o
  { w0 with heap := put w0.heap 0 wordsV.toArray }
theorem laid_met (os : Os) (args : Array Value) : laidMet Tryd.prog laidTabs ((laidWorld os).forCall (fun _ _ => 0) ⟨#[], args, []⟩).memory :=
  (LaidIn.of_run (l := laidTabs) [0] 8 (by kernel_rfl) (by kernel_rfl) (by kernel_rfl) (by kernel_rfl)).met

theorem bulk_part {H : Type} : ∀ (l : List (DataW H)) (d : DataW H), d ∈ l → Rows.uptoBulk d ≤ Rows.uptoBulkAll l := by
  intro l d
  induction l with
  | nil => intro h; cases h
  | cons x r ih =>
    intro h
    simp only [Rows.uptoBulkAll]
    rcases List.mem_cons.1 h with e | e
    · subst e; omega
    · have := ih e; omega
/-- the bound of the second form -/
theorem size_of_bulk {H : Type} {l : List (DataW H)} {s : ByteArray} (hk : Rows.uptoSmall H l = true) (hm : (DataW.lit (.string s.data.toList) : DataW H) ∈ l) : s.size ≤ 1048576 := by
  have hb : Rows.uptoBulkAll l ≤ 1048576 := of_decide_eq_true hk
  have := bulk_part l _ hm
  simp only [Rows.uptoBulk] at this
  have e : s.data.toList.length = s.size := by simp
  omega
end Go.Proofs.YtmbejmhnoeoohaaDoor
