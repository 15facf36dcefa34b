/- WIRE: what the rows list: unicode/utf8's two tables; a world that holds them; the second form's bound. -/
import Derived.Test.YtmncpbfghabamaaDoorRows
import Derived.Test.YtmncpbfghabamaaDoorNameTop
import Derived.Test.YtmncpbfghabamaaDoorWireBytes
import Derived.ProofKit
import Derived.OpenShut
import Derived.Lib.LaidIn
import Derived.Lib.LaidU8T
import Derived.Deep.DeepHandedRow
import Derived.Deep.DeepWitnessRowRef
import Derived.SizedLaws
namespace Go.Proofs.YtmncpbfghabamaaDoor
open Go Go.ChangeShapes Go.WideShapes Go.ChangeAt Go.RowKit

theorem own : ownKnob Tryd.prog.godebug = none := by kernel_rfl
def laidTabs2 : List (String × DataW Unit) := Rows.wireSumsUptoRow.laid
set_option maxRecDepth 100000 in
theorem first_eq : Rows.laid_unicode_utf8_first = Lib.firstData := by kernel_rfl
theorem accept_eq : (Rows.laid_unicode_utf8_acceptRanges : DataW Unit) = Lib.acceptData := by kernel_rfl
theorem tabs_of2 {W : World} (h : laidMetH Tryd.prog laidTabs2 W) : Tabs W := by
  have h : laidMetH Tryd.prog [(_, Rows.laid_unicode_utf8_acceptRanges), (_, Rows.laid_unicode_utf8_first)] W := h
  rw [first_eq, accept_eq] at h
  exact utf8Tabs_of_readsT (U8Types.of196 Tryd.laysn196) ⟨by kernel_rfl, by kernel_rfl, by kernel_rfl, by kernel_rfl, by kernel_rfl, by kernel_rfl, by kernel_rfl⟩ (Lib.laidMet.reads h (.tail _ (.head _))) (Lib.laidMet.reads h (.head _))
/-- the settled world, the variables holding what their initialisers lay -/
noncomputable def laidWorld2 (os : Os) : World :=
  let w0 := World.holding Tryd.prog os ⟨#[], #[], []⟩
  let put (h : Array Obj) (g : Nat) (cs : Array Value) : Array Obj := h.modify g fun
    | .cells _ t frozen => .cells cs t frozen
    | o => o
  let h1 := put w0.heap 0 (Lib.firstTab.map fun z => Value.int .u8 z).toArray
  let h2 := put h1 1 ((List.range 16).flatMap fun i => [Value.int .u8 (Lib.accLo i), Value.int .u8 (Lib.accHi i)]).toArray
  { w0 with heap := h2 }
theorem laid_met2 (os : Os) (args : Array Value) : laidMet Tryd.prog laidTabs2 ((laidWorld2 os).forCall (fun _ _ => 0) ⟨#[], args, []⟩).memory :=
  (LaidIn.of_run (l := laidTabs2) [0, 1] 8 (by kernel_rfl) (by kernel_rfl) (by kernel_rfl) (by kernel_rfl)).met
theorem bulk_part {H : Type} : ∀ (l : List (DataW H)) (d : DataW H), d ∈ l → Rows.uptoBulk d ≤ Rows.uptoBulkAll l := by
  intro l d
  induction l with
  | nil => intro h; cases h
  | cons x r ih =>
    intro h
    simp only [Rows.uptoBulkAll]
    rcases List.mem_cons.1 h with e | e
    · subst e; omega
    · have := ih e; omega
/-- the bound of the second form -/
theorem size_of_bulk {H : Type} {l : List (DataW H)} {s : ByteArray} (hk : Rows.uptoSmall H l = true) (hm : (DataW.lit (.string s.data.toList) : DataW H) ∈ l) : s.size ≤ 1048576 := by
  have hb : Rows.uptoBulkAll l ≤ 1048576 := of_decide_eq_true hk
  have := bulk_part l _ hm
  simp only [Rows.uptoBulk] at this
  have e : s.data.toList.length = s.size := by simp
  omega
theorem laidOut : laidOutB Tryd.prog = true := by kernel_rfl
theorem cells_u8 : Tryd.prog.cellsOf 5 = 1 := by kernel_rfl

theorem bulk_len {H : Type} : ∀ l : List (DataW H), l.length ≤ Rows.uptoBulkAll l := by
  have pos : ∀ d : DataW H, 1 ≤ Rows.uptoBulk d := by
    intro d
    cases d with
    | lit x => cases x <;> simp [Rows.uptoBulk]
    | _ => simp [Rows.uptoBulk]
  intro l
  induction l with
  | nil => exact Nat.le_refl _
  | cons x r ih =>
    simp only [Rows.uptoBulkAll, List.length_cons]
    have := pos x
    omega

theorem open_bs {H : Type} {enc : TypeId × Value → H} {W : World} {a0 : Option Addr} {len cap : Nat} {d0 : DataW H} {p : List MemPlace}
    (h0 : DataW.Trod enc Tryd.prog W 0 (fun _ => true) true 26 (.slice a0 len cap) d0 p) :
    ∃ l : List UInt8, (Bs W (.slice a0 len cap) l ∧ (a0 = none → cap = 0)) ∧ l.length ≤ Rows.uptoBulk d0 := by
  obtain ⟨fuel, hf⟩ := h0
  rcases open_ints Tryd.underlying26 Tryd.underlying5 cells_u8 hf with ⟨hcs, hx⟩ | ⟨a, len', cap', zs, hcs, _, hl, hm, hz, hx, hcell, hwz⟩
  · simp [Value.cells] at hcs
    obtain ⟨rfl, rfl, rfl⟩ := hcs
    exact ⟨[], ⟨⟨none, 0, rfl, Nat.le_refl _, by omega, fun h => by simp at h⟩, fun _ => rfl⟩, Nat.zero_le _⟩
  · simp [Value.cells] at hcs
    obtain ⟨rfl, rfl, rfl⟩ := hcs
    simp only [Prod.mk.injEq] at hx
    obtain ⟨rfl, rfl⟩ := hx
    simp only [if_true] at hz
    unfold maxLen at hm
    have hlen : ((zs.take len).map fun n => UInt8.ofNat n.toNat).length = len := by simp; omega
    refine ⟨(zs.take len).map fun n => UInt8.ofNat n.toNat, ⟨⟨_, _, by rw [hlen], by rw [hlen]; exact hl, by omega, fun h => ?_⟩, fun h => by simp at h⟩, ?_⟩
    · rw [hlen] at h
      have hB := Lib.BytesIn.of_cells (a := a) (n := len) (xs := zs.take len) (fun i hi => by rw [hcell i (by omega)]; simp [List.getD, hi])
      obtain ⟨b, o, e, hc⟩ := hB h
      refine ⟨b, o, e, fun j x hj => ?_⟩
      obtain ⟨n, hn, rfl⟩ : ∃ n, (zs.take len)[j]? = some n ∧ UInt8.ofNat n.toNat = x := by rw [List.getElem?_map] at hj; exact Option.map_eq_some_iff.1 hj
      obtain ⟨hlt, e2⟩ := List.getElem?_eq_some_iff.1 hn
      have hw := hwz n (List.mem_of_mem_take (e2 ▸ List.getElem_mem hlt))
      have hw2 : 0 ≤ n ∧ n ≤ 255 := by
        simp only [Lit.wf, Bool.and_eq_true, decide_eq_true_eq] at hw
        exact hw
      rw [hc j (by rw [List.length_take] at hlt; omega)]
      have e3 : (zs.take len).getD j 0 = n := by rw [List.getD, hn]; rfl
      have e4 : ((UInt8.ofNat n.toNat).toNat : Int) = n := by rw [UInt8.toNat_ofNat']; omega
      rw [e3, e4]
    · rw [hlen]
      simp only [Rows.uptoBulk]
      have := bulk_len (H := H) (lits .u8 (zs.take len))
      have e : (lits (H := H) .u8 (zs.take len)).length = len := by simp [lits]; omega
      omega
end Go.Proofs.YtmncpbfghabamaaDoor
