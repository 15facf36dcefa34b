/- STATS: Count and Waits of the program. -/
import Derived.Test.YtejehjlegfpgbaaStatsReadB
import Derived.Test.YtejehjlegfpgbaaStatsShelf
import Derived.Sort.OwnSortedInts
import Derived.Shelf.SortM.Plain
import Derived.Shelf.SortM.SortNone
namespace Go.Proofs.Ytejehjlegfpgbaa
open Go Go.RowKit Go.Maps

/-- a slice of counts -/
def Cts (w : World) (v : Value) (N : Nat) (c : Nat → Int) : Prop := ∃ g, v = .slice (some ⟨g, 0, none⟩) N N ∧ g < w.heap.size ∧ ∀ j, j < 9 * N → w.cell? ⟨g, j, none⟩ = some (.int .i64 (c j))
theorem Cts.below {w w' : World} {v : Value} {N : Nat} {c : Nat → Int} (h : Cts w v N c) (hb : Below w.heap.size w w') : Cts w' v N c := by
  obtain ⟨g, hv, hg, hc⟩ := h
  exact ⟨g, hv, Nat.lt_of_lt_of_le hg hb.size, fun j hj => (hb.cell (p := ⟨g, j, none⟩) hg).trans (hc j hj)⟩
def CountPost (w : World) (N : Nat) (c : Nat → Int) (r : Ending) (w' : World) : Prop := Below w.heap.size w w' ∧ ∃ v, r = .returned v ∧ Cts w' v N c
theorem BK.cts {w : World} {base gB gC gW gM n m : Nat} {V : Nat → Value} {s : St} (h : BK w base gB gC gW gM n m V s) : Cts w (.slice (some ⟨gC, 0, none⟩) n n) n s.c :=
  ⟨gC, rfl, by have := h.lt; omega, fun j hj => h.cellC hj⟩

set_option maxHeartbeats 2000000 in
theorem count_any {w : World} (n : Int) (hn : Wf n) (l : List Ev) {v : Value} (hV : Evs w v l) (hl : l.length ≤ 1048576) (hfit : FitL l) (hid : ∀ e ∈ l, Wf e.i) :
    Calls Try.prog 8 #[.int .i64 n, v] w (CountPost w (many n) (readS (many n) l).c) := by
  have CR := Lib.hid (read_any n hn l hV hl hfit hid)
  obtain ⟨PP, hPP⟩ : ∃ PP, CountPost w (many n) (readS (many n) l).c = PP := ⟨_, rfl⟩
  rw [hPP]
  have HPP := Lib.hid hPP
  clear hV hfit hid hPP
  go_enter Try.func8, Try.ntmps8
  go_wp2_with fail
  refine CR.out.mono ?_
  rintro r' W ⟨gB, gC, gW, gM, m, V, rfl, hb, l0, l1, l2, l3, hB⟩
  obtain ⟨b0', b1', b2'⟩ := hB.cellB
  have HB := Lib.hid hB
  have HW := Lib.hid hb
  clear hB hb
  go_wp2
  rw [← HPP.out]
  exact ⟨HW.out, _, rfl, HB.out.cts⟩

/-- THE ROWS OF WAITS -/
structure WR (w : World) (base gW n : Nat) (V : Nat → Value) (rows : Nat → List Int) : Prop where
  lt : gW < base ∧ base ≤ w.heap.size
  wt : ∃ cur : Array Value, w.heap[gW]? = some (.cells cur 32 (0, 0)) ∧ cur.size = n ∧ ∀ h, h < n → cur[h]? = some (V h)
  own : ∀ h, h < n → w.ownsRow base 2 1 (V h) (rows h).length ((rows h).map (Value.int .i64))
  ds : ∀ h h', h < n → h' < n → h ≠ h' → (V h).ownBlock = none ∨ (V h).ownBlock ≠ (V h').ownBlock
theorem BK.wr {w : World} {base gB gC gW gM n m : Nat} {V : Nat → Value} {s : St} (h : BK w base gB gC gW gM n m V s) : WR w base gW n V s.w :=
  ⟨⟨h.lt.2.2.1, h.lt.2.2.2.2⟩, h.wt, h.rw_, h.ds⟩
theorem WR.cell {w : World} {base gW n : Nat} {V : Nat → Value} {rows : Nat → List Int} (h : WR w base gW n V rows) {j : Nat} (hj : j < n) : w.cell? ⟨gW, j, none⟩ = some (V j) := by
  obtain ⟨c1, h1, h2, h3⟩ := h.wt
  rw [cell_of_row w gW j _ _ _ h1]; exact h3 j hj
theorem WR.turn {w w' : World} {base gW n : Nat} {V : Nat → Value} {rows : Nat → List Int} (h : WR w base gW n V rows) {r : Nat} (hr : r < n) {l : List Int} (hg : w.grownBy w' (V r).ownBlock) (ho : w'.ownsRow base 2 1 (V r) l.length (l.map (Value.int .i64))) : WR w' base gW n V (upd rows r l) := by
  obtain ⟨c1, h1, h2, h3⟩ := h.wt
  refine ⟨⟨h.lt.1, Nat.le_trans h.lt.2 hg.size⟩, ⟨c1, (hg.block _ (by have := h.lt; omega) (fun e => by have := ((h.own r hr).lt _ e.symm).1; have := h.lt; omega)).trans h1, h2, h3⟩, fun i hi => ?_, h.ds⟩
  by_cases e : i = r
  · subst e; rw [upd_same]; exact ho
  · rw [upd_other _ _ e]; exact (h.own i hi).kept hg (h.ds i r hi hr e)
theorem WR.below {w w' : World} {base gW n : Nat} {V : Nat → Value} {rows : Nat → List Int} (h : WR w base gW n V rows) (hb : Below w.heap.size w w') : WR w' base gW n V rows := by
  obtain ⟨c1, h1, h2, h3⟩ := h.wt
  have hg : w.grownBy w' none := ⟨hb.os, hb.tape, hb.output, hb.size, fun i hi _ => hb.block i hi⟩
  exact ⟨⟨h.lt.1, Nat.le_trans h.lt.2 hb.size⟩, ⟨c1, (hb.block _ (by have := h.lt; omega)).trans h1, h2, h3⟩, fun i hi => (h.own i hi).kept hg (by cases (V i).ownBlock <;> simp), h.ds⟩

def SortPost (w : World) (base : Nat) (v : Value) (l : List Int) (r : Ending) (w' : World) : Prop := r = .returned (.tuple #[]) ∧ w.grownBy w' v.ownBlock ∧ w'.ownsRow base 2 1 v (srt l).length ((srt l).map (Value.int .i64))
theorem srt_len (l : List Int) : (srt l).length = l.length := List.length_mergeSort _
theorem sort_any {w : World} {base : Nat} {v : Value} {l : List Int} (h : w.ownsRow base 2 1 v l.length (l.map (Value.int .i64))) (hl : l.length ≤ 1048576) :
    Calls Try.prog 22 #[v] w (SortPost w base v l) := by
  rcases h.2 with ⟨rfl, h0⟩ | ⟨g, cap, cur, rfl, hb, hg, h1, h2, h3, h4⟩
  · have hl0 : l = [] := List.eq_nil_of_length_eq_zero h0
    subst hl0
    have := AnyM.slices_Sort_int_none Try.laysSort none 0 w
    refine this.mono ?_
    rintro e w' ⟨rfl, rfl⟩
    exact ⟨rfl, World.grownBy.refl _ _, by simpa [srt] using h⟩
  · rw [Nat.mul_one] at h4
    have := AnyM.slices_Sort_int Try.laysSort g 0 cap l w (holds_of_blockI hg h4) (Array.getElem?_eq_some_iff.1 hg).1 (by omega)
    refine this.mono ?_
    rintro e w' ⟨rfl, n, os, rfl⟩
    refine ⟨rfl, grownBy_sortedI _, ?_⟩
    rw [srt_len]
    exact ownsRow_sortedI (srt_len l) hb hg h1 h2 h3

/-- a slice of rows of numbers -/
def Wts (w : World) (v : Value) (N : Nat) (rows : Nat → List Int) : Prop := ∃ base g V, v = .slice (some ⟨g, 0, none⟩) N N ∧ WR w base g N V rows
def WaitsPost (w : World) (N : Nat) (rows : Nat → List Int) (r : Ending) (w' : World) : Prop := Below w.heap.size w w' ∧ ∃ v, r = .returned v ∧ Wts w' v N rows
def srtTo (rows : Nat → List Int) (k : Nat) (h : Nat) : List Int := if h < k then srt (rows h) else rows h
theorem srtTo_step (rows : Nat → List Int) (k : Nat) : upd (srtTo rows k) k (srt (srtTo rows k k)) = srtTo rows (k + 1) := by
  funext h
  unfold upd srtTo
  by_cases e : h = k
  · subst e; simp
  · rw [if_neg e]
    by_cases h1 : h < k
    · rw [if_pos h1, if_pos (by omega)]
    · rw [if_neg h1, if_neg (by omega)]
set_option maxHeartbeats 4000000 in
theorem waits_any {w : World} (n : Int) (hn : Wf n) (l : List Ev) {v : Value} (hV : Evs w v l) (hl : l.length ≤ 1048576) (hfit : FitL l) (hid : ∀ e ∈ l, Wf e.i) :
    Calls Try.prog 10 #[.int .i64 n, v] w (WaitsPost w (many n) (fun h => if h < many n then srt ((readS (many n) l).w h) else (readS (many n) l).w h)) := by
  have CR := Lib.hid (read_any n hn l hV hl hfit hid)
  have hN64 : many n ≤ 64 := by unfold many; omega
  have HL : Hid (∀ r, ((readS (many n) l).w r).length ≤ 1048576) := fun r => Nat.le_trans (readS_len _ l r) hl
  obtain ⟨PP, hPP⟩ : ∃ PP, WaitsPost w (many n) (fun h => if h < many n then srt ((readS (many n) l).w h) else (readS (many n) l).w h) = PP := ⟨_, rfl⟩
  rw [hPP]
  have HPP := Lib.hid hPP
  clear hV hfit hid hPP
  generalize many n = N at *
  go_enter Try.func10, Try.ntmps10
  go_wp2_with fail
  refine CR.out.mono ?_
  rintro r' W ⟨gB, gC, gW, gM, m, V, rfl, hb, l0, l1, l2, l3, hB⟩
  obtain ⟨b0', b1', b2'⟩ := hB.cellB
  have HB := Lib.hid hB.wr
  have HW := Lib.hid hb
  clear hB hb
  go_wp2
  go_loopw [16] (fun i wr => ∃ k : Nat, i = .int .i64 (k : Nat) ∧ k ≤ N ∧ Below w.heap.size w wr ∧ WR wr (w.heap.size + 4) gW N V (srtTo (readS N l).w k)) (fun i _ => N - (intOf i).toNat)
  case atStart => exact ⟨0, rfl, by omega, HW.out, HB.out⟩
  case round =>
    obtain ⟨k, rfl, hk, hbw, hR⟩ := hrel
    have HWb := Lib.hid hbw
    have HR := Lib.hid hR
    have hsz : w.heap.size ≤ wr.heap.size := hbw.size
    by_cases hlt : k < N
    · have cw := hR.cell hlt
      have CS := Lib.hid (sort_any (hR.own k hlt) (by unfold srtTo; rw [if_neg (by omega)]; exact HL.out k))
      have g4 : (k : Int) < (N : Int) := by omega
      have HVb : Hid (∀ q, (V k).ownBlock = some q → w.heap.size ≤ q) := fun q hq => by have := ((hR.own k hlt).lt q hq).1; omega
      clear hbw hR
      go_wp2_with fail
      refine CS.out.mono ?_
      rintro r' W' ⟨rfl, hg, ho⟩
      have HG := Lib.hid hg
      have HO := Lib.hid ho
      clear hg ho
      go_wp2
      go_roundw
      case rel =>
        refine ⟨k + 1, by go_num, by omega, HWb.out.grown HG.out hsz HVb.out, ?_⟩
        rw [← srtTo_step]
        exact HR.out.turn hlt HG.out HO.out
      case measure => simp [intOf]; omega
    · obtain rfl : k = N := by omega
      clear hbw hR
      go_wp2
      rw [← HPP.out]
      exact ⟨HWb.out, _, rfl, _, gW, V, rfl, HR.out⟩
end Go.Proofs.Ytejehjlegfpgbaa
