/- STATS: a handler's counts; a result is counted. -/
import Derived.Test.YtejehjlegfpgbaaStatsLook
import Derived.BigQuiet
import Derived.Deep.QuietTactic
import Derived.Deep.RegionHeld3
import Derived.Deep.RegionWith
namespace Go.Proofs.Ytejehjlegfpgbaa
open Go Go.RowKit

def zeros : Array Value := #[.int .i64 0, .int .i64 0, .int .i64 0, .int .i64 0, .int .i64 0, .int .i64 0, .int .i64 0, .int .i64 0, .int .i64 0]
section
variable {w : World} {base gB gC gW gM n m : Nat} {V : Nat → Value} {s : St}
theorem of_in (hB : BK w base gB gC gW gM n m V s) {h : Int} (hr : InR n h) :
    Calls Try.prog 25 #[.pointer (some ⟨gB, 0, none⟩), .int .i64 h] w fun r w' => r = .returned (.pointer (some ⟨gC, h.toNat * 9, none⟩)) ∧ w = w' := by
  obtain ⟨r, rfl⟩ : ∃ r : Nat, h = (r : Nat) := ⟨h.toNat, by have := hr.1; omega⟩
  have h1 : ¬ (r : Int) < 0 := by omega
  have h2 : (r : Int) < (n : Int) := hr.2
  have h3 : ¬ (n : Int) ≤ (r : Int) := by omega
  obtain ⟨b0, b1, b2⟩ := hB.cellB
  have hn := hB.n64
  clear hr hB
  go_enter Try.func25, Try.ntmps25
  go_wp2
  go_ret
  exact ⟨rfl, rfl⟩
theorem of_out (hB : BK w base gB gC gW gM n m V s) {h : Int} (hr : ¬ InR n h) :
    Calls Try.prog 25 #[.pointer (some ⟨gB, 0, none⟩), .int .i64 h] w fun r w' => r = .returned (.pointer (some ⟨w.heap.size, 0, none⟩)) ∧ w' = w.alloc (.cells zeros 30) := by
  obtain ⟨b0, b1, b2⟩ := hB.cellB
  have hn := hB.n64
  clear hB
  by_cases h1 : h < 0
  · clear hr
    go_enter Try.func25, Try.ntmps25
    go_wp2
    go_ret
    exact ⟨rfl, rfl⟩
  · have h2 : (n : Int) ≤ h := by unfold InR at hr; omega
    clear hr
    go_enter Try.func25, Try.ntmps25
    go_wp2
    go_ret
    exact ⟨rfl, rfl⟩
end

theorem below_drewN {B : Nat} {a w : World} (h : Below B a w) (q : Nat) : Below B a (w.drewN q) := ⟨h.os, h.tape, h.output, h.size, h.block⟩
theorem wp_world {P : Program} {c : Code} {Q : Exit → Act → World → Prop} {a : Act} {W : World} (R : World → Prop) (h : R W) (H : ∀ W, R W → Code.wp P c Q a W) : Code.wp P c Q a W := H W h
theorem k_world {K : Act → World → Prop} {a : Act} {W : World} (R : World → Prop) (h : R W) (H : ∀ W, R W → K a W) : K a W := H W h
theorem k_calls {P : Program} {f : FuncId} {args : Array Value} {Q : Ending → World → Prop} {W : World} (R : World → Prop) (h : R W) (H : ∀ W, R W → Calls P f args W Q) : Calls P f args W Q := H W h

/-- the result's block -/
def xc (e : Ev) : Array Value := #[.int .i64 e.h, .int .i64 e.i, .int .i64 e.a, .int .i64 e.er]
structure DK (w W : World) (b0 base gB gC gW gM n m : Nat) (V : Nat → Value) (s : St) (e : Ev) : Prop where
  bk : BK W base gB gC gW gM n m V s
  xb : W.heap[w.heap.size]? = some (.cells (xc e) 72 (0, 0))
  bel : Below b0 w W
  le : b0 ≤ w.heap.size
  bs : base ≤ w.heap.size
  vb : ∀ r, r < n → ∀ k, (V r).ownBlock = some k → k < w.heap.size
theorem DK.cells {w W : World} {b0 base gB gC gW gM n m : Nat} {V : Nat → Value} {s : St} {e : Ev} (h : DK w W b0 base gB gC gW gM n m V s e) : W.cell? ⟨w.heap.size, 0, none⟩ = some (.int .i64 e.h) ∧ W.cell? ⟨w.heap.size, 1, none⟩ = some (.int .i64 e.i) ∧ W.cell? ⟨w.heap.size, 2, none⟩ = some (.int .i64 e.a) ∧ W.cell? ⟨w.heap.size, 3, none⟩ = some (.int .i64 e.er) := by
  refine ⟨?_, ?_, ?_, ?_⟩ <;> (rw [cell_of_row _ _ _ _ _ _ h.xb]; rfl)
theorem DK.setC {w W : World} {b0 base gB gC gW gM n m : Nat} {V : Nat → Value} {s : St} {e : Ev} (h : DK w W b0 base gB gC gW gM n m V s e) (h0 : b0 ≤ gC) (hw : gC < w.heap.size) {j : Nat} (hj : j < 9 * n) (v : Int) {u : Value} (hu : u = .int .i64 v) : DK w (W.setCell ⟨gC, j, none⟩ u) b0 base gB gC gW gM n m V { s with c := upd s.c j v } e :=
  ⟨h.bk.setC hj v hu, (Below.heap_setCell W ⟨gC, j, none⟩ u w.heap.size (show w.heap.size ≠ gC by omega)).trans h.xb, h.bel.setCell (p := ⟨gC, j, none⟩) h0 u, h.le, h.bs, h.vb⟩
theorem DK.drewN {w W : World} {b0 base gB gC gW gM n m : Nat} {V : Nat → Value} {s : St} {e : Ev} (h : DK w W b0 base gB gC gW gM n m V s e) (q : Nat) : DK w (W.drewN q) b0 base gB gC gW gM n m V s e := ⟨h.bk.drewN q, h.xb, below_drewN h.bel q, h.le, h.bs, h.vb⟩
theorem DK.start {w : World} {b0 base gB gC gW gM n m : Nat} {V : Nat → Value} {s : St} (hB : BK w base gB gC gW gM n m V s) (e : Ev) (h0 : b0 ≤ w.heap.size) : DK w (w.alloc (.cells (xc e) 72)) b0 base gB gC gW gM n m V s e :=
  ⟨hB.below ((Below.refl _ _).alloc (Nat.le_refl _) _), heap_alloc_new w _, (Below.refl _ _).alloc h0 _, h0, hB.lt.2.2.2.2, fun r hr k hk => ((hB.rw_ r hr).lt k hk).2⟩

theorem DK.below {w W W' : World} {b0 base gB gC gW gM n m : Nat} {V : Nat → Value} {s : St} {e : Ev} (h : DK w W b0 base gB gC gW gM n m V s e) (hb : Below W.heap.size W W') : DK w W' b0 base gB gC gW gM n m V s e := by
  have hx : w.heap.size < W.heap.size := by
    rcases Nat.lt_or_ge w.heap.size W.heap.size with hlt | hge
    · exact hlt
    · have := h.xb; rw [Array.getElem?_eq_none hge] at this; cases this
  exact ⟨h.bk.below hb, (hb.block _ hx).trans h.xb, h.bel.trans (hb.mono (Nat.le_trans h.le h.bel.size)), h.le, h.bs, h.vb⟩

theorem DK.setZ {w W : World} {b0 base gB gC gW gM n m : Nat} {V : Nat → Value} {s : St} {e : Ev} (h : DK w W b0 base gB gC gW gM n m V s e) (i : Nat) (u : Value) : DK w (W.setCell ⟨w.heap.size + 1, i, none⟩ u) b0 base gB gC gW gM n m V s e := by
  have hg : W.grownBy (W.setCell ⟨w.heap.size + 1, i, none⟩ u) (some (w.heap.size + 1)) := ⟨rfl, rfl, rfl, by simp [World.setCell], fun k hk hne => Below.heap_setCell W ⟨w.heap.size + 1, i, none⟩ u k (fun e => hne (by rw [e]))⟩
  exact ⟨h.bk.beyond hg (by have := h.bs; omega) (fun r hr e => by have := h.vb r hr _ e; omega), (Below.heap_setCell W ⟨w.heap.size + 1, i, none⟩ u w.heap.size (by simp)).trans h.xb, h.bel.setCell (p := ⟨w.heap.size + 1, i, none⟩) (by have := h.le; simp; omega) u, h.le, h.bs, h.vb⟩

theorem resN (W : World) (tmps : Array Value) : (results Try.f26 tmps).run Try.prog W = .ok (.tuple #[]) W := by
  simp [results, Try.results26]
def DonePost (w : World) (b0 base gB gC gW gM n m : Nat) (s : St) (r : Ending) (w' : World) : Prop := r = .returned (.tuple #[]) ∧ Below b0 w w' ∧ ∃ V, BK w' base gB gC gW gM n m V s

set_option maxRecDepth 100000 in
set_option maxHeartbeats 8000000 in
theorem done_out {w : World} {base gB gC gW gM n m : Nat} {V : Nat → Value} {s : St} (hB : BK w base gB gC gW gM n m V s) (e : Ev) (hr : ¬ InR n e.h) (hi : Wf e.i) {b0 : Nat} (h0 : b0 ≤ w.heap.size) :
    Calls Try.prog 26 #[.pointer (some ⟨gB, 0, none⟩), .agg (xc e)] w (DonePost w b0 base gB gC gW gM n m s) := by
  have HB := Lib.hid hB
  have hlt := hB.lt
  have hn := hB.n64
  have HI := Lib.hid hi
  have hD := DK.start hB e h0
  have ⟨c0, c1, c2, c3⟩ := hD.cells
  have CO := Lib.hid (of_out hD.bk hr)
  have HD := Lib.hid hD
  obtain ⟨PP, hPP⟩ : ∃ PP, DonePost w b0 base gB gC gW gM n m s = PP := ⟨_, rfl⟩
  rw [hPP]
  have HPP := Lib.hid hPP
  have HR := Lib.hid hr
  have he : (e.er == 0) = true ∧ (e.er == 110) = false ∨ (e.er == 0) = false ∧ (e.er == 110) = true ∨ (e.er == 0) = false ∧ (e.er == 110) = false := by
    simp only [beq_eq_false_iff_ne, ne_eq, beq_iff_eq]; omega
  clear hD hB hPP hi hr
  rcases he with ⟨e1, e2⟩ | ⟨e1, e2⟩ | ⟨e1, e2⟩
  all_goals
    go_enter Try.func26, Try.ntmps26
    go_wp2_with fail
    refine CO.out.mono ?_
    rintro r W ⟨rfl, rfl⟩
    have hsz : (w.alloc (.cells (xc e) 72)).heap.size = w.heap.size + 1 := by simp
    rw [hsz]
    have hz := heap_alloc_new (w.alloc (.cells (xc e) 72)) (.cells zeros 30)
    rw [hsz] at hz
    refine k_world (fun W => DK w W b0 base gB gC gW gM n m V s e ∧ W.heap[w.heap.size + 1]? = some (.cells zeros 30 (0, 0))) (by exact ⟨HD.out.below ((Below.refl _ _).alloc (Nat.le_refl _) _), hz⟩) (fun W hW => ?_)
    obtain ⟨hW, hz⟩ := hW
    have z4 : W.cell? ⟨w.heap.size + 1, 4, none⟩ = some (.int .i64 0) := by rw [cell_of_row _ _ _ _ _ _ hz]; rfl
    have z5 : W.cell? ⟨w.heap.size + 1, 5, none⟩ = some (.int .i64 0) := by rw [cell_of_row _ _ _ _ _ _ hz]; rfl
    have z6 : W.cell? ⟨w.heap.size + 1, 6, none⟩ = some (.int .i64 0) := by rw [cell_of_row _ _ _ _ _ _ hz]; rfl
    have hfz : ∀ i, W.frozen? ⟨w.heap.size + 1, i, none⟩ = false := fun i => frozen_of_row _ _ i _ _ hz
    have HW := Lib.hid hW
    clear c0 c1 c2 c3 hz hsz
    have ⟨c0, c1, c2, c3⟩ := hW.cells
    clear hW
    go_wp2
    refine wp_world (fun W => DK w W b0 base gB gC gW gM n m V s e) (by
      first
        | exact (HW.out.setZ 4 _).setZ 5 _
        | exact (HW.out.setZ 4 _).setZ 6 _
        | exact HW.out.setZ 4 _) (fun W hW => ?_)
    clear z4 z5 z6 hfz HW c0 c1 c2 c3
    have ⟨c0, c1, c2, c3⟩ := hW.cells
    have ⟨b0', b1', b2'⟩ := hW.bk.cellB
    have hlook := fun q => (hW.bk.drewN q).mp.look HI.out
    have HW := Lib.hid hW
    clear hW
    have hh : (s.f e.i).isSome = false ∨ (s.f e.i).isSome = true ∧ e.h < 0 ∨ (s.f e.i).isSome = true ∧ ¬ e.h < 0 ∧ (n : Int) ≤ e.h := by
      have := HR.out
      unfold InR at this
      cases (s.f e.i).isSome
      · exact .inl rfl
      · by_cases h : e.h < 0
        · exact .inr (.inl ⟨rfl, h⟩)
        · exact .inr (.inr ⟨rfl, h, by omega⟩)
    generalize (s.f e.i).isSome = told at *
    generalize (s.f e.i).getD 0 = t0 at *
    rcases hh with hh | ⟨hh, hh1⟩ | ⟨hh, hh1, hh2⟩
    all_goals
      subst hh
      go_quiet (fail)
      go_wp2
      go_quiet (fail)
      go_wp2
      refine bodyPost_ret (resN _ _) rfl ?_
      rw [← HPP.out]
      exact ⟨rfl, ((HW.out.drewN _).drewN _).bel, _, ((HW.out.drewN _).drewN _).bk⟩
end Go.Proofs.Ytejehjlegfpgbaa
