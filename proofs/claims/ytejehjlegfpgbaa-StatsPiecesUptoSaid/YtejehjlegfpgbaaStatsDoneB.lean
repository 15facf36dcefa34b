/- STATS: a result of a handler that is counted. -/
import Derived.Test.YtejehjlegfpgbaaStatsDone
import Derived.Deep.Cut
import Derived.Deep.DeepCutAuto
namespace Go.Proofs.Ytejehjlegfpgbaa
open Go Go.RowKit

/-- 'm[k]' appended, in a region that draws -/
theorem own_grow_i {w1 : World} {base : Nat} {v' : Value} {l : List Int} {x : Int} {n : Nat} (hn : n = l.length) (hown' : w1.ownsRow base 2 1 v' (n + 1) (l.map (Value.int .i64) ++ [.int .i64 x])) :
    w1.ownsRow base 2 1 v' (l ++ [x]).length ((l ++ [x]).map (Value.int .i64)) := by
  subst hn; rw [List.length_append, List.map_append]; exact hown'
theorem DK.own_ {w W : World} {b0 base gB gC gW gM n m : Nat} {V : Nat → Value} {s : St} {e : Ev} (h : DK w W b0 base gB gC gW gM n m V s e) {r : Nat} (hr : r < n) : ∀ k, (V r).ownBlock = some k → base ≤ k ∧ k < w.heap.size := fun k hk => ⟨((h.bk.rw_ r hr).lt k hk).1, h.vb r hr k hk⟩
theorem news_cells (w : World) (cs : List Value) (t : TypeId) : ∀ j u, cs[j]? = some u → (w.alloc (.cells cs.toArray t)).cell? ((⟨w.heap.size, 0, none⟩ : Addr).add j) = some u := by
  have h := World.news_of_block (w := w.alloc (.cells cs.toArray t)) (heap_alloc_new w _)
  exact fun j u hu => h j u (by simpa using hu)
theorem far_b {w w1 : World} {o : Obj} {row : Option Nat} (hg : (w.alloc o).drew.grownBy w1 row) {b : Nat} (hne : ¬ row = some b) (hb : b < w.heap.size) : w1.heap[b]? = w.heap[b]? :=
  (hg.block b (by show b < (w.alloc o).heap.size; rw [World.size_alloc]; omega) (fun e => hne e.symm)).trans (Below.heap_alloc w o b hb)
theorem g_refl_ (W : World) : W.grownBy W none := ⟨rfl, rfl, rfl, Nat.le_refl _, fun _ _ _ => rfl⟩
theorem far_d {w w1 : World} {o : Obj} {row : Option Nat} (hg : (w.alloc o).drew.grownBy w1 row) {b i : Nat} {x : Value} (hne : ¬ row = some b) (hc : w.cell? ⟨b, i, none⟩ = some x) : w1.cell? ⟨b, i, none⟩ = some x :=
  (World.cell?_of_block (a := ⟨b, i, none⟩) (far_b hg hne (World.block_lt_of_cell? w _ hc))).trans hc
theorem far_f {w w1 : World} {o : Obj} {row : Option Nat} (hg : (w.alloc o).drew.grownBy w1 row) {b i : Nat} (hne : ¬ row = some b) (hb : b < w.heap.size) : w1.frozen? ⟨b, i, none⟩ = w.frozen? ⟨b, i, none⟩ := by
  have h := far_b hg hne hb
  unfold World.frozen?; simp only [h]
theorem far_s {w : World} {b i j g : Nat} {u x : Value} (hne : b ≠ g) (hc : w.cell? ⟨b, i, none⟩ = some x) : (w.setCell ⟨g, j, none⟩ u).cell? ⟨b, i, none⟩ = some x := by
  rw [World.cell?_setCell_other]
  · exact hc
  · intro e; injection e with e; exact hne e.symm
theorem frozen_set {w : World} {b i : Nat} {a : Addr} {u : Value} : (w.setCell a u).frozen? ⟨b, i, none⟩ = w.frozen? ⟨b, i, none⟩ := by simp
theorem info_int64 : (Try.prog.info? 2).map (fun i => (i.zero, i.size, i.bytes)) = some (some (.int .i64 0), 1, 8) := by kernel_rfl

theorem done_end {w wc w1 : World} {o : Obj} {b0 base gB gC gW gM n m : Nat} {V : Nat → Value} {s : St} {e : Ev} (hW : DK w wc b0 base gB gC gW gM n m V s e) {r : Nat} (hr : r < n) (h0 : b0 ≤ gB ∧ b0 ≤ gC ∧ b0 ≤ gW ∧ b0 ≤ gM) (hgb : gB < base ∧ gW < base)
    {g2 cap2 : Nat} {x : Int} (hgrow : (wc.alloc o).drew.grownBy w1 (V r).ownBlock) (hown' : w1.ownsRow base 2 1 (.slice (some ⟨g2, 0, none⟩) ((s.w r).length + 1) cap2) ((s.w r).length + 1) ((s.w r).map (Value.int .i64) ++ [.int .i64 x]))
    (hat : (V r).ownBlock = some g2 ∨ g2 = wc.heap.size + 1) :
    DonePost w b0 base gB gC gW gM n m { s with w := upd s.w r (s.w r ++ [x]) } (.returned (.tuple #[])) (w1.setCell ⟨gW, r, none⟩ (.slice (some ⟨g2, 0, none⟩) ((s.w r).length + 1) cap2)) := by
  have hg : wc.grownBy w1 (V r).ownBlock := by
    have ha := World.grownBy_alloc wc o (V r).ownBlock
    exact ⟨hgrow.os.trans ha.os, hgrow.tape.trans ha.tape, hgrow.output.trans ha.output, Nat.le_trans ha.size hgrow.size, fun i hi hne => (hgrow.block i (Nat.lt_of_lt_of_le hi ha.size) hne).trans (ha.block i hi hne)⟩
  have hb : Below b0 w w1 := (hW.bel).grown hg (by have := hW.bel.size; have := hW.le; omega) (fun k hk => by have := (hW.bk.rw_ r hr).lt k hk; omega)
  refine ⟨rfl, hb.setCell (p := ⟨gW, r, none⟩) h0.2.2.1 _, upd V r (.slice (some ⟨g2, 0, none⟩) ((s.w r).length + 1) cap2), ?_⟩
  have := hW.bk.app hr (v := .slice (some ⟨g2, 0, none⟩) ((s.w r).length + 1) cap2) (l := s.w r ++ [x]) hg (own_grow_i rfl hown') (fun k hk => by
    have hk : some g2 = some k := hk
    injection hk with hk
    subst hk
    rcases hat with h | h
    · exact .inl h
    · exact .inr (by omega))
  exact this

set_option maxRecDepth 100000 in
set_option maxHeartbeats 16000000 in
set_option linter.unusedSimpArgs false in
theorem done_in {w : World} {base gB gC gW gM n m : Nat} {V : Nat → Value} {s : St} (hB : BK w base gB gC gW gM n m V s) (e : Ev) (hr : InR n e.h) (hi : Wf e.i) (hfit : FitE e) (hf : ∀ i t, s.f i = some t → 0 ≤ t ∧ t ≤ 1099511627776)
    (hw : ∀ r, r < n → (s.w r).length ≤ 1048576) {b0 : Nat} (h0 : b0 ≤ gB ∧ b0 ≤ gC ∧ b0 ≤ gW ∧ b0 ≤ gM) :
    Calls Try.prog 26 #[.pointer (some ⟨gB, 0, none⟩), .agg (xc e)] w (DonePost w b0 base gB gC gW gM n m (doneS n s e)) := by
  obtain ⟨i0, hi0, hz0, hz1, hz2⟩ := info_parts info_int64
  have HB := Lib.hid hB
  have hlt := hB.lt
  have hn := hB.n64
  have HNE := Lib.hid (show gB < base ∧ gW < base ∧ gB ≠ gW from ⟨hB.lt.1, hB.lt.2.2.1, hB.ne.2.1⟩)
  have HI := Lib.hid hi
  have hb0 : b0 ≤ w.heap.size := by omega
  have hD := DK.start hB e hb0
  have ⟨c0, c1, c2, c3⟩ := hD.cells
  have CO := Lib.hid (of_in hD.bk hr)
  have HD := Lib.hid hD
  obtain ⟨PP, hPP⟩ : ∃ PP, DonePost w b0 base gB gC gW gM n m (doneS n s e) = PP := ⟨_, rfl⟩
  rw [hPP]
  have HPP := Lib.hid hPP
  have HR := Lib.hid hr
  have hr1 := hr.1
  have hr2 := hr.2
  have HSn : Hid (s.f e.i = none → doneS n s e = { s with c := doneC s.c (e.h.toNat * 9) e.er }) := fun h => by unfold doneS; rw [if_pos hr, h]
  have HSs : Hid (∀ t, s.f e.i = some t → doneS n s e = { s with c := waitC (doneC s.c (e.h.toNat * 9) e.er) (e.h.toNat * 9) (max (e.a - t) 0), w := upd s.w e.h.toNat (s.w e.h.toNat ++ [max (e.a - t) 0]) }) := fun t h => by unfold doneS; rw [if_pos hr, h]
  obtain ⟨r, hre⟩ : ∃ r, e.h.toNat = r := ⟨_, rfl⟩
  rw [hre] at HSn HSs CO
  have hrn : r < n := by omega
  have hr3 : ¬ e.h < 0 := by omega
  have hr4 : ¬ (n : Int) ≤ e.h := by omega
  obtain ⟨C1, hC1⟩ : ∃ C1, inc s.c (r * 9 + 4) 1 = C1 := ⟨_, rfl⟩
  obtain ⟨C2, hC2⟩ : ∃ C2, (if e.er = 0 then inc C1 (r * 9 + 5) 1 else C1) = C2 := ⟨_, rfl⟩
  obtain ⟨C, hC⟩ : ∃ C, (if e.er = 110 then inc C2 (r * 9 + 6) 1 else C2) = C := ⟨_, rfl⟩
  have hCC : doneC s.c (r * 9) e.er = C := by unfold doneC; simp only [hC1, hC2, hC]
  rw [hCC] at HSn HSs
  have HC1 := Lib.hid hC1
  have HC2 := Lib.hid hC2
  have HC := Lib.hid hC
  clear hD hB hPP hi hr hC hC1 hC2 hCC
  go_enter Try.func26, Try.ntmps26
  go_wp2_with fail
  refine CO.out.mono ?_
  rintro r' W' ⟨rfl, rfl⟩
  refine k_world (fun W => DK w W b0 base gB gC gW gM n m V s e) (by exact HD.out) (fun W hW => ?_)
  clear c0 c1 c2 c3
  have ⟨c0, c1, c2, c3⟩ := hW.cells
  have q4 := hW.bk.cellC (j := r * 9 + 4) (by omega)
  have qf := hW.bk.frozenC
  have HW := Lib.hid hW
  clear hW
  go_upto_if 21 with fail
  refine wp_world (fun W => DK w W b0 base gB gC gW gM n m V { s with c := C1 } e) (by
    rw [← HC1.out]
    exact HW.out.setC h0.2.1 (by omega) (j := r * 9 + 4) (by omega) (wrap64 (s.c (r * 9 + 4) + 1)) rfl) (fun W2 hW => ?_)
  clear c0 c1 c2 c3 q4 qf HW
  have ⟨c0, c1, c2, c3⟩ := hW.cells
  have q5 := hW.bk.cellC (j := r * 9 + 5) (by omega)
  have qf := hW.bk.frozenC
  have HW := Lib.hid hW
  clear hW
  go_cut [] from 12 (fun wx => DK w wx b0 base gB gC gW gM n m V { s with c := C2 } e)
  case first =>
    by_cases e0 : e.er = 0
    · have e1 : (e.er == 0) = true := beq_iff_eq.2 e0
      have HE : Hid (C2 = upd C1 (r * 9 + 5) (wrap64 (C1 (r * 9 + 5) + 1))) := by show _ = _; rw [← HC2.out, if_pos e0]; rfl
      clear e0
      go_wp2_with fail
      go_meet
      case rel =>
        rw [HE.out]
        exact HW.out.setC h0.2.1 (by omega) (j := r * 9 + 5) (by omega) (wrap64 (C1 (r * 9 + 5) + 1)) rfl
    · have e1 : (e.er == 0) = false := beq_eq_false_iff_ne.2 e0
      have HE : Hid (C2 = C1) := by show _ = _; rw [← HC2.out, if_neg e0]
      clear e0
      go_wp2_with fail
      go_meet
      case rel => rw [HE.out]; exact HW.out
  case rest =>
  clear c0 c1 c2 c3 q5 qf HW
  have ⟨c0, c1, c2, c3⟩ := hcut.cells
  have q6 := hcut.bk.cellC (j := r * 9 + 6) (by omega)
  have qf := hcut.bk.frozenC
  have HW := Lib.hid hcut
  clear hcut
  go_upto_if 31 with fail
  go_cut [] from 12 (fun wx => DK w wx b0 base gB gC gW gM n m V { s with c := C } e)
  case first =>
    by_cases e0 : e.er = 110
    · have e1 : (e.er == 110) = true := beq_iff_eq.2 e0
      have HE : Hid (C = upd C2 (r * 9 + 6) (wrap64 (C2 (r * 9 + 6) + 1))) := by show _ = _; rw [← HC.out, if_pos e0]; rfl
      clear e0
      go_wp2_with fail
      go_meet
      case rel =>
        rw [HE.out]
        exact HW.out.setC h0.2.1 (by omega) (j := r * 9 + 6) (by omega) (wrap64 (C2 (r * 9 + 6) + 1)) rfl
    · have e1 : (e.er == 110) = false := beq_eq_false_iff_ne.2 e0
      have HE : Hid (C = C2) := by show _ = _; rw [← HC.out, if_neg e0]
      clear e0
      go_wp2_with fail
      go_meet
      case rel => rw [HE.out]; exact HW.out
  case rest =>
  clear c0 c1 c2 c3 q6 qf HW
  have ⟨c0, c1, c2, c3⟩ := hcut.cells
  have ⟨b0', b1', b2'⟩ := hcut.bk.cellB
  have hlook : ∀ q, (Instr.lookup 51 (.map (some gM)) (.int .i64 e.i) true).run Try.prog (wc.drewN q) = .ok (.tuple #[.int .i64 ((s.f e.i).getD 0), .bool (s.f e.i).isSome]) (wc.drewN q) := fun q => (hcut.bk.drewN q).mp.look HI.out
  have HW := Lib.hid hcut
  cases hfe : s.f e.i with
  | none =>
    rw [hfe] at hlook
    have hlook : ∀ q, (Instr.lookup 51 (.map (some gM)) (.int .i64 e.i) true).run Try.prog (wc.drewN q) = .ok (.tuple #[.int .i64 0, .bool false]) (wc.drewN q) := hlook
    have HF := Lib.hid (HSn.out hfe)
    clear hfe hcut
    go_wp2
    go_quiet (fail)
    go_wp2
    go_quiet (fail)
    go_wp2
    refine bodyPost_ret (resN _ _) rfl ?_
    rw [← HPP.out]
    exact ⟨rfl, ((HW.out.drewN _).drewN _).bel, V, by rw [HF.out]; exact ((HW.out.drewN _).drewN _).bk⟩
  | some t =>
    rw [hfe] at hlook
    have hlook : ∀ q, (Instr.lookup 51 (.map (some gM)) (.int .i64 e.i) true).run Try.prog (wc.drewN q) = .ok (.tuple #[.int .i64 t, .bool true]) (wc.drewN q) := hlook
    have HF := Lib.hid (HSs.out t hfe)
    obtain ⟨t1, t2⟩ := hf _ _ hfe
    obtain ⟨t3, t4⟩ := hfit
    clear hfe hcut
    go_wp2
    go_quiet (fail)
    go_wp2
    go_quiet (fail)
    go_upto_region 9 with fail
    refine wp_world (fun W => DK w W b0 base gB gC gW gM n m V { s with c := C } e) (by exact (HW.out.drewN _).drewN _) (fun W2 hW => ?_)
    clear c0 c1 c2 c3 b0' b1' b2' HW hlook
    have ⟨c0, c1, c2, c3⟩ := hW.cells
    have HW := Lib.hid hW
    clear hW
    obtain ⟨wv, hwv⟩ : ∃ wv, max (e.a - t) 0 = wv := ⟨_, rfl⟩
    rw [hwv] at HF
    have HX := Lib.hid hwv
    have hw0 : 0 ≤ wv ∧ wv ≤ 1099511627776 := by omega
    go_cut [7] from 12 (fun u wx => u = .int .i64 wv ∧ DK w wx b0 base gB gC gW gM n m V { s with c := C } e)
    case first =>
      clear hwv
      go_wp2_with fail
      all_goals
        go_meet
        case rel => exact ⟨by congr 1; have := HX.out; omega, HW.out⟩
    case rest =>
    obtain ⟨rfl, hW⟩ := hcut
    clear c0 c1 c2 c3 HW HX hwv
    have ⟨c0, c1, c2, c3⟩ := hW.cells
    have q7 := hW.bk.cellC (j := r * 9 + 7) (by omega)
    have qf := hW.bk.frozenC
    have HW := Lib.hid hW
    clear hW
    go_upto_region 11 with fail
    refine wp_world (fun W => DK w W b0 base gB gC gW gM n m V { s with c := inc C (r * 9 + 7) wv } e) (by
      exact HW.out.setC h0.2.1 (by omega) (j := r * 9 + 7) (by omega) (wrap64 (C (r * 9 + 7) + wv)) rfl) (fun W3 hW => ?_)
    clear c0 c1 c2 c3 q7 qf HW
    have ⟨c0, c1, c2, c3⟩ := hW.cells
    have q8 := hW.bk.cellC (j := r * 9 + 8) (by omega)
    have qf := hW.bk.frozenC
    have HW := Lib.hid hW
    clear hW
    have HC4 : Hid (waitC C (r * 9) wv = upd (inc C (r * 9 + 7) wv) (r * 9 + 8) (max (inc C (r * 9 + 7) wv (r * 9 + 8)) wv)) := rfl
    obtain ⟨C5, hC5⟩ : ∃ C5, inc C (r * 9 + 7) wv = C5 := ⟨_, rfl⟩
    rw [hC5] at HC4 HW
    simp only [hC5] at q8
    clear hC5
    obtain ⟨C6, hC6⟩ : ∃ C6, waitC C (r * 9) wv = C6 := ⟨_, rfl⟩
    rw [hC6] at HC4 HF
    clear hC6
    obtain ⟨z, hz⟩ : ∃ z, C5 (r * 9 + 8) = z := ⟨_, rfl⟩
    rw [hz] at q8 HC4
    clear hz
    go_cut [] from 12 (fun wx => DK w wx b0 base gB gC gW gM n m V { s with c := C6 } e)
    case first =>
      go_wp2_with fail
      all_goals
        go_meet
        case rel =>
          rw [HC4.out]
          exact HW.out.setC h0.2.1 (by omega) (j := r * 9 + 8) (by omega) (max z wv) (by congr 1; omega)
    case rest =>
    clear c0 c1 c2 c3 q8 qf HW HC4
    have ⟨c0, c1, c2, c3⟩ := hcut.cells
    have ⟨b0', b1', b2'⟩ := hcut.bk.cellB
    have cw := hcut.bk.cellW hrn
    have fw := hcut.bk.frozenW r
    have hown := hcut.bk.rw_ r hrn
    have hsz5 := hcut.bk.lt.2.2.2.2
    have hlw := hw r hrn
    have hvb := DK.own_ hcut hrn
    have HW := Lib.hid hcut
    clear hcut
    go_wp2
    have nB : ∀ b, b < base ∨ w.heap.size ≤ b → ¬ (V r).ownBlock = some b := fun b hb e => by have := hvb b e; omega
    have hbz := HD.out.bs
    have hgne : gB ≠ gW := HNE.out.2.2
    have HNB := Lib.hid nB
    clear nB hvb
    obtain ⟨U, hU⟩ : ∃ U : World → Value, ∀ w', U w' = (w'.cell? ⟨gW, r, none⟩).getD undef := ⟨_, fun _ => rfl⟩
    have HU : Hid (∀ w', (w'.cell? ⟨gW, r, none⟩).isSome = true → w'.cell? ⟨gW, r, none⟩ = some (U w')) := fun w' h => by rw [hU]; cases hc : w'.cell? ⟨gW, r, none⟩ with
      | none => rw [hc] at h; cases h
      | some v => rfl
    have hU0 : U wc.drew = V r := by rw [hU, show wc.drew.cell? ⟨gW, r, none⟩ = some (V r) from cw]; rfl
    have hU1 : U (wc.alloc (.cells #[.int .i64 wv] 2)).drew = V r := by rw [hU, far_d (g_refl_ _) (by simp) cw]; rfl
    clear hU
    refine wp_region_held_drew (S := (fun w' => w'.cell? ⟨gB, 1, none⟩ = some (.slice (some ⟨gW, 0, none⟩) n n) ∧ w'.cell? ⟨w.heap.size, 0, none⟩ = some (.int .i64 e.h) ∧ w'.cell? ⟨gW, r, none⟩ = some (U w') ∧ w'.frozen? ⟨gW, r, none⟩ = false)) (by kernel_rfl) ⟨b1', c0, HU.out _ (by exact Option.isSome_iff_exists.2 ⟨_, cw⟩), fw⟩ (fun hHeld => ?_)
    refine wpAnyH_take (i := 0) (oi := _) (v := ?_) rfl (by kernel_rfl) (by kernel_rfl) (by kernel_rfl) (fun _ _ _ h => h) (Or.inl ⟨by rfl, ?_⟩) (by assumption) ?_
    rotate_left
    focus (intro w' hSw; (try dsimp only at hSw); go_simp; try with_reducible rfl)
    (try simp only [Act.put, List.setIfInBounds_toArray, List.set_cons_zero, List.set_cons_succ, List.getElem_toArray, List.getElem_cons_succ, List.getElem_cons_zero])
    refine wpAnyH_take (i := 1) (oi := _) (v := ?_) rfl (by kernel_rfl) (by kernel_rfl) (by kernel_rfl) (fun _ _ _ h => h) (Or.inl ⟨by rfl, ?_⟩) (by assumption) ?_
    rotate_left
    focus (intro w' hSw; (try dsimp only at hSw); go_simp; try with_reducible rfl)
    (try simp only [Act.put, List.setIfInBounds_toArray, List.set_cons_zero, List.set_cons_succ, List.getElem_toArray, List.getElem_cons_succ, List.getElem_cons_zero])
    refine wpAnyH_take (i := 2) (oi := _) (v := ?_) rfl (by kernel_rfl) (by kernel_rfl) (by kernel_rfl) (fun _ _ _ h => h) (Or.inl ⟨by rfl, ?_⟩) (by assumption) ?_
    rotate_left
    focus (intro w' hSw; (try dsimp only at hSw); go_simp; try with_reducible rfl)
    (try simp only [Act.put, List.setIfInBounds_toArray, List.set_cons_zero, List.set_cons_succ, List.getElem_toArray, List.getElem_cons_succ, List.getElem_cons_zero])
    refine wpAnyH_take (i := 3) (oi := _) (v := ?_) rfl (by kernel_rfl) (by kernel_rfl) (by kernel_rfl) (fun _ _ _ h => h) (Or.inl ⟨by rfl, ?_⟩) (by assumption) ?_
    rotate_left
    focus (intro w' hSw; (try dsimp only at hSw); go_simp; try with_reducible rfl)
    (try simp only [Act.put, List.setIfInBounds_toArray, List.set_cons_zero, List.set_cons_succ, List.getElem_toArray, List.getElem_cons_succ, List.getElem_cons_zero])
    refine wpAnyH_take (i := 4) (oi := _) (v := ?_) rfl (by kernel_rfl) (by kernel_rfl) (by kernel_rfl) (fun _ _ _ h => h) (Or.inl ⟨by rfl, ?_⟩) (by assumption) ?_
    rotate_left
    focus (intro w' hSw; (try dsimp only at hSw); go_simp; try with_reducible rfl)
    (try simp only [Act.put, List.setIfInBounds_toArray, List.set_cons_zero, List.set_cons_succ, List.getElem_toArray, List.getElem_cons_succ, List.getElem_cons_zero])
    refine wpAnyH_take (i := 5) (oi := _) (v := ?_) rfl (by kernel_rfl) (by kernel_rfl) (by kernel_rfl) (fun _ _ _ h => h) (Or.inl ⟨by rfl, ?_⟩) (by assumption) ?_
    rotate_left
    focus (intro w' hSw; (try dsimp only at hSw); go_simp; try with_reducible rfl)
    (try simp only [Act.put, List.setIfInBounds_toArray, List.set_cons_zero, List.set_cons_succ, List.getElem_toArray, List.getElem_cons_succ, List.getElem_cons_zero])
    refine wpAnyH_take (i := 6) (oi := _) (v := ?_) rfl (by kernel_rfl) (by kernel_rfl) (by kernel_rfl) (fun _ _ _ h => h) (Or.inl ⟨by rfl, ?_⟩) (by assumption) ?_
    rotate_left
    focus (intro w' hSw; (try dsimp only at hSw); go_simp; try with_reducible rfl)
    (try simp only [Act.put, List.setIfInBounds_toArray, List.set_cons_zero, List.set_cons_succ, List.getElem_toArray, List.getElem_cons_succ, List.getElem_cons_zero])
    refine wpAnyH_take (i := 7) (oi := _) (v := ?_) rfl (by kernel_rfl) (by kernel_rfl) (by kernel_rfl) (fun _ _ _ h => h) (Or.inl ⟨by rfl, ?_⟩) (by assumption) ?_
    rotate_left
    focus (intro w' hSw; (try dsimp only at hSw); go_simp; try with_reducible rfl)
    (try simp only [Act.put, List.setIfInBounds_toArray, List.set_cons_zero, List.set_cons_succ, List.getElem_toArray, List.getElem_cons_succ, List.getElem_cons_zero])
    refine wpAnyH_take (i := 8) (oi := _) (v := ?_) rfl (by kernel_rfl) (by kernel_rfl) (by kernel_rfl) (fun _ _ _ h => h) (Or.inl ⟨by rfl, ?_⟩) (by assumption) ?_
    rotate_left
    focus (intro w' hSw; (try dsimp only at hSw); go_simp; try with_reducible rfl)
    (try simp only [Act.put, List.setIfInBounds_toArray, List.set_cons_zero, List.set_cons_succ, List.getElem_toArray, List.getElem_cons_succ, List.getElem_cons_zero])
    refine wpAnyH_take (i := 9) (oi := _) (v := ?_) rfl (by kernel_rfl) (by kernel_rfl) (by kernel_rfl) (fun _ _ _ h => h) (Or.inl ⟨by rfl, ?_⟩) (by assumption) ?_
    rotate_left
    focus (intro w' hSw; (try dsimp only at hSw); go_simp; try with_reducible rfl)
    (try simp only [Act.put, List.setIfInBounds_toArray, List.set_cons_zero, List.set_cons_succ, List.getElem_toArray, List.getElem_cons_succ, List.getElem_cons_zero])
    refine wpAnyH_take (i := 10) (oi := _) (v := ?_) rfl (by kernel_rfl) (by kernel_rfl) (by kernel_rfl) (fun _ _ _ h => h) (Or.inl ⟨by rfl, ?_⟩) (by assumption) ?_
    rotate_left
    focus (intro w' hSw; (try dsimp only at hSw); go_simp; try with_reducible rfl)
    (try simp only [Act.put, List.setIfInBounds_toArray, List.set_cons_zero, List.set_cons_succ, List.getElem_toArray, List.getElem_cons_succ, List.getElem_cons_zero])
    refine wpAnyH_take (i := 11) (oi := _) (v := ?_) rfl (by kernel_rfl) (by kernel_rfl) (by kernel_rfl) (fun _ _ _ h => h) (Or.inl ⟨by rfl, ?_⟩) (by assumption) ?_
    rotate_left
    focus (intro w' hSw; (try dsimp only at hSw); go_simp; try with_reducible rfl)
    (try simp only [Act.put, List.setIfInBounds_toArray, List.set_cons_zero, List.set_cons_succ, List.getElem_toArray, List.getElem_cons_succ, List.getElem_cons_zero])
    refine wpAnyH_take (i := 12) (oi := _) (v := ?_) rfl (by kernel_rfl) (by kernel_rfl) (by kernel_rfl) (fun _ _ _ h => h) (Or.inl ⟨by rfl, ?_⟩) (by assumption) ?_
    rotate_left
    focus (intro w' hSw; (try dsimp only at hSw); go_simp; try with_reducible rfl)
    (try simp only [Act.put, List.setIfInBounds_toArray, List.set_cons_zero, List.set_cons_succ, List.getElem_toArray, List.getElem_cons_succ, List.getElem_cons_zero])
    refine wpAnyH_take (i := 14) (oi := _) (v := ?_) rfl (by kernel_rfl) (by kernel_rfl) (by kernel_rfl) (fun _ _ _ h => h) (Or.inl ⟨by rfl, ?_⟩) (by assumption) ?_
    rotate_left
    focus (intro w' hSw; (try dsimp only at hSw); go_simp; try with_reducible rfl)
    (try simp only [Act.put, List.setIfInBounds_toArray, List.set_cons_zero, List.set_cons_succ, List.getElem_toArray, List.getElem_cons_succ, List.getElem_cons_zero])
    refine wpAnyH_ready (rs := [13, 15]) (by kernel_rfl) (by simp) ?_
    refine AllReadyH.cons (o := _) rfl (fun K hK => ?_) ?_
    · go_simp
      refine hK.out _ _ ⟨b1', c0, HU.out _ (by exact Option.isSome_iff_exists.2 ⟨_, cw⟩), fw⟩ (fun hHeld => ?_)
      clear hK K
      (try simp only [Act.put, List.setIfInBounds_toArray, List.set_cons_zero, List.set_cons_succ, List.getElem_toArray, List.getElem_cons_succ, List.getElem_cons_zero])
      refine wpAnyH_ready (rs := [15]) (by kernel_rfl) (by simp) ?_
      refine AllReadyH.cons (o := _) rfl (fun K hK => ?_) AllReadyH.nil
      go_simp
      refine hK.out _ _ ⟨far_d (g_refl_ _) (by simp) b1', far_d (g_refl_ _) (by simp) c0, HU.out _ (Option.isSome_iff_exists.2 ⟨_, far_d (g_refl_ _) (by simp) cw⟩), (far_f (g_refl_ _) (by simp) (by omega)).trans fw⟩ (fun hHeld => ?_)
      clear hK K
      (try simp only [Act.put, List.setIfInBounds_toArray, List.set_cons_zero, List.set_cons_succ, List.getElem_toArray, List.getElem_cons_succ, List.getElem_cons_zero])
      refine wpAnyH_ready (rs := [16]) (by kernel_rfl) (by simp) ?_
      refine AllReadyH.cons (o := _) rfl (fun K hK => ?_) AllReadyH.nil
      ((refine step_append_lies _ (by rfl) _ _ _ (by rfl) base 2 i0 (.int .i64 0) 1 8 Try.underlying32 hi0 hz0 hz1 hz2 rfl (by decide) (V r) (s.w r).length ((s.w r).map (Value.int .i64)) (by rfl) (by exact hown.alloc _) ⟨wc.heap.size, 0, none⟩ 1 1 [.int .i64 wv] (by rfl) rfl (by exact news_cells _ [.int .i64 wv] _) (by simp [Value.oneCell']) (by decide) (by unfold maxLen; omega) (by omega) (by simp; omega) (wc.heap.size + 1) (by simp) ?_); intro g2 cap2 w1 hown' hgrow hat hlt2)
      refine hK.out _ _ ⟨far_d hgrow (HNB.out _ (by omega)) b1', far_d hgrow (HNB.out _ (by omega)) c0, HU.out _ (Option.isSome_iff_exists.2 ⟨_, far_d hgrow (HNB.out _ (by omega)) cw⟩), (far_f hgrow (HNB.out _ (by omega)) (by omega)).trans fw⟩ (fun hHeld => ?_)
      clear hK K
      (try simp only [Act.put, List.setIfInBounds_toArray, List.set_cons_zero, List.set_cons_succ, List.getElem_toArray, List.getElem_cons_succ, List.getElem_cons_zero])
      refine wpAnyH_take (i := 17) (oi := _) (v := ?_) rfl (by kernel_rfl) (by kernel_rfl) (by kernel_rfl) (fun _ _ _ h => h) (Or.inl ⟨by rfl, ?_⟩) (by assumption) ?_
      rotate_left
      focus (intro w' hSw; (try dsimp only at hSw); go_simp; try with_reducible rfl)
      (try simp only [Act.put, List.setIfInBounds_toArray, List.set_cons_zero, List.set_cons_succ, List.getElem_toArray, List.getElem_cons_succ, List.getElem_cons_zero])
      refine wpAnyH_ready (rs := [18]) (by kernel_rfl) (by simp) ?_
      refine AllReadyH.cons (o := _) rfl (fun K hK => ?_) AllReadyH.nil
      go_simp
      refine hK.out _ _ ⟨far_s (by omega) (far_d hgrow (HNB.out _ (by omega)) b1'), far_s (by omega) (far_d hgrow (HNB.out _ (by omega)) c0), HU.out _ (Option.isSome_iff_exists.2 ⟨_, World.cell?_setCell_same _ _ _ (far_d hgrow (HNB.out _ (by omega)) cw)⟩), by rw [frozen_set]; exact (far_f hgrow (HNB.out _ (by omega)) (by omega)).trans fw⟩ (fun hHeld => ?_)
      clear hK K
      (try simp only [Act.put, List.setIfInBounds_toArray, List.set_cons_zero, List.set_cons_succ, List.getElem_toArray, List.getElem_cons_succ, List.getElem_cons_zero])
      refine wpAnyH_done (by kernel_rfl) ?_ _
      go_wp2
      refine bodyPost_ret (resN _ _) rfl ?_
      rw [← HPP.out, HF.out]
      exact done_end HW.out hrn h0 (by have := HNE.out; omega) hgrow hown' hat
    refine AllReadyH.cons (o := _) rfl (fun K hK => ?_) AllReadyH.nil
    go_simp
    refine hK.out _ _ ⟨far_d (g_refl_ _) (by simp) b1', far_d (g_refl_ _) (by simp) c0, HU.out _ (Option.isSome_iff_exists.2 ⟨_, far_d (g_refl_ _) (by simp) cw⟩), (far_f (g_refl_ _) (by simp) (by omega)).trans fw⟩ (fun hHeld => ?_)
    clear hK K
    (try simp only [Act.put, List.setIfInBounds_toArray, List.set_cons_zero, List.set_cons_succ, List.getElem_toArray, List.getElem_cons_succ, List.getElem_cons_zero])
    refine wpAnyH_ready (rs := [13]) (by kernel_rfl) (by simp) ?_
    refine AllReadyH.cons (o := _) rfl (fun K hK => ?_) AllReadyH.nil
    go_simp
    refine hK.out _ _ ⟨far_d (g_refl_ _) (by simp) b1', far_d (g_refl_ _) (by simp) c0, HU.out _ (Option.isSome_iff_exists.2 ⟨_, far_d (g_refl_ _) (by simp) cw⟩), (far_f (g_refl_ _) (by simp) (by omega)).trans fw⟩ (fun hHeld => ?_)
    clear hK K
    (try simp only [Act.put, List.setIfInBounds_toArray, List.set_cons_zero, List.set_cons_succ, List.getElem_toArray, List.getElem_cons_succ, List.getElem_cons_zero])
    refine wpAnyH_ready (rs := [16]) (by kernel_rfl) (by simp) ?_
    refine AllReadyH.cons (o := _) rfl (fun K hK => ?_) AllReadyH.nil
    ((refine step_append_lies _ (by rfl) _ _ _ (by rfl) base 2 i0 (.int .i64 0) 1 8 Try.underlying32 hi0 hz0 hz1 hz2 rfl (by decide) (V r) (s.w r).length ((s.w r).map (Value.int .i64)) (by rfl) (by exact hown.alloc _) ⟨wc.heap.size, 0, none⟩ 1 1 [.int .i64 wv] (by rfl) rfl (by exact news_cells _ [.int .i64 wv] _) (by simp [Value.oneCell']) (by decide) (by unfold maxLen; omega) (by omega) (by simp; omega) (wc.heap.size + 1) (by simp) ?_); intro g2 cap2 w1 hown' hgrow hat hlt2)
    refine hK.out _ _ ⟨far_d hgrow (HNB.out _ (by omega)) b1', far_d hgrow (HNB.out _ (by omega)) c0, HU.out _ (Option.isSome_iff_exists.2 ⟨_, far_d hgrow (HNB.out _ (by omega)) cw⟩), (far_f hgrow (HNB.out _ (by omega)) (by omega)).trans fw⟩ (fun hHeld => ?_)
    clear hK K
    (try simp only [Act.put, List.setIfInBounds_toArray, List.set_cons_zero, List.set_cons_succ, List.getElem_toArray, List.getElem_cons_succ, List.getElem_cons_zero])
    refine wpAnyH_take (i := 17) (oi := _) (v := ?_) rfl (by kernel_rfl) (by kernel_rfl) (by kernel_rfl) (fun _ _ _ h => h) (Or.inl ⟨by rfl, ?_⟩) (by assumption) ?_
    rotate_left
    focus (intro w' hSw; (try dsimp only at hSw); go_simp; try with_reducible rfl)
    (try simp only [Act.put, List.setIfInBounds_toArray, List.set_cons_zero, List.set_cons_succ, List.getElem_toArray, List.getElem_cons_succ, List.getElem_cons_zero])
    refine wpAnyH_ready (rs := [18]) (by kernel_rfl) (by simp) ?_
    refine AllReadyH.cons (o := _) rfl (fun K hK => ?_) AllReadyH.nil
    go_simp
    refine hK.out _ _ ⟨far_s (by omega) (far_d hgrow (HNB.out _ (by omega)) b1'), far_s (by omega) (far_d hgrow (HNB.out _ (by omega)) c0), HU.out _ (Option.isSome_iff_exists.2 ⟨_, World.cell?_setCell_same _ _ _ (far_d hgrow (HNB.out _ (by omega)) cw)⟩), by rw [frozen_set]; exact (far_f hgrow (HNB.out _ (by omega)) (by omega)).trans fw⟩ (fun hHeld => ?_)
    clear hK K
    (try simp only [Act.put, List.setIfInBounds_toArray, List.set_cons_zero, List.set_cons_succ, List.getElem_toArray, List.getElem_cons_succ, List.getElem_cons_zero])
    refine wpAnyH_done (by kernel_rfl) ?_ _
    go_wp2
    refine bodyPost_ret (resN _ _) rfl ?_
    rw [← HPP.out, HF.out]
    exact done_end HW.out hrn h0 (by have := HNE.out; omega) hgrow hown' hat
end Go.Proofs.Ytejehjlegfpgbaa
