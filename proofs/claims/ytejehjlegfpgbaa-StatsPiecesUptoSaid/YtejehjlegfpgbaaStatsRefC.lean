/- STATS: the reference's one. -/
import Derived.Test.YtejehjlegfpgbaaStatsRefB
namespace Go.Proofs.Ytejehjlegfpgbaa
open Go Go.RowKit Go.Maps

theorem resRO {W : World} {B : Nat} {cs : Array Value} (h : W.heap[B]? = some (.cells cs 30 (0, 0))) (hs : cs.size = 9) (tmps : Array Value) (h2 : tmps.getD 4 undef = .pointer (some ⟨B, 0, none⟩)) :
    (results Try.f21 tmps).run Try.prog W = .ok (.agg cs) W := by
  have h2' : tmps[4]?.getD undef = .pointer (some ⟨B, 0, none⟩) := by simpa using h2
  have hl := run_loadVar_row (P := Try.prog) W B 30 30 cs (0, 0) _ h Try.underlying30 rfl (by rw [hs]; kernel_rfl)
  simp [results, Try.results21, h2', asAddr, hl]
theorem heap1 (w : World) (B : Obj) (cs : Array Value) (t : TypeId) : ((w.alloc (.cells cs t)).alloc B).heap[w.heap.size]? = some (.cells cs t (0, 0)) := by
  rw [Below.heap_alloc _ B _ (by simp)]; exact heap_alloc_new _ _
theorem below2 (w : World) (A B : Obj) : Below w.heap.size w ((w.alloc A).alloc B) := ((Below.refl _ _).alloc (Nat.le_refl _) _).alloc (by simp) _
theorem heap1d (w : World) (B : Obj) (cs : Array Value) (t : TypeId) (q : Nat) : (((w.alloc (.cells cs t)).alloc B).drewN q).heap[w.heap.size]? = some (.cells cs t (0, 0)) := heap1 w B cs t
theorem heap1s (w : World) (B : Obj) (cs : Array Value) (t : TypeId) (q i j : Nat) (u v : Value) : (((((w.alloc (.cells cs t)).alloc B).drewN q).setCell ⟨w.heap.size + 1, i, none⟩ u).setCell ⟨w.heap.size + 1, j, none⟩ v).heap[w.heap.size]? = some (.cells cs t (0, 0)) := by
  rw [Below.heap_setCell _ _ _ _ (by simp), Below.heap_setCell _ _ _ _ (by simp)]
  exact heap1 w B cs t
theorem below2s (w : World) (A B : Obj) (q i j : Nat) (u v : Value) : Below w.heap.size w (((((w.alloc A).alloc B).drewN q).setCell ⟨w.heap.size + 1, i, none⟩ u).setCell ⟨w.heap.size + 1, j, none⟩ v) :=
  ((below_drewN (below2 w A B) q).setCell (p := ⟨w.heap.size + 1, i, none⟩) (by simp) u).setCell (p := ⟨w.heap.size + 1, j, none⟩) (by simp) v
def nine0 : Array Value := #[.int .i64 0, .int .i64 0, .int .i64 0, .int .i64 0, .int .i64 0, .int .i64 0, .int .i64 0, .int .i64 0, .int .i64 0]
theorem set9 {W0 : World} {B : Nat} {t : TypeId} (h : W0.heap[B]? = some (.cells nine0 t (0, 0))) (a0 a1 a2 a3 a4 a5 a6 a7 a8 : Value) :
    (((((((((W0.setCell ⟨B, 0, none⟩ a0).setCell ⟨B, 1, none⟩ a1).setCell ⟨B, 2, none⟩ a2).setCell ⟨B, 3, none⟩ a3).setCell ⟨B, 4, none⟩ a4).setCell ⟨B, 5, none⟩ a5).setCell ⟨B, 6, none⟩ a6).setCell ⟨B, 7, none⟩ a7).setCell ⟨B, 8, none⟩ a8).heap[B]? = some (.cells #[a0, a1, a2, a3, a4, a5, a6, a7, a8] t (0, 0)) := by
  have h0 := heap_setCell_same _ B 0 _ _ a0 h
  have h1 := heap_setCell_same _ B 1 _ _ a1 h0
  have h2 := heap_setCell_same _ B 2 _ _ a2 h1
  have h3 := heap_setCell_same _ B 3 _ _ a3 h2
  have h4 := heap_setCell_same _ B 4 _ _ a4 h3
  have h5 := heap_setCell_same _ B 5 _ _ a5 h4
  have h6 := heap_setCell_same _ B 6 _ _ a6 h5
  have h7 := heap_setCell_same _ B 7 _ _ a7 h6
  have h8 := heap_setCell_same _ B 8 _ _ a8 h7
  simp only [nine0, List.setIfInBounds_toArray, List.set_cons_zero, List.set_cons_succ] at h8
  exact h8
theorem bel9 {w W0 : World} {B n : Nat} (hb : Below n w W0) (hB : n ≤ B) (a0 a1 a2 a3 a4 a5 a6 a7 a8 : Value) : Below n w (((((((((W0.setCell ⟨B, 0, none⟩ a0).setCell ⟨B, 1, none⟩ a1).setCell ⟨B, 2, none⟩ a2).setCell ⟨B, 3, none⟩ a3).setCell ⟨B, 4, none⟩ a4).setCell ⟨B, 5, none⟩ a5).setCell ⟨B, 6, none⟩ a6).setCell ⟨B, 7, none⟩ a7).setCell ⟨B, 8, none⟩ a8) := by
  have b := fun {W1 : World} (hb : Below n w W1) (i : Nat) (u : Value) => hb.setCell (p := ⟨B, i, none⟩) hB u
  exact b (b (b (b (b (b (b (b (b hb 0 a0) 1 a1) 2 a2) 3 a3) 4 a4) 5 a5) 6 a6) 7 a7) 8 a8
theorem ret_c9 {a : Array Value} {c : Nat → Int} (h : a = c9 c) : Ending.returned (.agg a) = .returned (.agg (c9 c)) := by rw [h]
theorem below_dr {w W : World} (h : Below w.heap.size w W) (q : Nat) : Below w.heap.size w (W.drewN q) := below_drewN h q
set_option maxRecDepth 100000 in
set_option maxHeartbeats 3000000 in
theorem one_any {w : World} (l : List Ev) {v : Value} (hV : Evs w v l) (hl : l.length ≤ 1048576) (hfit : FitL l) (k : Nat) (e : Ev) (he : l[k]? = some e) :
    Calls Try.prog 21 #[v, .int .i64 (k : Nat)] w (AggPost w (oneC e (waitR l k e))) := by
  obtain ⟨hlt, _⟩ := List.getElem?_eq_some_iff.1 he
  have HW : Hid (∀ W, Below w.heap.size w W → Calls Try.prog 23 #[v, .int .i64 (k : Nat)] W (WaitPost W (waitR l k e))) := fun W hb => wait_any l (hV.below hb) hl hfit k e he
  obtain ⟨b, o, cap, rfl, hbl, hcells⟩ := hV.all15 (by omega)
  obtain ⟨e0, -, -, -, -, e5, -⟩ := hcells k e he
  obtain ⟨PP, hPP⟩ : ∃ PP, AggPost w (oneC e (waitR l k e)) = PP := ⟨_, rfl⟩
  rw [hPP]
  have HPP := Lib.hid hPP
  have g2 : (k : Int) < (l.length : Int) := by omega
  generalize waitR l k e = wt at *
  have hk : e.k = 3 ∨ e.k = 4 ∨ e.k = 5 ∨ e.k = 6 ∨ e.k = 7 ∨ (¬ e.k = 3 ∧ ¬ e.k = 4 ∧ ¬ e.k = 5 ∧ ¬ e.k = 6 ∧ ¬ e.k = 7) := by omega
  clear hV hcells hfit he hPP
  rcases hk with hk | hk | hk | hk | hk | hk
  case inr.inr.inr.inr.inr =>
    have b3 : (e.k == 3) = false := beq_eq_false_iff_ne.2 hk.1
    have b4 : (e.k == 4) = false := beq_eq_false_iff_ne.2 hk.2.1
    have b5 : (e.k == 5) = false := beq_eq_false_iff_ne.2 hk.2.2.1
    have b6 : (e.k == 6) = false := beq_eq_false_iff_ne.2 hk.2.2.2.1
    have b7 : (e.k == 7) = false := beq_eq_false_iff_ne.2 hk.2.2.2.2
    have HO : Hid (oneC e wt = fun _ => 0) := by
      funext j
      unfold oneC
      obtain ⟨h3, h4, h5, h6, h7⟩ := hk
      rw [if_neg h7]
      by_cases hj : j < 4
      · rw [if_pos hj, if_neg (by omega)]
      · rw [if_neg hj]
    clear hk
    go_enter Try.func21, Try.ntmps21
    go_wp2
    refine bodyPost_ret (resRO (heap1 _ _ _ _) rfl _ rfl) rfl ?_
    rw [← HPP.out, HO.out]
    exact ⟨rfl, below2 _ _ _⟩
  · have b3 : (e.k == 3) = true := beq_iff_eq.2 hk
    have HO : Hid (oneC e wt = fun i => if i = 0 then 1 else 0) := by
      funext i
      unfold oneC
      rw [if_neg (by omega : ¬ e.k = 7)]
      by_cases h4 : i < 4
      · rw [if_pos h4]
        by_cases hi : i = 0
        · rw [if_pos hi, if_pos (by omega)]
        · rw [if_neg hi, if_neg (by omega)]
      · rw [if_neg h4, if_neg (by omega)]
    clear hk
    go_enter Try.func21, Try.ntmps21
    go_wp2
    refine bodyPost_ret (resRO (heap1 _ _ _ _) rfl _ rfl) rfl ?_
    rw [← HPP.out, HO.out]
    exact ⟨rfl, below2 _ _ _⟩
  · have b3 : (e.k == 3) = false := beq_eq_false_iff_ne.2 (by omega)
    have b4 : (e.k == 4) = true := beq_iff_eq.2 hk
    have HO : Hid (oneC e wt = fun i => if i = 1 then 1 else 0) := by
      funext i
      unfold oneC
      rw [if_neg (by omega : ¬ e.k = 7)]
      by_cases h4 : i < 4
      · rw [if_pos h4]
        by_cases hi : i = 1
        · rw [if_pos hi, if_pos (by omega)]
        · rw [if_neg hi, if_neg (by omega)]
      · rw [if_neg h4, if_neg (by omega)]
    clear hk
    go_enter Try.func21, Try.ntmps21
    go_wp2
    refine bodyPost_ret (resRO (heap1 _ _ _ _) rfl _ rfl) rfl ?_
    rw [← HPP.out, HO.out]
    exact ⟨rfl, below2 _ _ _⟩
  · have b3 : (e.k == 3) = false := beq_eq_false_iff_ne.2 (by omega)
    have b4 : (e.k == 4) = false := beq_eq_false_iff_ne.2 (by omega)
    have b5 : (e.k == 5) = true := beq_iff_eq.2 hk
    have HO : Hid (oneC e wt = fun i => if i = 2 then 1 else 0) := by
      funext i
      unfold oneC
      rw [if_neg (by omega : ¬ e.k = 7)]
      by_cases h4 : i < 4
      · rw [if_pos h4]
        by_cases hi : i = 2
        · rw [if_pos hi, if_pos (by omega)]
        · rw [if_neg hi, if_neg (by omega)]
      · rw [if_neg h4, if_neg (by omega)]
    clear hk
    go_enter Try.func21, Try.ntmps21
    go_wp2
    refine bodyPost_ret (resRO (heap1 _ _ _ _) rfl _ rfl) rfl ?_
    rw [← HPP.out, HO.out]
    exact ⟨rfl, below2 _ _ _⟩
  · have b3 : (e.k == 3) = false := beq_eq_false_iff_ne.2 (by omega)
    have b4 : (e.k == 4) = false := beq_eq_false_iff_ne.2 (by omega)
    have b5 : (e.k == 5) = false := beq_eq_false_iff_ne.2 (by omega)
    have b6 : (e.k == 6) = true := beq_iff_eq.2 hk
    have HO : Hid (oneC e wt = fun i => if i = 3 then 1 else 0) := by
      funext i
      unfold oneC
      rw [if_neg (by omega : ¬ e.k = 7)]
      by_cases h4 : i < 4
      · rw [if_pos h4]
        by_cases hi : i = 3
        · rw [if_pos hi, if_pos (by omega)]
        · rw [if_neg hi, if_neg (by omega)]
      · rw [if_neg h4, if_neg (by omega)]
    clear hk
    go_enter Try.func21, Try.ntmps21
    go_wp2
    refine bodyPost_ret (resRO (heap1 _ _ _ _) rfl _ rfl) rfl ?_
    rw [← HPP.out, HO.out]
    exact ⟨rfl, below2 _ _ _⟩
  · have b3 : (e.k == 3) = false := beq_eq_false_iff_ne.2 (by omega)
    have b4 : (e.k == 4) = false := beq_eq_false_iff_ne.2 (by omega)
    have b5 : (e.k == 5) = false := beq_eq_false_iff_ne.2 (by omega)
    have b6 : (e.k == 6) = false := beq_eq_false_iff_ne.2 (by omega)
    have b7 : (e.k == 7) = true := beq_iff_eq.2 hk
    have HK := Lib.hid hk
    clear hk
    have he : (e.er == 0) = true ∧ (e.er == 110) = false ∨ (e.er == 0) = false ∧ (e.er == 110) = true ∨ (e.er == 0) = false ∧ (e.er == 110) = false := by
      simp only [beq_eq_false_iff_ne, ne_eq, beq_iff_eq]; omega
    rcases he with ⟨f1, f2⟩ | ⟨f1, f2⟩ | ⟨f1, f2⟩
    all_goals
      have HO : Hid (oneC e wt = fun i => if i < 4 then 0 else if i = 4 then 1 else if i = 5 then if (e.er == 0) = true then 1 else 0 else if i = 6 then if (e.er == 110) = true then 1 else 0 else wt.getD 0) := by
        funext i
        unfold oneC
        rw [if_pos HK.out]
        have := HK.out
        by_cases h4 : i < 4
        · rw [if_pos h4, if_pos h4, if_neg (by omega)]
        · rw [if_neg h4, if_neg h4]
          simp only [beq_iff_eq]
      rw [f1, f2] at HO
      go_enter Try.func21, Try.ntmps21
      go_wp2_with fail
      refine (HW.out _ (by exact below2 _ _ _)).mono ?_
      rintro r' W' ⟨rfl, q, rfl⟩
      cases wt with
      | none =>
        go_wp2
        refine bodyPost_ret (resRO (set9 (by exact heap1d _ _ _ _ _) _ _ _ _ _ _ _ _ _) rfl _ rfl) rfl ?_
        rw [← HPP.out, HO.out]
        exact ⟨rfl, bel9 (by exact below_drewN (below2 _ _ _) _) (Nat.le_refl _) _ _ _ _ _ _ _ _ _⟩
      | some t =>
        go_wp2
        refine bodyPost_ret (resRO (set9 (by exact heap1s _ _ _ _ _ _ _ _ _) _ _ _ _ _ _ _ _ _) rfl _ rfl) rfl ?_
        rw [← HPP.out, HO.out]
        exact ⟨rfl, bel9 (by exact below2s _ _ _ _ _ _ _ _) (Nat.le_refl _) _ _ _ _ _ _ _ _ _⟩
end Go.Proofs.Ytejehjlegfpgbaa
