/- the law ScanBetween, walked. -/
import Derived.Test.YtmbejmhnoeoohaaDoorScanGap
import Derived.Test.YtmbejmhnoeoohaaDoorScanAwake
namespace Go.Proofs.YtmbejmhnoeoohaaDoor
open Go Go.RowKit

theorem Tks.cellsAt {w : World} {v : Value} {ts : List Tok} (h : Tks w v ts) (hn : 0 < ts.length) : ∃ b o cap, v = .slice (some ⟨b, o, none⟩) ts.length cap ∧ b < w.heap.size ∧
    ∀ k t, ts[k]? = some t → w.cell? ⟨b, o + k * 5, none⟩ = some (.int .i64 (t.kind : Nat)) ∧ w.cell? ⟨b, o + k * 5 + 1, none⟩ = some (.int .i64 (t.pos : Nat)) ∧ w.cell? ⟨b, o + k * 5 + 2, none⟩ = some (.int .i64 (t.stop : Nat)) ∧ w.cell? ⟨b, o + k * 5 + 3, none⟩ = some (.int .u64 (t.num : Nat)) ∧ w.cell? ⟨b, o + k * 5 + 4, none⟩ = some (.string (ba t.text)) := by
  obtain ⟨p, cap, rfl, _, _, hc⟩ := h
  obtain ⟨b, o, rfl, hd⟩ := hc hn
  have h0 := hd 0 (ts[0]'hn) (List.getElem?_eq_getElem hn) 0 _ rfl
  refine ⟨b, o, cap, rfl, World.block_lt_of_cell? w _ h0, fun k t ht => ?_⟩
  have := hd k t ht
  simp only [← Nat.add_assoc] at this
  exact ⟨this 0 _ rfl, this 1 _ rfl, this 2 _ rfl, this 3 _ rfl, this 4 _ rfl⟩

set_option maxRecDepth 100000 in
set_option maxHeartbeats 4000000 in
theorem scanBetween_any (p : Option Addr) (n cap : Nat) (l : List UInt8) (w : World) (hVp : Bs w (.slice p n cap) l ∧ (p = none → cap = 0)) (hl : l.length ≤ 1048576) (hE : Env w) :
    Calls Tryd.prog 5 #[.slice p n cap] w fun e w' => e = .returned (.bool true) ∧ Below w.heap.size w w' := by
  obtain ⟨hV, hp⟩ := hVp
  have HE := Lib.hid hE
  have HV := Lib.hid hV
  obtain ⟨rfl, hc1, hc2⟩ := hV.len
  clear hp
  cases hG : scanS l with
  | bad q k =>
    obtain ⟨hk, hq⟩ := scanS_bad hG
    have hq' : (q : Int) ≤ (l.length : Int) := by omega
    have hs1 := scan_any _ l w hE hV (by omega)
    rw [hG] at hs1
    have CS1 := Lib.hid hs1
    clear hs1
    clear hG hE hV
    have hk' : ((k : Int) == 0) = false := beq_eq_false_iff_ne.2 (by omega)
    go_enter Tryd.func5, Tryd.ntmps5
    go_wp2_with fail
    refine CS1.out.mono ?_
    rintro e w1 ⟨hb1, he⟩
    have he' : e = .returned (.tuple #[.slice none 0 0, .agg #[.int .i64 (q : Nat), .int .i64 (k : Nat)]]) := he
    subst he'
    have HB1 : Hid (∀ o : Obj, Below w.heap.size w (w1.alloc o)) := fun o => hb1.alloc hb1.size _
    clear hb1 he
    go_wp2_with fail
    refine (awake_any _ (HE.out.below (HB1.out _))).mono ?_
    rintro e w3 ⟨rfl, hb3⟩
    go_wp2
    go_ret
    exact ⟨rfl, (HB1.out _).trans (hb3.mono (HB1.out _).size)⟩
  | toks ts =>
    obtain ⟨hl2, hS⟩ := scanS_toks hG
    have HT : Hid (∀ k a t, Bt l ts k a → ts[k]? = some t → a ≤ t.pos ∧ t.pos < t.stop ∧ t.stop ≤ l.length ∧ scanS ((l.drop a).take (t.pos - a)) = .toks [] ∧ Bt l ts (k + 1) t.stop) := fun k a t h1 h2 => bt_tok h1 hl2 h2
    have HD : Hid (∀ a, Bt l ts ts.length a → a ≤ l.length ∧ scanS ((l.drop a).take (l.length - a)) = .toks []) := fun a h => bt_end h hl2
    have HS := Lib.hid (bt_start hS)
    have hs1 := scan_any _ l w hE hV (by omega)
    rw [hG] at hs1
    have CS1 := Lib.hid hs1
    clear hs1
    have hcount := scanF_count _ _ _ _ _ hS
    clear hG hE hV hS
    go_enter Tryd.func5, Tryd.ntmps5
    go_wp2_with fail
    refine CS1.out.mono ?_
    rintro e w1 ⟨hb1, v1, rfl, hT1⟩
    have HT1 := Lib.hid hT1
    obtain ⟨p1, cap1, rfl, hcap, hm, -⟩ := hT1
    have HB1 : Hid (∀ o : Obj, Below w.heap.size w (w1.alloc o)) := fun o => hb1.alloc hb1.size _
    have HB2 : Hid (∀ o : Obj, Below w1.heap.size w1 (w1.alloc o)) := fun o => (Below.refl _ _).alloc (Nat.le_refl _) _
    have hz := hb1.size
    have HBw := Lib.hid hb1
    clear hb1
    go_wp2
    go_loopw [5, 6, 7, 8, 9] (fun a i _ _ _ wr => ∃ k at_ : Nat, i = .int .i64 (k : Nat) ∧ a = .int .i64 (at_ : Nat) ∧ k ≤ ts.length + 1 ∧ (k ≤ ts.length → Bt l ts k at_) ∧ Below w1.heap.size w1 wr) (fun _ i _ _ _ _ => ts.length + 1 - (intOf i).toNat)
    case atStart => exact ⟨0, 0, rfl, rfl, by omega, fun _ => HS.out, HB2.out _⟩
    case round =>
      obtain ⟨k, at_, rfl, rfl, hk, hbt, hbw⟩ := hrel
      have HVw : Hid (∀ w', Below w1.heap.size w1 w' → Env w' ∧ Bs w' (.slice p l.length cap) l ∧ Below w.heap.size w w') := fun w' h => by
        have hb : Below w.heap.size w w' := HBw.out.trans (h.mono hz)
        exact ⟨HE.out.below hb, HV.out.below hb, hb⟩
      by_cases hk1 : k ≤ ts.length
      · have HBt := Lib.hid (hbt hk1)
        clear hbt
        by_cases hk2 : k < ts.length
        · obtain ⟨t, ht⟩ : ∃ t, ts[k]? = some t := ⟨_, List.getElem?_eq_getElem hk2⟩
          obtain ⟨f1, f2, f3, f4, f5⟩ := HT.out k at_ t HBt.out ht
          have HF5 := Lib.hid f5
          obtain ⟨b, o, cap2, e1, hbl, hcells⟩ := (HT1.out.below hbw).cellsAt (by omega)
          injection e1 with e1 e2 e3
          subst e1; subst e3
          obtain ⟨-, d1, d2, -, -⟩ := hcells k t ht
          obtain ⟨q, cq, hrun, hB2⟩ := (HVw.out wr hbw).2.1.window (i := at_) (j := t.pos) f1 (by omega)
          have CS2 : Hid (∀ w', Below wr.heap.size wr w' → Calls Tryd.prog 9 #[.slice q (t.pos - at_) cq] w' (ScanPost w' (.toks []))) := fun w' h => by
            have h2 := scan_any _ _ w' (HVw.out w' (hbw.trans (h.mono hbw.size))).1 (hB2.below h) (by rw [List.length_take, List.length_drop]; omega)
            rw [f4] at h2; exact h2
          have g1 : ¬ (t.stop : Int) ≤ (t.pos : Int) := by omega
          have g2 : ¬ (l.length : Int) < (t.stop : Int) := by omega
          have g3 : ¬ (t.pos : Int) < (at_ : Int) := by omega
          have g4 : (k : Int) < (ts.length : Int) := by omega
          have g5 : (k : Int) ≤ (ts.length : Int) := by omega
          have hbx : Below w1.heap.size w1 wr := hbw
          clear hcells hB2 f4 f5
          generalize t.pos = P at *
          generalize t.stop = S at *
          go_wp2
          go_quiet (fail)
          go_wp2_with fail
          refine (CS2.out _ (by exact below_drewN (Below.refl _ _) _)).mono ?_
          rintro e w3 ⟨hb3, v3, rfl, hT3⟩
          obtain ⟨p3, cap3, rfl, -, -, -⟩ := hT3
          have d3 : w3.cell? ⟨b, o + k * 5 + 2, none⟩ = some (.int .i64 (S : Nat)) := (hb3.cell (p := ⟨b, o + k * 5 + 2, none⟩) (by exact hbl)).trans d2
          have hb4 : Below wr.heap.size wr w3 := (below_drewN (Below.refl wr.heap.size wr) _).trans (by exact hb3)
          have HW3 : Hid (∀ o : Obj, Below w1.heap.size w1 (w3.alloc o)) := fun o => (hbx.trans (hb4.mono hbx.size)).alloc (Nat.le_trans hbx.size hb4.size) _
          have hz3 : wr.heap.size ≤ w3.heap.size := by exact hb3.size
          have hz4 : b < w3.heap.size := by omega
          clear hb3 hb4 hrun CS2 d1 d2 hbw HBw HVw
          go_wp2
          go_roundw
          case rel => exact ⟨k + 1, S, by go_num, rfl, by omega, fun _ => HF5.out, HW3.out _⟩
          case measure => simp [intOf]; omega
        · obtain rfl : k = ts.length := by omega
          obtain ⟨f1, f4⟩ := HD.out at_ HBt.out
          obtain ⟨q, cq, hrun, hB2⟩ := (HVw.out wr hbw).2.1.window (i := at_) (j := l.length) f1 (Nat.le_refl _)
          have CS2 : Hid (∀ w', Below wr.heap.size wr w' → Calls Tryd.prog 9 #[.slice q (l.length - at_) cq] w' (ScanPost w' (.toks []))) := fun w' h => by
            have h2 := scan_any _ _ w' (HVw.out w' (hbw.trans (h.mono hbw.size))).1 (hB2.below h) (by rw [List.length_take, List.length_drop]; omega)
            rw [f4] at h2; exact h2
          have g3 : ¬ (l.length : Int) < (at_ : Int) := by omega
          have hbx : Below w1.heap.size w1 wr := hbw
          clear hB2 f4
          go_wp2_with fail
          refine (CS2.out _ (by exact Below.refl _ _)).mono ?_
          rintro e w3 ⟨hb3, v3, rfl, hT3⟩
          obtain ⟨p3, cap3, rfl, -, -, -⟩ := hT3
          have HW3 : Hid (∀ o : Obj, Below w1.heap.size w1 (w3.alloc o)) := fun o => (hbx.trans (Below.mono (by exact hb3) hbx.size)).alloc (Nat.le_trans hbx.size (by exact hb3.size)) _
          clear hb3 hrun CS2 hbw HBw HVw
          go_wp2
          go_roundw
          case rel => exact ⟨ts.length + 1, at_, by go_num, rfl, by omega, fun h => by omega, HW3.out _⟩
          case measure => simp [intOf]
      · have HVr := Lib.hid (HVw.out wr hbw)
        have g5 : ¬ (k : Int) ≤ (ts.length : Int) := by omega
        clear hbt HVw HBw
        go_wp2_with fail
        refine (awake_any _ HVr.out.1).mono ?_
        rintro e w8 ⟨rfl, hb8⟩
        go_wp2
        go_ret
        exact ⟨rfl, HVr.out.2.2.trans (hb8.mono HVr.out.2.2.size)⟩
end Go.Proofs.YtmbejmhnoeoohaaDoor
