/- PARSE: how a pattern is written (the program's). PARSE: rightPattern, text, Text (the program's). PARSE: what a scan that fails tells, in plain Lean. -/
import Derived.Test.YtbdllefnghddcaaGreatDoorParseRight
import Derived.Test.YtbdllefnghddcaaGreatDoorPBld
import Derived.Test.YtbdllefnghddcaaGreatDoorPMem
import Derived.Test.YtbdllefnghddcaaGreatDoorPPl
namespace Go.Proofs.YtbdllefnghddcaaGreatDoor
section
open List (length_append length_cons length_nil)
open Go Go.RowKit
attribute [local go_sem ↓] Go.wp_at_zero Go.wp_at_succ

theorem Wro.box {base b : Nat} {W W' : World} (h : Wro base b W W') {c : Nat} {cs : Array Value} {T : TypeId} {fz : Nat × Nat} (hc : W.heap[c]? = some (.cells cs T fz)) (hT : T ≠ 5) (hcb : c ≠ b) : W'.heap[c]? = some (.cells cs T fz) :=
 (h.keep c (Array.getElem?_eq_some_iff.1 hc).1 hcb fun cs fz e => by rw [hc] at e; injection e with e; injection e with _ e; exact hT e).trans hc
structure Tb (base : Nat) (W : World) : Prop where
 lk : 1 < base
 lf : 2 < base
 k : W.rangeAt 1 0 (tabV kindWords)
 f : W.rangeAt 2 0 (tabV faceWords)
theorem range_below {g base : Nat} {l : List Value} {w w' : World} (h : w.rangeAt g 0 l) (hg : g < base) (hb : Below base w w') : w'.rangeAt g 0 l := fun j v hv => by
 have h1 := h j v hv
 exact (hb.cell (p := ⟨g, 0 + j, none⟩) hg).trans h1
theorem Tb.below {base : Nat} {W W' : World} (h : Tb base W) (hb : Below base W W') : Tb base W' := ⟨h.lk, h.lf, range_below h.k h.lk hb, range_below h.f h.lf hb⟩
theorem tab_cell {g : Nat} {W : World} {ws : List (List UInt8)} (h : W.rangeAt g 0 (tabV ws)) {i : Nat} (hi : i < ws.length) : W.cell? ⟨g, i, none⟩ = some (.string (ba (ws.getD i []))) := by
 have := h i (.string (ba (ws.getD i []))) (by
  unfold tabV
  rw [List.getElem?_map, List.getElem?_eq_getElem hi, List.getD_eq_getElem?_getD, List.getElem?_eq_getElem hi]
  rfl)
 rwa [Nat.zero_add] at this
theorem Tb.kind {base : Nat} {W : World} (h : Tb base W) {i : Nat} (hi : i < 14) : W.cell? ⟨1, i, none⟩ = some (.string (ba (kindWords.getD i []))) := tab_cell h.k hi
theorem Tb.face {base : Nat} {W : World} (h : Tb base W) {i : Nat} (hi : i < 10) : W.cell? ⟨2, i, none⟩ = some (.string (ba (faceWords.getD i []))) := tab_cell h.f hi
theorem ba_size (l : List UInt8) : (ba l).size = l.length := by simp [ba, ByteArray.size]
def Lo (base : Nat) : Nat → Prop := fun c => c < base
theorem Lo.kept {base : Nat} {W W' : World} (hb : Below base W W') : ∀ c, Lo base c → c < W.heap.size → W'.heap[c]? = W.heap[c]? ∧ Lo base c := fun c hc _ => ⟨hb.block c hc, hc⟩
def WrPost (T : TypeId) (base b : Nat) (W : World) (l : List UInt8) (e : Ending) (w' : World) : Prop := e = .returned (.tuple #[]) ∧ (∃ v', Bd T base b w' v' l) ∧ Wro base b W w'
set_option maxRecDepth 100000 in
set_option maxHeartbeats 16000000 in
set_option linter.unusedSimpArgs false in
theorem written_any {T : TypeId} (hT : IsBT T) (base b : Nat) : ∀ (k : Nat) (t : Wt) (W : World) (op num : Int) (q : Option Addr) (n cap d : Nat) (v : Value) (l : List UInt8), WtP (Lo base) W k [.int .i64 op, .int .i64 num, .slice q n cap] t → Tb base W → Bd T base b W v l → patW t d = true → l.length + 15 * cntW t ≤ 100000000000000 →
  Calls Tryz.prog 105 #[.pointer (some ⟨b, 0, none⟩), .agg #[.int .i64 op, .int .i64 num, .slice q n cap]] W (WrPost T base b W (l ++ wrW t)) := by
 intro k
 induction k with
 | zero => intro t W op num q n cap d v l h; exact h.elim
 | succ k ih =>
  intro t W op num q n cap d v l hD hTb hB hR hsz
  have IH := Lib.hid ih
  clear ih
  obtain ⟨op', num', ps⟩ := t
  obtain ⟨rfl, rfl, hn0⟩ := hD.top
  have HN : Hid (ps.length = n) := hn0
  have hn9 : n ≤ 9223372036854775807 := by have := hD.len; omega
  have hlo := hB.lo
  have hbl0 := hB.lt
  rw [patW] at hR
  simp only [Bool.and_eq_true, decide_eq_true_eq] at hR
  have hR2 := hR.2
  rw [cntW] at hsz
  obtain ⟨X, hX⟩ : ∃ X, W.heap.size = X := ⟨_, rfl⟩
  obtain ⟨WA, hWA⟩ : ∃ WA, W.alloc (.cells #[.int .i64 op, .int .i64 num, .slice q n cap] 41) = WA := ⟨_, rfl⟩
  have hza := aRow_ hWA hX
  have hba : Below W.heap.size W WA := by rw [← hWA]; exact (Below.refl _ W).alloc (Nat.le_refl _) _
  have hsa : WA.heap.size = X + 1 := by rw [← hWA, ← hX]; simp
  have HBA : Hid (Bd T base b WA v l) := hB.below hba
  have HWA1 : Hid (Wro base b W WA) := .of hba (by omega)
  have hTA := hTb.below (hba.mono (show base ≤ W.heap.size by omega))
  have HD := Lib.hid (hD.kept (Q := Lo base) (Lo.kept (hba.mono (show base ≤ W.heap.size by omega))))
  obtain ⟨z0, z1, z2⟩ := row3_ hza
  have xa : X < WA.heap.size := by omega
  have lbX : b < X := by omega
  have HX := Lib.hid hX
  have HWA := Lib.hid hWA
  have HZA := Lib.hid hza
  have HTA := Lib.hid hTA
  have HTB : Hid (∀ W', Wro base b W W' → Tb base W') := fun W' h => hTb.below h.bel
  have HT : Hid (IsBT T) := hT
  have HR : Hid (if op = 1 then (decide (num = 0) && decide (ps.length = 0)) = true
   else if op = 2 then (decide (0 ≤ num) && (decide (num < 14) && decide (ps.length = 0))) = true
   else if op = 3 then (decide (0 ≤ num) && (decide (num < 10) && decide (ps.length = 0))) = true
   else if op = 6 then (decide (num = 0) && (decide (ps.length = 1) && patL op ps (d + 1))) = true
   else if op = 4 ∨ op = 5 then (decide (num = 0) && (decide (2 ≤ ps.length) && patL op ps d)) = true
   else false = true) := by
    show if op = 1 then _ else _
    split at hR2
    ·rw [if_pos (by assumption)]; exact hR2
    ·rw [if_neg (by assumption)]
     split at hR2
     ·rw [if_pos (by assumption)]; exact hR2
     ·rw [if_neg (by assumption)]
      split at hR2
      ·rw [if_pos (by assumption)]; exact hR2
      ·rw [if_neg (by assumption)]
       split at hR2
       ·rw [if_pos (by assumption)]; exact hR2
       ·rw [if_neg (by assumption)]
        split at hR2
        ·rw [if_pos (by assumption)]; exact hR2
        ·cases hR2
  have HD0 := Lib.hid hD
  clear hD hTb hB hR hR2 hX hWA hza hba hn0 hTA
  obtain ⟨PP, hPP⟩ : ∃ PP, WrPost T base b W (l ++ wrW (.mk op num ps)) = PP := ⟨_, rfl⟩
  rw [hPP]
  have HPP := Lib.hid hPP
  clear hPP
  go_enter Tryz.func105, Tryz.ntmps105
  go_upto_region 1 with fail
  rw [HX.out, HWA.out]

  by_cases o1 : op = 1
  ·subst o1
   have CW := Lib.hid (write_any HT.out HBA.out ⟨#[97, 110, 121]⟩ (by show l.length + 3 ≤ _; omega))
   go_wp2_with (go_at_call 133; refine CW.out.mono ?_)
   rintro e1 w1 ⟨rfl, ⟨v1, hB1⟩, hW1⟩
   have HB1 := Lib.hid hB1
   have HW1 := Lib.hid hW1
   clear hB1 hW1
   go_wp2_with fail
   go_end0
   rw [← HPP.out]
   exact ⟨rfl, ⟨v1, by rw [wrW]; rw [if_pos rfl]; exact HB1.out⟩, HWA1.out.trans HW1.out⟩
  obtain ⟨eo1, no1⟩ := neI o1
  by_cases o2 : op = 2
  ·subst o2
   have hr := HR.out
   rw [if_neg (by decide), if_pos rfl] at hr
   simp only [Bool.and_eq_true, decide_eq_true_eq] at hr
   obtain ⟨i, rfl⟩ : ∃ i : Nat, num = (i : Nat) := ⟨num.toNat, by omega⟩
   have hi : i < 14 := by omega
   have hi2 : (i : Int) < 14 := by omega
   have hi3 : (0 : Int) ≤ (i : Int) := by omega
   have tc := HTA.out.kind hi
   have tl : 1 < WA.heap.size := by have := HTA.out.lk; omega
   clear hr
   have CW := Lib.hid (write_any HT.out HBA.out (ba (kindWords.getD i [])) (by rw [ba_size]; have := kw_len i; omega))
   go_wp2_with (go_at_call 133; refine CW.out.mono ?_)
   rintro e1 w1 ⟨rfl, ⟨v1, hB1⟩, hW1⟩
   have HB1 := Lib.hid hB1
   have HW1 := Lib.hid hW1
   clear hB1 hW1
   go_wp2_with fail
   go_end0
   rw [← HPP.out]
   exact ⟨rfl, ⟨v1, by rw [wrW]; rw [if_neg (by decide), if_pos rfl]; rw [bs_ba] at HB1; exact HB1.out⟩, HWA1.out.trans HW1.out⟩
  obtain ⟨eo2, no2⟩ := neI o2
  by_cases o3 : op = 3
  ·subst o3
   have hr := HR.out
   rw [if_neg (by decide), if_neg (by decide), if_pos rfl] at hr
   simp only [Bool.and_eq_true, decide_eq_true_eq] at hr
   obtain ⟨i, rfl⟩ : ∃ i : Nat, num = (i : Nat) := ⟨num.toNat, by omega⟩
   have hi : i < 10 := by omega
   have hi2 : (i : Int) < 10 := by omega
   have hi3 : (0 : Int) ≤ (i : Int) := by omega
   have tc := HTA.out.face hi
   have tl : 2 < WA.heap.size := by have := HTA.out.lf; omega
   clear hr
   have CW := Lib.hid (write_any HT.out HBA.out (ba (faceWords.getD i [])) (by rw [ba_size]; have := fw_len i; omega))
   go_wp2_with (go_at_call 133; refine CW.out.mono ?_)
   rintro e1 w1 ⟨rfl, ⟨v1, hB1⟩, hW1⟩
   have HB1 := Lib.hid hB1
   have HW1 := Lib.hid hW1
   clear hB1 hW1
   go_wp2_with fail
   go_end0
   rw [← HPP.out]
   exact ⟨rfl, ⟨v1, by rw [wrW]; rw [if_neg (by decide), if_neg (by decide), if_pos rfl]; rw [bs_ba] at HB1; exact HB1.out⟩, HWA1.out.trans HW1.out⟩
  obtain ⟨eo3, no3⟩ := neI o3
  by_cases o6 : op = 6
  ·subst o6
   have hr := HR.out
   rw [if_neg (by decide), if_neg (by decide), if_neg (by decide), if_pos rfl] at hr
   simp only [Bool.and_eq_true, decide_eq_true_eq] at hr
   obtain ⟨rfl, hl, hpl⟩ := hr
   have HPL := Lib.hid hpl
   obtain rfl : n = 1 := by rw [← HN.out]; exact hl
   clear hpl
   have CW0 := Lib.hid (write_any HT.out HBA.out ⟨#[33]⟩ (by show l.length + 1 ≤ _; omega))
   go_wp2_with (go_at_call 133; refine CW0.out.mono ?_)
   rintro e0 w0 ⟨rfl, ⟨v0, hB0⟩, hW0⟩
   have HB0 : Hid (Bd T base b w0 v0 (l ++ [33])) := hB0
   have HW0 : Hid (Wro base b W w0) := HWA1.out.trans hW0
   have HX0 := Lib.hid (hW0.box HZA.out (by decide) (by omega))
   clear hB0 hW0 CW0
   obtain ⟨u0, u1, u2⟩ := row3_ HX0.out
   have ul : X < w0.heap.size := (Array.getElem?_eq_some_iff.1 HX0.out).1
   go_wp2_with fail
   go_loopw [5, 6, 40] (fun s5 s6 s40 wr => ∃ (j : Nat) (vr : Value), s40 = .int .i64 (j : Nat) ∧ j ≤ 1 ∧ Hid (Bd T base b wr vr (l ++ [33] ++ wrL 6 (ps.take j) true)) ∧ Hid (Wro base b W wr) ∧ Hid (wr.heap[X]? = some (.cells #[.int .i64 6, .int .i64 0, .slice q 1 cap] 41 (0, 0)))) (fun _ _ i _ => 1 - (intOf i).toNat)
   case atStart => exact ⟨0, _, rfl, Nat.zero_le _, by show Bd _ _ _ _ _ _; rw [List.take_zero, wrL, List.append_nil]; exact HB0.out, HW0.out, HX0.out⟩
   case round =>
    obtain ⟨j, vr, rfl, hj, HBr, HWr, HXr⟩ := hrel
    by_cases hlt : j < 1
    ·obtain ⟨x, hx⟩ : ∃ x, ps[j]? = some x := ⟨_, List.getElem?_eq_getElem (by rw [HN.out]; exact hlt)⟩
     obtain ⟨bb, o, qq, _, c, hPb, rfl, hbl, d0, d1, d2, rfl, hPt⟩ := HD0.out.part hx
     have hbr := HWr.out.bel.block bb hPb
     have y0 := cell_block hbr d0
     have y1 := cell_block hbr d1
     have y2 := cell_block hbr d2
     have HPT : Hid (∀ W', Below base W W' → WtP (Lo base) W' k [.int .i64 x.op, .int .i64 x.num, .slice qq x.l.length c] x) := fun W' hb => hPt.kept (Lo.kept hb)
     have HXJ := Lib.hid hx
     have g0 : (j : Int) < 1 := by omega
     have g00 : (0 : Int) ≤ (j : Int) := by omega
     have CP := Lib.hid (fun (W : World) => paired_any 6 x.op (.int .i64 0) (.slice (some ⟨bb, o, none⟩) 1 cap) (.int .i64 x.num) (.slice qq x.l.length c) W)
     have HPX : Hid (patW x (d + 1 + if parW 6 x.op = true then 1 else 0) = true) := by have h := HPL.out; rw [patL_all] at h; exact (List.all_eq_true.1 h) x (List.mem_of_getElem? hx)
     have hstep := cntL_step hx
     have hcl := cntL_take_le ps (j + 1)
     have hwl := wrL_len 6 (ps.take j) true
     obtain ⟨R, hR⟩ : ∃ R, wr.heap.size = R := ⟨_, rfl⟩
     obtain ⟨w1, hw1⟩ : ∃ w1, wr.alloc (.cells #[.int .i64 x.op, .int .i64 x.num, .slice qq x.l.length c] 41) = w1 := ⟨_, rfl⟩
     have HR1 := Lib.hid (aRow_ hw1 hR)
     have hb1 : Below wr.heap.size wr w1 := by rw [← hw1]; exact (Below.refl _ wr).alloc (Nat.le_refl _) _
     have hXl := (Array.getElem?_eq_some_iff.1 HXr.out).1
     have hbl2 := HBr.out.lt
     have lXR : X < R := by omega
     have lbR : b < R := by omega
     have HX1 : Hid (w1.heap[X]? = some (.cells #[.int .i64 6, .int .i64 0, .slice (some ⟨bb, o, none⟩) 1 cap] 41 (0, 0))) := (hb1.block X hXl).trans HXr.out
     have HB1 : Hid (Bd T base b w1 vr (l ++ [33] ++ wrL 6 (ps.take j) true)) := HBr.out.below hb1
     have HW1 : Hid (Wro base b W w1) := HWr.out.below hb1 (by omega)
     have HR := Lib.hid hR
     have Hw1 := Lib.hid hw1
     have r2 : wr.cell? ⟨X, 2, none⟩ = some (.slice (some ⟨bb, o, none⟩) 1 cap) := by rw [cell_of_row _ _ _ _ _ _ HXr.out]; rfl
     clear hPb hbr hPt hx d0 d1 d2 hbl hR hw1 hb1
     go_upto_region 18 with fail
     rw [HR.out, Hw1.out]
     by_cases hj0 : j = 0
     ·subst hj0
      obtain ⟨x0, x1, x2⟩ := row3_ HX1.out
      have xl : X < w1.heap.size := (Array.getElem?_eq_some_iff.1 HX1.out).1
      obtain ⟨r0, r1, r2⟩ := row3_ HR1.out
      have rl : R < w1.heap.size := (Array.getElem?_eq_some_iff.1 HR1.out).1
      go_wp2_with (go_at_call 144; refine (CP.out _).mono ?_)
      rintro e3 w3 ⟨rfl, hb3⟩
      have HB3 : Hid (Bd T base b w3 _ (l ++ [33] ++ wrL 6 (ps.take 0) true)) := HB1.out.below hb3
      have HW3 : Hid (Wro base b W w3) := HW1.out.below hb3 (by omega)
      have HX3 : Hid (w3.heap[X]? = some (.cells #[.int .i64 6, .int .i64 0, .slice (some ⟨bb, o, none⟩) 1 cap] 41 (0, 0))) := (hb3.block X xl).trans HX1.out
      have HR3 : Hid (w3.heap[R]? = some (.cells #[.int .i64 x.op, .int .i64 x.num, .slice qq x.l.length c] 41 (0, 0))) := (hb3.block R rl).trans HR1.out
      clear hb3
      by_cases hpar : parW 6 x.op = true
      ·rw [hpar]
       have HPY : Hid (patW x (d + 1 + 1) = true) := by have h := HPX.out; rw [hpar] at h; exact h
       have HPC : Hid (pieceW 6 x = [40] ++ (wrW x ++ [41])) := by show _ = _; unfold pieceW; rw [hpar]; rfl
       clear hpar
       have CW4 := Lib.hid (write_any HT.out HB3.out ⟨#[40]⟩ (by show (l ++ [33] ++ wrL 6 (ps.take 0) true).length + 1 ≤ 140737488355328; simp only [length_append, length_cons, length_nil]; omega))
       go_wp2_with (go_at_call 133; refine CW4.out.mono ?_)
       rintro e4 w4 ⟨rfl, ⟨v4, hB4⟩, hW4⟩
       have HB4 : Hid (Bd T base b w4 v4 (l ++ [33] ++ wrL 6 (ps.take 0) true ++ [40])) := by have := hB4; show Bd _ _ _ _ _ _; simpa [bs] using this
       have HW4 : Hid (Wro base b W w4) := HW3.out.trans hW4
       have HX4 := Lib.hid (hW4.box HX3.out (by decide) (by omega))
       have HR4 := Lib.hid (hW4.box HR3.out (by decide) (by omega))
       clear hB4 hW4 CW4
       clear r0 r1 r2
       obtain ⟨r0, r1, r2⟩ := row3_ HR4.out
       have rl : R < w4.heap.size := (Array.getElem?_eq_some_iff.1 HR4.out).1
       have C5 := Lib.hid (IH.out x w4 x.op x.num qq x.l.length c _ _ _ (HPT.out _ HW4.out.bel) (HTB.out _ (HW4.out)) HB4.out HPY.out (by simp only [length_append, length_cons, length_nil]; omega))
       go_wp2_with (go_at_call 105; refine C5.out.mono ?_)
       rintro e5 w5 ⟨rfl, ⟨v5, hB5⟩, hW5⟩
       have HB5 : Hid (Bd T base b w5 v5 (l ++ [33] ++ wrL 6 (ps.take 0) true ++ [40] ++ wrW x)) := hB5
       have HW5 : Hid (Wro base b W w5) := HW4.out.trans hW5
       have HX5 := Lib.hid (hW5.box HX4.out (by decide) (by omega))
       have HR5 := Lib.hid (hW5.box HR4.out (by decide) (by omega))
       clear hB5 hW5 C5
       have hwx := wrW_len x
       have hcx := cntW_pos x
       have CW6 := Lib.hid (write_any HT.out HB5.out ⟨#[41]⟩ (by show (l ++ [33] ++ wrL 6 (ps.take 0) true ++ [40] ++ wrW x).length + 1 ≤ 140737488355328; simp only [length_append, length_cons, length_nil]; omega))
       go_wp2_with (go_at_call 133; refine CW6.out.mono ?_)
       rintro e6 w6 ⟨rfl, ⟨v6, hB6⟩, hW6⟩
       have HB6 : Hid (Bd T base b w6 v6 (l ++ [33] ++ wrL 6 (ps.take 0) true ++ [40] ++ wrW x ++ [41])) := by have := hB6; show Bd _ _ _ _ _ _; simpa [bs] using this
       have HW6 : Hid (Wro base b W w6) := HW5.out.trans hW6
       have HX6 := Lib.hid (hW6.box HX5.out (by decide) (by omega))
       have HR6 := Lib.hid (hW6.box HR5.out (by decide) (by omega))
       clear hB6 hW6 CW6
       go_wp2_with fail
       go_roundw
       case rel => exact ⟨0 + 1, v6, by go_num, by omega, by show Bd _ _ _ _ _ _; rw [wrL_step HXJ.out, HPC.out]; have h := HB6.out; simpa [markB, List.append_assoc] using h, HW6.out, HX6.out⟩
       case measure => simp [intOf]
      ·have hpf : parW 6 x.op = false := by simpa using hpar
       rw [hpf]
       have HPY : Hid (patW x (d + 1) = true) := by have h := HPX.out; rw [hpf] at h; exact h
       have HPC : Hid (pieceW 6 x = wrW x) := by show _ = _; unfold pieceW; rw [hpf]; rfl
       clear hpar hpf
       clear r0 r1 r2
       obtain ⟨r0, r1, r2⟩ := row3_ HR3.out
       have rl : R < w3.heap.size := (Array.getElem?_eq_some_iff.1 HR3.out).1
       have C5 := Lib.hid (IH.out x w3 x.op x.num qq x.l.length c _ _ _ (HPT.out _ HW3.out.bel) (HTB.out _ (HW3.out)) HB3.out HPY.out (by simp only [length_append, length_cons, length_nil]; omega))
       go_wp2_with (go_at_call 105; refine C5.out.mono ?_)
       rintro e5 w5 ⟨rfl, ⟨v5, hB5⟩, hW5⟩
       have HB5 : Hid (Bd T base b w5 v5 (l ++ [33] ++ wrL 6 (ps.take 0) true ++ wrW x)) := hB5
       have HW5 : Hid (Wro base b W w5) := HW3.out.trans hW5
       have HX5 := Lib.hid (hW5.box HX3.out (by decide) (by omega))
       have HR5 := Lib.hid (hW5.box HR3.out (by decide) (by omega))
       clear hB5 hW5 C5
       go_wp2_with fail
       go_roundw
       case rel => exact ⟨0 + 1, v5, by go_num, by omega, by show Bd _ _ _ _ _ _; rw [wrL_step HXJ.out, HPC.out]; have h := HB5.out; simpa [markB, List.append_assoc] using h, HW5.out, HX5.out⟩
       case measure => simp [intOf]
     ·exact absurd hlt (by omega)
    ·obtain rfl : j = 1 := by omega
     have hjj : ¬ ((1 : Nat) : Int) < 1 := by omega
     have HTK : Hid (ps.take 1 = ps) := List.take_of_length_le (by rw [HN.out]; exact Nat.le_refl _)
     skip
     go_wp2_with fail
     go_end0
     rw [← HPP.out]
     exact ⟨rfl, ⟨vr, by rw [wrW]; have h := HBr.out; rw [HTK.out] at h; simpa using h⟩, HWr.out⟩
  obtain ⟨eo6, no6⟩ := neI o6
  by_cases o4 : op = 4
  ·subst o4
   have hr := HR.out
   rw [if_neg (by decide), if_neg (by decide), if_neg (by decide), if_neg (by decide), if_pos (by decide)] at hr
   simp only [Bool.and_eq_true, decide_eq_true_eq] at hr
   obtain ⟨rfl, hl, hpl⟩ := hr
   have HPL := Lib.hid hpl
   clear hpl
   have HB0 := HBA
   have HW0 := HWA1
   have HX0 := HZA
   go_wp2_with fail
   go_loopw [5, 6, 40] (fun s5 s6 s40 wr => ∃ (j : Nat) (vr : Value), s40 = .int .i64 (j : Nat) ∧ j ≤ n ∧ Hid (Bd T base b wr vr (l ++ wrL 4 (ps.take j) true)) ∧ Hid (Wro base b W wr) ∧ Hid (wr.heap[X]? = some (.cells #[.int .i64 4, .int .i64 0, .slice q n cap] 41 (0, 0)))) (fun _ _ i _ => n - (intOf i).toNat)
   case atStart => exact ⟨0, _, rfl, Nat.zero_le _, by show Bd _ _ _ _ _ _; rw [List.take_zero, wrL, List.append_nil]; exact HB0.out, HW0.out, HX0.out⟩
   case round =>
    obtain ⟨j, vr, rfl, hj, HBr, HWr, HXr⟩ := hrel
    by_cases hlt : j < n
    ·obtain ⟨x, hx⟩ : ∃ x, ps[j]? = some x := ⟨_, List.getElem?_eq_getElem (by rw [HN.out]; exact hlt)⟩
     obtain ⟨bb, o, qq, _, c, hPb, rfl, hbl, d0, d1, d2, rfl, hPt⟩ := HD0.out.part hx
     have hbr := HWr.out.bel.block bb hPb
     have y0 := cell_block hbr d0
     have y1 := cell_block hbr d1
     have y2 := cell_block hbr d2
     have HPT : Hid (∀ W', Below base W W' → WtP (Lo base) W' k [.int .i64 x.op, .int .i64 x.num, .slice qq x.l.length c] x) := fun W' hb => hPt.kept (Lo.kept hb)
     have HXJ := Lib.hid hx
     have g0 : (j : Int) < ((n : Nat) : Int) := by omega
     have g00 : (0 : Int) ≤ (j : Int) := by omega
     have CP := Lib.hid (fun (W : World) => paired_any 4 x.op (.int .i64 0) (.slice (some ⟨bb, o, none⟩) n cap) (.int .i64 x.num) (.slice qq x.l.length c) W)
     have HPX : Hid (patW x (d + if parW 4 x.op = true then 1 else 0) = true) := by have h := HPL.out; rw [patL_all] at h; exact (List.all_eq_true.1 h) x (List.mem_of_getElem? hx)
     have hstep := cntL_step hx
     have hcl := cntL_take_le ps (j + 1)
     have hwl := wrL_len 4 (ps.take j) true
     obtain ⟨R, hR⟩ : ∃ R, wr.heap.size = R := ⟨_, rfl⟩
     obtain ⟨w1, hw1⟩ : ∃ w1, wr.alloc (.cells #[.int .i64 x.op, .int .i64 x.num, .slice qq x.l.length c] 41) = w1 := ⟨_, rfl⟩
     have HR1 := Lib.hid (aRow_ hw1 hR)
     have hb1 : Below wr.heap.size wr w1 := by rw [← hw1]; exact (Below.refl _ wr).alloc (Nat.le_refl _) _
     have hXl := (Array.getElem?_eq_some_iff.1 HXr.out).1
     have hbl2 := HBr.out.lt
     have lXR : X < R := by omega
     have lbR : b < R := by omega
     have HX1 : Hid (w1.heap[X]? = some (.cells #[.int .i64 4, .int .i64 0, .slice (some ⟨bb, o, none⟩) n cap] 41 (0, 0))) := (hb1.block X hXl).trans HXr.out
     have HB1 : Hid (Bd T base b w1 vr (l ++ wrL 4 (ps.take j) true)) := HBr.out.below hb1
     have HW1 : Hid (Wro base b W w1) := HWr.out.below hb1 (by omega)
     have HR := Lib.hid hR
     have Hw1 := Lib.hid hw1
     have r2 : wr.cell? ⟨X, 2, none⟩ = some (.slice (some ⟨bb, o, none⟩) n cap) := by rw [cell_of_row _ _ _ _ _ _ HXr.out]; rfl
     clear hPb hbr hPt hx d0 d1 d2 hbl hR hw1 hb1
     go_upto_region 18 with fail
     rw [HR.out, Hw1.out]
     by_cases hj0 : j = 0
     ·subst hj0
      obtain ⟨x0, x1, x2⟩ := row3_ HX1.out
      have xl : X < w1.heap.size := (Array.getElem?_eq_some_iff.1 HX1.out).1
      obtain ⟨r0, r1, r2⟩ := row3_ HR1.out
      have rl : R < w1.heap.size := (Array.getElem?_eq_some_iff.1 HR1.out).1
      go_wp2_with (go_at_call 144; refine (CP.out _).mono ?_)
      rintro e3 w3 ⟨rfl, hb3⟩
      have HB3 : Hid (Bd T base b w3 _ (l ++ wrL 4 (ps.take 0) true)) := HB1.out.below hb3
      have HW3 : Hid (Wro base b W w3) := HW1.out.below hb3 (by omega)
      have HX3 : Hid (w3.heap[X]? = some (.cells #[.int .i64 4, .int .i64 0, .slice (some ⟨bb, o, none⟩) n cap] 41 (0, 0))) := (hb3.block X xl).trans HX1.out
      have HR3 : Hid (w3.heap[R]? = some (.cells #[.int .i64 x.op, .int .i64 x.num, .slice qq x.l.length c] 41 (0, 0))) := (hb3.block R rl).trans HR1.out
      clear hb3
      by_cases hpar : parW 4 x.op = true
      ·rw [hpar]
       have HPY : Hid (patW x (d + 1) = true) := by have h := HPX.out; rw [hpar] at h; exact h
       have HPC : Hid (pieceW 4 x = [40] ++ (wrW x ++ [41])) := by show _ = _; unfold pieceW; rw [hpar]; rfl
       clear hpar
       have CW4 := Lib.hid (write_any HT.out HB3.out ⟨#[40]⟩ (by show (l ++ wrL 4 (ps.take 0) true).length + 1 ≤ 140737488355328; simp only [length_append, length_cons, length_nil]; omega))
       go_wp2_with (go_at_call 133; refine CW4.out.mono ?_)
       rintro e4 w4 ⟨rfl, ⟨v4, hB4⟩, hW4⟩
       have HB4 : Hid (Bd T base b w4 v4 (l ++ wrL 4 (ps.take 0) true ++ [40])) := by have := hB4; show Bd _ _ _ _ _ _; simpa [bs] using this
       have HW4 : Hid (Wro base b W w4) := HW3.out.trans hW4
       have HX4 := Lib.hid (hW4.box HX3.out (by decide) (by omega))
       have HR4 := Lib.hid (hW4.box HR3.out (by decide) (by omega))
       clear hB4 hW4 CW4
       clear r0 r1 r2
       obtain ⟨r0, r1, r2⟩ := row3_ HR4.out
       have rl : R < w4.heap.size := (Array.getElem?_eq_some_iff.1 HR4.out).1
       have C5 := Lib.hid (IH.out x w4 x.op x.num qq x.l.length c _ _ _ (HPT.out _ HW4.out.bel) (HTB.out _ (HW4.out)) HB4.out HPY.out (by simp only [length_append, length_cons, length_nil]; omega))
       go_wp2_with (go_at_call 105; refine C5.out.mono ?_)
       rintro e5 w5 ⟨rfl, ⟨v5, hB5⟩, hW5⟩
       have HB5 : Hid (Bd T base b w5 v5 (l ++ wrL 4 (ps.take 0) true ++ [40] ++ wrW x)) := hB5
       have HW5 : Hid (Wro base b W w5) := HW4.out.trans hW5
       have HX5 := Lib.hid (hW5.box HX4.out (by decide) (by omega))
       have HR5 := Lib.hid (hW5.box HR4.out (by decide) (by omega))
       clear hB5 hW5 C5
       have hwx := wrW_len x
       have hcx := cntW_pos x
       have CW6 := Lib.hid (write_any HT.out HB5.out ⟨#[41]⟩ (by show (l ++ wrL 4 (ps.take 0) true ++ [40] ++ wrW x).length + 1 ≤ 140737488355328; simp only [length_append, length_cons, length_nil]; omega))
       go_wp2_with (go_at_call 133; refine CW6.out.mono ?_)
       rintro e6 w6 ⟨rfl, ⟨v6, hB6⟩, hW6⟩
       have HB6 : Hid (Bd T base b w6 v6 (l ++ wrL 4 (ps.take 0) true ++ [40] ++ wrW x ++ [41])) := by have := hB6; show Bd _ _ _ _ _ _; simpa [bs] using this
       have HW6 : Hid (Wro base b W w6) := HW5.out.trans hW6
       have HX6 := Lib.hid (hW6.box HX5.out (by decide) (by omega))
       have HR6 := Lib.hid (hW6.box HR5.out (by decide) (by omega))
       clear hB6 hW6 CW6
       go_wp2_with fail
       go_roundw
       case rel => exact ⟨0 + 1, v6, by go_num, by omega, by show Bd _ _ _ _ _ _; rw [wrL_step HXJ.out, HPC.out]; have h := HB6.out; simpa [markB, List.append_assoc] using h, HW6.out, HX6.out⟩
       case measure => simp [intOf]; omega
      ·have hpf : parW 4 x.op = false := by simpa using hpar
       rw [hpf]
       have HPY : Hid (patW x (d) = true) := by have h := HPX.out; rw [hpf] at h; exact h
       have HPC : Hid (pieceW 4 x = wrW x) := by show _ = _; unfold pieceW; rw [hpf]; rfl
       clear hpar hpf
       clear r0 r1 r2
       obtain ⟨r0, r1, r2⟩ := row3_ HR3.out
       have rl : R < w3.heap.size := (Array.getElem?_eq_some_iff.1 HR3.out).1
       have C5 := Lib.hid (IH.out x w3 x.op x.num qq x.l.length c _ _ _ (HPT.out _ HW3.out.bel) (HTB.out _ (HW3.out)) HB3.out HPY.out (by simp only [length_append, length_cons, length_nil]; omega))
       go_wp2_with (go_at_call 105; refine C5.out.mono ?_)
       rintro e5 w5 ⟨rfl, ⟨v5, hB5⟩, hW5⟩
       have HB5 : Hid (Bd T base b w5 v5 (l ++ wrL 4 (ps.take 0) true ++ wrW x)) := hB5
       have HW5 : Hid (Wro base b W w5) := HW3.out.trans hW5
       have HX5 := Lib.hid (hW5.box HX3.out (by decide) (by omega))
       have HR5 := Lib.hid (hW5.box HR3.out (by decide) (by omega))
       clear hB5 hW5 C5
       go_wp2_with fail
       go_roundw
       case rel => exact ⟨0 + 1, v5, by go_num, by omega, by show Bd _ _ _ _ _ _; rw [wrL_step HXJ.out, HPC.out]; have h := HB5.out; simpa [markB, List.append_assoc] using h, HW5.out, HX5.out⟩
       case measure => simp [intOf]; omega
     ·have hj1 : (0 : Int) < (j : Int) := by omega
      have CW2 := Lib.hid (write_any HT.out HB1.out ⟨#[32, 124, 32]⟩ (by show (l ++ wrL 4 (ps.take j) true).length + 3 ≤ 140737488355328; simp only [length_append, length_cons, length_nil]; omega))
      go_wp2_with (go_at_call 133; refine CW2.out.mono ?_)
      rintro e2 w2 ⟨rfl, ⟨v2, hB2⟩, hW2⟩
      have HB2 : Hid (Bd T base b w2 v2 (l ++ wrL 4 (ps.take j) true ++ [32, 124, 32])) := by have := hB2; show Bd _ _ _ _ _ _; simpa [bs] using this
      have HW2 : Hid (Wro base b W w2) := HW1.out.trans hW2
      have HX2 := Lib.hid (hW2.box HX1.out (by decide) (by omega))
      have HR2 := Lib.hid (hW2.box HR1.out (by decide) (by omega))
      clear hB2 hW2 CW2
      obtain ⟨x0, x1, x2⟩ := row3_ HX2.out
      have xl : X < w2.heap.size := (Array.getElem?_eq_some_iff.1 HX2.out).1
      obtain ⟨r0, r1, r2⟩ := row3_ HR2.out
      have rl : R < w2.heap.size := (Array.getElem?_eq_some_iff.1 HR2.out).1
      go_wp2_with (go_at_call 144; refine (CP.out _).mono ?_)
      rintro e3 w3 ⟨rfl, hb3⟩
      have HB3 : Hid (Bd T base b w3 _ (l ++ wrL 4 (ps.take j) true ++ [32, 124, 32])) := HB2.out.below hb3
      have HW3 : Hid (Wro base b W w3) := HW2.out.below hb3 (by omega)
      have HX3 : Hid (w3.heap[X]? = some (.cells #[.int .i64 4, .int .i64 0, .slice (some ⟨bb, o, none⟩) n cap] 41 (0, 0))) := (hb3.block X xl).trans HX2.out
      have HR3 : Hid (w3.heap[R]? = some (.cells #[.int .i64 x.op, .int .i64 x.num, .slice qq x.l.length c] 41 (0, 0))) := (hb3.block R rl).trans HR2.out
      clear hb3
      by_cases hpar : parW 4 x.op = true
      ·rw [hpar]
       have HPY : Hid (patW x (d + 1) = true) := by have h := HPX.out; rw [hpar] at h; exact h
       have HPC : Hid (pieceW 4 x = [40] ++ (wrW x ++ [41])) := by show _ = _; unfold pieceW; rw [hpar]; rfl
       clear hpar
       have CW4 := Lib.hid (write_any HT.out HB3.out ⟨#[40]⟩ (by show (l ++ wrL 4 (ps.take j) true ++ [32, 124, 32]).length + 1 ≤ 140737488355328; simp only [length_append, length_cons, length_nil]; omega))
       go_wp2_with (go_at_call 133; refine CW4.out.mono ?_)
       rintro e4 w4 ⟨rfl, ⟨v4, hB4⟩, hW4⟩
       have HB4 : Hid (Bd T base b w4 v4 (l ++ wrL 4 (ps.take j) true ++ [32, 124, 32] ++ [40])) := by have := hB4; show Bd _ _ _ _ _ _; simpa [bs] using this
       have HW4 : Hid (Wro base b W w4) := HW3.out.trans hW4
       have HX4 := Lib.hid (hW4.box HX3.out (by decide) (by omega))
       have HR4 := Lib.hid (hW4.box HR3.out (by decide) (by omega))
       clear hB4 hW4 CW4
       clear r0 r1 r2
       obtain ⟨r0, r1, r2⟩ := row3_ HR4.out
       have rl : R < w4.heap.size := (Array.getElem?_eq_some_iff.1 HR4.out).1
       have C5 := Lib.hid (IH.out x w4 x.op x.num qq x.l.length c _ _ _ (HPT.out _ HW4.out.bel) (HTB.out _ (HW4.out)) HB4.out HPY.out (by simp only [length_append, length_cons, length_nil]; omega))
       go_wp2_with (go_at_call 105; refine C5.out.mono ?_)
       rintro e5 w5 ⟨rfl, ⟨v5, hB5⟩, hW5⟩
       have HB5 : Hid (Bd T base b w5 v5 (l ++ wrL 4 (ps.take j) true ++ [32, 124, 32] ++ [40] ++ wrW x)) := hB5
       have HW5 : Hid (Wro base b W w5) := HW4.out.trans hW5
       have HX5 := Lib.hid (hW5.box HX4.out (by decide) (by omega))
       have HR5 := Lib.hid (hW5.box HR4.out (by decide) (by omega))
       clear hB5 hW5 C5
       have hwx := wrW_len x
       have hcx := cntW_pos x
       have CW6 := Lib.hid (write_any HT.out HB5.out ⟨#[41]⟩ (by show (l ++ wrL 4 (ps.take j) true ++ [32, 124, 32] ++ [40] ++ wrW x).length + 1 ≤ 140737488355328; simp only [length_append, length_cons, length_nil]; omega))
       go_wp2_with (go_at_call 133; refine CW6.out.mono ?_)
       rintro e6 w6 ⟨rfl, ⟨v6, hB6⟩, hW6⟩
       have HB6 : Hid (Bd T base b w6 v6 (l ++ wrL 4 (ps.take j) true ++ [32, 124, 32] ++ [40] ++ wrW x ++ [41])) := by have := hB6; show Bd _ _ _ _ _ _; simpa [bs] using this
       have HW6 : Hid (Wro base b W w6) := HW5.out.trans hW6
       have HX6 := Lib.hid (hW6.box HX5.out (by decide) (by omega))
       have HR6 := Lib.hid (hW6.box HR5.out (by decide) (by omega))
       clear hB6 hW6 CW6
       go_wp2_with fail
       go_roundw
       case rel => exact ⟨j + 1, v6, by go_num, by omega, by show Bd _ _ _ _ _ _; rw [wrL_step HXJ.out, HPC.out]; have h := HB6.out; simpa [markB, List.append_assoc, hj0] using h, HW6.out, HX6.out⟩
       case measure => simp [intOf]; omega
      ·have hpf : parW 4 x.op = false := by simpa using hpar
       rw [hpf]
       have HPY : Hid (patW x (d) = true) := by have h := HPX.out; rw [hpf] at h; exact h
       have HPC : Hid (pieceW 4 x = wrW x) := by show _ = _; unfold pieceW; rw [hpf]; rfl
       clear hpar hpf
       clear r0 r1 r2
       obtain ⟨r0, r1, r2⟩ := row3_ HR3.out
       have rl : R < w3.heap.size := (Array.getElem?_eq_some_iff.1 HR3.out).1
       have C5 := Lib.hid (IH.out x w3 x.op x.num qq x.l.length c _ _ _ (HPT.out _ HW3.out.bel) (HTB.out _ (HW3.out)) HB3.out HPY.out (by simp only [length_append, length_cons, length_nil]; omega))
       go_wp2_with (go_at_call 105; refine C5.out.mono ?_)
       rintro e5 w5 ⟨rfl, ⟨v5, hB5⟩, hW5⟩
       have HB5 : Hid (Bd T base b w5 v5 (l ++ wrL 4 (ps.take j) true ++ [32, 124, 32] ++ wrW x)) := hB5
       have HW5 : Hid (Wro base b W w5) := HW3.out.trans hW5
       have HX5 := Lib.hid (hW5.box HX3.out (by decide) (by omega))
       have HR5 := Lib.hid (hW5.box HR3.out (by decide) (by omega))
       clear hB5 hW5 C5
       go_wp2_with fail
       go_roundw
       case rel => exact ⟨j + 1, v5, by go_num, by omega, by show Bd _ _ _ _ _ _; rw [wrL_step HXJ.out, HPC.out]; have h := HB5.out; simpa [markB, List.append_assoc, hj0] using h, HW5.out, HX5.out⟩
       case measure => simp [intOf]; omega
    ·obtain rfl : j = n := by omega
     have hjj : ¬ (j : Int) < (j : Int) := by omega
     have HTK : Hid (ps.take j = ps) := List.take_of_length_le (by rw [HN.out]; exact Nat.le_refl _)
     skip
     go_wp2_with fail
     go_end0
     rw [← HPP.out]
     exact ⟨rfl, ⟨vr, by rw [wrW]; have h := HBr.out; rw [HTK.out] at h; simpa using h⟩, HWr.out⟩
  obtain ⟨eo4, no4⟩ := neI o4
  by_cases o5 : op = 5
  ·subst o5
   have hr := HR.out
   rw [if_neg (by decide), if_neg (by decide), if_neg (by decide), if_neg (by decide), if_pos (by decide)] at hr
   simp only [Bool.and_eq_true, decide_eq_true_eq] at hr
   obtain ⟨rfl, hl, hpl⟩ := hr
   have HPL := Lib.hid hpl
   clear hpl
   have HB0 := HBA
   have HW0 := HWA1
   have HX0 := HZA
   go_wp2_with fail
   go_loopw [5, 6, 40] (fun s5 s6 s40 wr => ∃ (j : Nat) (vr : Value), s40 = .int .i64 (j : Nat) ∧ j ≤ n ∧ Hid (Bd T base b wr vr (l ++ wrL 5 (ps.take j) true)) ∧ Hid (Wro base b W wr) ∧ Hid (wr.heap[X]? = some (.cells #[.int .i64 5, .int .i64 0, .slice q n cap] 41 (0, 0)))) (fun _ _ i _ => n - (intOf i).toNat)
   case atStart => exact ⟨0, _, rfl, Nat.zero_le _, by show Bd _ _ _ _ _ _; rw [List.take_zero, wrL, List.append_nil]; exact HB0.out, HW0.out, HX0.out⟩
   case round =>
    obtain ⟨j, vr, rfl, hj, HBr, HWr, HXr⟩ := hrel
    by_cases hlt : j < n
    ·obtain ⟨x, hx⟩ : ∃ x, ps[j]? = some x := ⟨_, List.getElem?_eq_getElem (by rw [HN.out]; exact hlt)⟩
     obtain ⟨bb, o, qq, _, c, hPb, rfl, hbl, d0, d1, d2, rfl, hPt⟩ := HD0.out.part hx
     have hbr := HWr.out.bel.block bb hPb
     have y0 := cell_block hbr d0
     have y1 := cell_block hbr d1
     have y2 := cell_block hbr d2
     have HPT : Hid (∀ W', Below base W W' → WtP (Lo base) W' k [.int .i64 x.op, .int .i64 x.num, .slice qq x.l.length c] x) := fun W' hb => hPt.kept (Lo.kept hb)
     have HXJ := Lib.hid hx
     have g0 : (j : Int) < ((n : Nat) : Int) := by omega
     have g00 : (0 : Int) ≤ (j : Int) := by omega
     have CP := Lib.hid (fun (W : World) => paired_any 5 x.op (.int .i64 0) (.slice (some ⟨bb, o, none⟩) n cap) (.int .i64 x.num) (.slice qq x.l.length c) W)
     have HPX : Hid (patW x (d + if parW 5 x.op = true then 1 else 0) = true) := by have h := HPL.out; rw [patL_all] at h; exact (List.all_eq_true.1 h) x (List.mem_of_getElem? hx)
     have hstep := cntL_step hx
     have hcl := cntL_take_le ps (j + 1)
     have hwl := wrL_len 5 (ps.take j) true
     obtain ⟨R, hR⟩ : ∃ R, wr.heap.size = R := ⟨_, rfl⟩
     obtain ⟨w1, hw1⟩ : ∃ w1, wr.alloc (.cells #[.int .i64 x.op, .int .i64 x.num, .slice qq x.l.length c] 41) = w1 := ⟨_, rfl⟩
     have HR1 := Lib.hid (aRow_ hw1 hR)
     have hb1 : Below wr.heap.size wr w1 := by rw [← hw1]; exact (Below.refl _ wr).alloc (Nat.le_refl _) _
     have hXl := (Array.getElem?_eq_some_iff.1 HXr.out).1
     have hbl2 := HBr.out.lt
     have lXR : X < R := by omega
     have lbR : b < R := by omega
     have HX1 : Hid (w1.heap[X]? = some (.cells #[.int .i64 5, .int .i64 0, .slice (some ⟨bb, o, none⟩) n cap] 41 (0, 0))) := (hb1.block X hXl).trans HXr.out
     have HB1 : Hid (Bd T base b w1 vr (l ++ wrL 5 (ps.take j) true)) := HBr.out.below hb1
     have HW1 : Hid (Wro base b W w1) := HWr.out.below hb1 (by omega)
     have HR := Lib.hid hR
     have Hw1 := Lib.hid hw1
     have r2 : wr.cell? ⟨X, 2, none⟩ = some (.slice (some ⟨bb, o, none⟩) n cap) := by rw [cell_of_row _ _ _ _ _ _ HXr.out]; rfl
     clear hPb hbr hPt hx d0 d1 d2 hbl hR hw1 hb1
     go_upto_region 18 with fail
     rw [HR.out, Hw1.out]
     by_cases hj0 : j = 0
     ·subst hj0
      obtain ⟨x0, x1, x2⟩ := row3_ HX1.out
      have xl : X < w1.heap.size := (Array.getElem?_eq_some_iff.1 HX1.out).1
      obtain ⟨r0, r1, r2⟩ := row3_ HR1.out
      have rl : R < w1.heap.size := (Array.getElem?_eq_some_iff.1 HR1.out).1
      go_wp2_with (go_at_call 144; refine (CP.out _).mono ?_)
      rintro e3 w3 ⟨rfl, hb3⟩
      have HB3 : Hid (Bd T base b w3 _ (l ++ wrL 5 (ps.take 0) true)) := HB1.out.below hb3
      have HW3 : Hid (Wro base b W w3) := HW1.out.below hb3 (by omega)
      have HX3 : Hid (w3.heap[X]? = some (.cells #[.int .i64 5, .int .i64 0, .slice (some ⟨bb, o, none⟩) n cap] 41 (0, 0))) := (hb3.block X xl).trans HX1.out
      have HR3 : Hid (w3.heap[R]? = some (.cells #[.int .i64 x.op, .int .i64 x.num, .slice qq x.l.length c] 41 (0, 0))) := (hb3.block R rl).trans HR1.out
      clear hb3
      by_cases hpar : parW 5 x.op = true
      ·rw [hpar]
       have HPY : Hid (patW x (d + 1) = true) := by have h := HPX.out; rw [hpar] at h; exact h
       have HPC : Hid (pieceW 5 x = [40] ++ (wrW x ++ [41])) := by show _ = _; unfold pieceW; rw [hpar]; rfl
       clear hpar
       have CW4 := Lib.hid (write_any HT.out HB3.out ⟨#[40]⟩ (by show (l ++ wrL 5 (ps.take 0) true).length + 1 ≤ 140737488355328; simp only [length_append, length_cons, length_nil]; omega))
       go_wp2_with (go_at_call 133; refine CW4.out.mono ?_)
       rintro e4 w4 ⟨rfl, ⟨v4, hB4⟩, hW4⟩
       have HB4 : Hid (Bd T base b w4 v4 (l ++ wrL 5 (ps.take 0) true ++ [40])) := by have := hB4; show Bd _ _ _ _ _ _; simpa [bs] using this
       have HW4 : Hid (Wro base b W w4) := HW3.out.trans hW4
       have HX4 := Lib.hid (hW4.box HX3.out (by decide) (by omega))
       have HR4 := Lib.hid (hW4.box HR3.out (by decide) (by omega))
       clear hB4 hW4 CW4
       clear r0 r1 r2
       obtain ⟨r0, r1, r2⟩ := row3_ HR4.out
       have rl : R < w4.heap.size := (Array.getElem?_eq_some_iff.1 HR4.out).1
       have C5 := Lib.hid (IH.out x w4 x.op x.num qq x.l.length c _ _ _ (HPT.out _ HW4.out.bel) (HTB.out _ (HW4.out)) HB4.out HPY.out (by simp only [length_append, length_cons, length_nil]; omega))
       go_wp2_with (go_at_call 105; refine C5.out.mono ?_)
       rintro e5 w5 ⟨rfl, ⟨v5, hB5⟩, hW5⟩
       have HB5 : Hid (Bd T base b w5 v5 (l ++ wrL 5 (ps.take 0) true ++ [40] ++ wrW x)) := hB5
       have HW5 : Hid (Wro base b W w5) := HW4.out.trans hW5
       have HX5 := Lib.hid (hW5.box HX4.out (by decide) (by omega))
       have HR5 := Lib.hid (hW5.box HR4.out (by decide) (by omega))
       clear hB5 hW5 C5
       have hwx := wrW_len x
       have hcx := cntW_pos x
       have CW6 := Lib.hid (write_any HT.out HB5.out ⟨#[41]⟩ (by show (l ++ wrL 5 (ps.take 0) true ++ [40] ++ wrW x).length + 1 ≤ 140737488355328; simp only [length_append, length_cons, length_nil]; omega))
       go_wp2_with (go_at_call 133; refine CW6.out.mono ?_)
       rintro e6 w6 ⟨rfl, ⟨v6, hB6⟩, hW6⟩
       have HB6 : Hid (Bd T base b w6 v6 (l ++ wrL 5 (ps.take 0) true ++ [40] ++ wrW x ++ [41])) := by have := hB6; show Bd _ _ _ _ _ _; simpa [bs] using this
       have HW6 : Hid (Wro base b W w6) := HW5.out.trans hW6
       have HX6 := Lib.hid (hW6.box HX5.out (by decide) (by omega))
       have HR6 := Lib.hid (hW6.box HR5.out (by decide) (by omega))
       clear hB6 hW6 CW6
       go_wp2_with fail
       go_roundw
       case rel => exact ⟨0 + 1, v6, by go_num, by omega, by show Bd _ _ _ _ _ _; rw [wrL_step HXJ.out, HPC.out]; have h := HB6.out; simpa [markB, List.append_assoc] using h, HW6.out, HX6.out⟩
       case measure => simp [intOf]; omega
      ·have hpf : parW 5 x.op = false := by simpa using hpar
       rw [hpf]
       have HPY : Hid (patW x (d) = true) := by have h := HPX.out; rw [hpf] at h; exact h
       have HPC : Hid (pieceW 5 x = wrW x) := by show _ = _; unfold pieceW; rw [hpf]; rfl
       clear hpar hpf
       clear r0 r1 r2
       obtain ⟨r0, r1, r2⟩ := row3_ HR3.out
       have rl : R < w3.heap.size := (Array.getElem?_eq_some_iff.1 HR3.out).1
       have C5 := Lib.hid (IH.out x w3 x.op x.num qq x.l.length c _ _ _ (HPT.out _ HW3.out.bel) (HTB.out _ (HW3.out)) HB3.out HPY.out (by simp only [length_append, length_cons, length_nil]; omega))
       go_wp2_with (go_at_call 105; refine C5.out.mono ?_)
       rintro e5 w5 ⟨rfl, ⟨v5, hB5⟩, hW5⟩
       have HB5 : Hid (Bd T base b w5 v5 (l ++ wrL 5 (ps.take 0) true ++ wrW x)) := hB5
       have HW5 : Hid (Wro base b W w5) := HW3.out.trans hW5
       have HX5 := Lib.hid (hW5.box HX3.out (by decide) (by omega))
       have HR5 := Lib.hid (hW5.box HR3.out (by decide) (by omega))
       clear hB5 hW5 C5
       go_wp2_with fail
       go_roundw
       case rel => exact ⟨0 + 1, v5, by go_num, by omega, by show Bd _ _ _ _ _ _; rw [wrL_step HXJ.out, HPC.out]; have h := HB5.out; simpa [markB, List.append_assoc] using h, HW5.out, HX5.out⟩
       case measure => simp [intOf]; omega
     ·have hj1 : (0 : Int) < (j : Int) := by omega
      have CW2 := Lib.hid (write_any HT.out HB1.out ⟨#[32, 38, 32]⟩ (by show (l ++ wrL 5 (ps.take j) true).length + 3 ≤ 140737488355328; simp only [length_append, length_cons, length_nil]; omega))
      go_wp2_with (go_at_call 133; refine CW2.out.mono ?_)
      rintro e2 w2 ⟨rfl, ⟨v2, hB2⟩, hW2⟩
      have HB2 : Hid (Bd T base b w2 v2 (l ++ wrL 5 (ps.take j) true ++ [32, 38, 32])) := by have := hB2; show Bd _ _ _ _ _ _; simpa [bs] using this
      have HW2 : Hid (Wro base b W w2) := HW1.out.trans hW2
      have HX2 := Lib.hid (hW2.box HX1.out (by decide) (by omega))
      have HR2 := Lib.hid (hW2.box HR1.out (by decide) (by omega))
      clear hB2 hW2 CW2
      obtain ⟨x0, x1, x2⟩ := row3_ HX2.out
      have xl : X < w2.heap.size := (Array.getElem?_eq_some_iff.1 HX2.out).1
      obtain ⟨r0, r1, r2⟩ := row3_ HR2.out
      have rl : R < w2.heap.size := (Array.getElem?_eq_some_iff.1 HR2.out).1
      go_wp2_with (go_at_call 144; refine (CP.out _).mono ?_)
      rintro e3 w3 ⟨rfl, hb3⟩
      have HB3 : Hid (Bd T base b w3 _ (l ++ wrL 5 (ps.take j) true ++ [32, 38, 32])) := HB2.out.below hb3
      have HW3 : Hid (Wro base b W w3) := HW2.out.below hb3 (by omega)
      have HX3 : Hid (w3.heap[X]? = some (.cells #[.int .i64 5, .int .i64 0, .slice (some ⟨bb, o, none⟩) n cap] 41 (0, 0))) := (hb3.block X xl).trans HX2.out
      have HR3 : Hid (w3.heap[R]? = some (.cells #[.int .i64 x.op, .int .i64 x.num, .slice qq x.l.length c] 41 (0, 0))) := (hb3.block R rl).trans HR2.out
      clear hb3
      by_cases hpar : parW 5 x.op = true
      ·rw [hpar]
       have HPY : Hid (patW x (d + 1) = true) := by have h := HPX.out; rw [hpar] at h; exact h
       have HPC : Hid (pieceW 5 x = [40] ++ (wrW x ++ [41])) := by show _ = _; unfold pieceW; rw [hpar]; rfl
       clear hpar
       have CW4 := Lib.hid (write_any HT.out HB3.out ⟨#[40]⟩ (by show (l ++ wrL 5 (ps.take j) true ++ [32, 38, 32]).length + 1 ≤ 140737488355328; simp only [length_append, length_cons, length_nil]; omega))
       go_wp2_with (go_at_call 133; refine CW4.out.mono ?_)
       rintro e4 w4 ⟨rfl, ⟨v4, hB4⟩, hW4⟩
       have HB4 : Hid (Bd T base b w4 v4 (l ++ wrL 5 (ps.take j) true ++ [32, 38, 32] ++ [40])) := by have := hB4; show Bd _ _ _ _ _ _; simpa [bs] using this
       have HW4 : Hid (Wro base b W w4) := HW3.out.trans hW4
       have HX4 := Lib.hid (hW4.box HX3.out (by decide) (by omega))
       have HR4 := Lib.hid (hW4.box HR3.out (by decide) (by omega))
       clear hB4 hW4 CW4
       clear r0 r1 r2
       obtain ⟨r0, r1, r2⟩ := row3_ HR4.out
       have rl : R < w4.heap.size := (Array.getElem?_eq_some_iff.1 HR4.out).1
       have C5 := Lib.hid (IH.out x w4 x.op x.num qq x.l.length c _ _ _ (HPT.out _ HW4.out.bel) (HTB.out _ (HW4.out)) HB4.out HPY.out (by simp only [length_append, length_cons, length_nil]; omega))
       go_wp2_with (go_at_call 105; refine C5.out.mono ?_)
       rintro e5 w5 ⟨rfl, ⟨v5, hB5⟩, hW5⟩
       have HB5 : Hid (Bd T base b w5 v5 (l ++ wrL 5 (ps.take j) true ++ [32, 38, 32] ++ [40] ++ wrW x)) := hB5
       have HW5 : Hid (Wro base b W w5) := HW4.out.trans hW5
       have HX5 := Lib.hid (hW5.box HX4.out (by decide) (by omega))
       have HR5 := Lib.hid (hW5.box HR4.out (by decide) (by omega))
       clear hB5 hW5 C5
       have hwx := wrW_len x
       have hcx := cntW_pos x
       have CW6 := Lib.hid (write_any HT.out HB5.out ⟨#[41]⟩ (by show (l ++ wrL 5 (ps.take j) true ++ [32, 38, 32] ++ [40] ++ wrW x).length + 1 ≤ 140737488355328; simp only [length_append, length_cons, length_nil]; omega))
       go_wp2_with (go_at_call 133; refine CW6.out.mono ?_)
       rintro e6 w6 ⟨rfl, ⟨v6, hB6⟩, hW6⟩
       have HB6 : Hid (Bd T base b w6 v6 (l ++ wrL 5 (ps.take j) true ++ [32, 38, 32] ++ [40] ++ wrW x ++ [41])) := by have := hB6; show Bd _ _ _ _ _ _; simpa [bs] using this
       have HW6 : Hid (Wro base b W w6) := HW5.out.trans hW6
       have HX6 := Lib.hid (hW6.box HX5.out (by decide) (by omega))
       have HR6 := Lib.hid (hW6.box HR5.out (by decide) (by omega))
       clear hB6 hW6 CW6
       go_wp2_with fail
       go_roundw
       case rel => exact ⟨j + 1, v6, by go_num, by omega, by show Bd _ _ _ _ _ _; rw [wrL_step HXJ.out, HPC.out]; have h := HB6.out; simpa [markB, List.append_assoc, hj0] using h, HW6.out, HX6.out⟩
       case measure => simp [intOf]; omega
      ·have hpf : parW 5 x.op = false := by simpa using hpar
       rw [hpf]
       have HPY : Hid (patW x (d) = true) := by have h := HPX.out; rw [hpf] at h; exact h
       have HPC : Hid (pieceW 5 x = wrW x) := by show _ = _; unfold pieceW; rw [hpf]; rfl
       clear hpar hpf
       clear r0 r1 r2
       obtain ⟨r0, r1, r2⟩ := row3_ HR3.out
       have rl : R < w3.heap.size := (Array.getElem?_eq_some_iff.1 HR3.out).1
       have C5 := Lib.hid (IH.out x w3 x.op x.num qq x.l.length c _ _ _ (HPT.out _ HW3.out.bel) (HTB.out _ (HW3.out)) HB3.out HPY.out (by simp only [length_append, length_cons, length_nil]; omega))
       go_wp2_with (go_at_call 105; refine C5.out.mono ?_)
       rintro e5 w5 ⟨rfl, ⟨v5, hB5⟩, hW5⟩
       have HB5 : Hid (Bd T base b w5 v5 (l ++ wrL 5 (ps.take j) true ++ [32, 38, 32] ++ wrW x)) := hB5
       have HW5 : Hid (Wro base b W w5) := HW3.out.trans hW5
       have HX5 := Lib.hid (hW5.box HX3.out (by decide) (by omega))
       have HR5 := Lib.hid (hW5.box HR3.out (by decide) (by omega))
       clear hB5 hW5 C5
       go_wp2_with fail
       go_roundw
       case rel => exact ⟨j + 1, v5, by go_num, by omega, by show Bd _ _ _ _ _ _; rw [wrL_step HXJ.out, HPC.out]; have h := HB5.out; simpa [markB, List.append_assoc, hj0] using h, HW5.out, HX5.out⟩
       case measure => simp [intOf]; omega
    ·obtain rfl : j = n := by omega
     have hjj : ¬ (j : Int) < (j : Int) := by omega
     have HTK : Hid (ps.take j = ps) := List.take_of_length_le (by rw [HN.out]; exact Nat.le_refl _)
     skip
     go_wp2_with fail
     go_end0
     rw [← HPP.out]
     exact ⟨rfl, ⟨vr, by rw [wrW]; have h := HBr.out; rw [HTK.out] at h; simpa using h⟩, HWr.out⟩
  obtain ⟨eo5, no5⟩ := neI o5
  exfalso
  have hr := HR.out
  rw [if_neg o1, if_neg o2, if_neg o3, if_neg o6, if_neg (by omega)] at hr
  cases hr
end
section
set_option maxHeartbeats 4000000
set_option maxRecDepth 100000
open Go Go.RowKit
attribute [local go_sem ↓] Go.wp_at_zero Go.wp_at_succ

mutual
theorem wrW_ne : ∀ (t : Wt) (d : Nat), patW t d = true → wrW t ≠ []
 | .mk op num l, d, h => by
  rw [patW] at h
  rw [wrW]
  simp only [Bool.and_eq_true, decide_eq_true_eq] at h
  by_cases o1 : op = 1
  ·rw [if_pos o1]; decide
  ·rw [if_neg o1] at h ⊢
   by_cases o2 : op = 2
   ·rw [if_pos o2] at h ⊢
    have h2 := h.2
    simp only [Bool.and_eq_true, decide_eq_true_eq] at h2
    have : ∀ i : Fin 14, kindWords.getD i.val [] ≠ [] := by decide
    exact this ⟨num.toNat, by omega⟩
   ·rw [if_neg o2] at h ⊢
    by_cases o3 : op = 3
    ·rw [if_pos o3] at h ⊢
     have h2 := h.2
     simp only [Bool.and_eq_true, decide_eq_true_eq] at h2
     have : ∀ i : Fin 10, faceWords.getD i.val [] ≠ [] := by decide
     exact this ⟨num.toNat, by omega⟩
    ·rw [if_neg o3] at h ⊢
     by_cases o6 : op = 6
     ·rw [if_pos o6]; simp
     ·rw [if_neg o6] at h ⊢
      by_cases o4 : op = 4 ∨ op = 5
      ·rw [if_pos o4] at h
       have h2 := h.2
       simp only [Bool.and_eq_true, decide_eq_true_eq] at h2
       rw [List.nil_append]
       exact wrL_ne op l d (by omega) h2.2.2
      ·rw [if_neg o4] at h
       simp at h
theorem wrL_ne : ∀ (op : Int) (l : List Wt) (d : Nat), 0 < l.length → patL op l d = true → wrL op l true ≠ []
 | _, [], _, h, _ => by simp at h
 | op, x :: xs, d, _, h => by
  rw [patL, Bool.and_eq_true] at h
  have hx := wrW_ne x _ h.1
  rw [wrL]
  rw [if_pos rfl, List.nil_append]
  intro e
  rw [List.append_eq_nil_iff] at e
  obtain ⟨e, -⟩ := e
  split at e
  ·simp at e
  ·exact hx e
end
def PatPost (W : World) (v : Value) (e : Ending) (w' : World) : Prop := e = .returned v ∧ Below W.heap.size W w'
theorem text_any (W : World) (k : Nat) (t : Wt) (op num : Int) (q : Option Addr) (n cap : Nat) (hD : WtP (Lo W.heap.size) W k [.int .i64 op, .int .i64 num, .slice q n cap] t) (hTb : Tb W.heap.size W) (hR : rightB t = true) :
  Calls Tryz.prog 58 #[.agg #[.int .i64 op, .int .i64 num, .slice q n cap]] W (PatPost W (.string (ba (wrW t)))) := by
 obtain ⟨PP, hPP⟩ : ∃ PP, PatPost W (.string (ba (wrW t))) = PP := ⟨_, rfl⟩
 rw [hPP]
 have HPP := Lib.hid hPP
 simp only [rightB, Bool.and_eq_true, decide_eq_true_eq] at hR
 obtain ⟨WA, hWA⟩ : ∃ WA, W.alloc (.cells #[.int .i64 op, .int .i64 num, .slice q n cap] 41) = WA := ⟨_, rfl⟩
 obtain ⟨X, hX⟩ : ∃ X, W.heap.size = X := ⟨_, rfl⟩
 have hbA : Below W.heap.size W WA := by rw [← hWA]; exact (Below.refl _ W).alloc (Nat.le_refl _) _
 have hza := aRow_ hWA hX
 have hsa : WA.heap.size = X + 1 := by rw [← hWA, ← hX]; simp
 obtain ⟨WB, hWB⟩ : ∃ WB, WA.alloc (.cells #[.pointer none, .slice none 0 0] 136) = WB := ⟨_, rfl⟩
 have hbB : Below WA.heap.size WA WB := by rw [← hWB]; exact (Below.refl _ WA).alloc (Nat.le_refl _) _
 have hBd : Bd 136 X (X + 1) WB (.slice none 0 0) [] := by
  have := Bd.new 136 X WA (by omega)
  rwa [hWB, hsa] at this
 have hbAB : Below X W WB := by rw [← hX]; exact hbA.trans (hbB.mono (by omega))
 have hzb : WB.heap[X]? = some (.cells #[.int .i64 op, .int .i64 num, .slice q n cap] 41 (0, 0)) := (hbB.block X (by omega)).trans hza
 have C := Lib.hid (written_any (.inl rfl) X (X + 1) k t WB op num q n cap 0 (.slice none 0 0) [] (by rw [hX] at hD; exact hD.kept (Lo.kept hbAB)) (by rw [hX] at hTb; exact hTb.below hbAB) hBd hR.1 (by simp; omega))
 have hne := wrW_ne t 0 hR.1
 obtain ⟨z0, z1, z2⟩ := row3_ hzb
 have hsb : WB.heap.size = X + 2 := by rw [← hWB]; simp [hsa]
 have lx : X < WB.heap.size := by omega
 have HX := Lib.hid hX
 have HWA := Lib.hid hWA
 have HWB := Lib.hid hWB
 have HAB := Lib.hid hbAB
 have HNE := Lib.hid hne
 have HSA := Lib.hid hsa
 clear hD hTb hR hWA hX hbA hza hsa hWB hbB hBd hbAB hzb hne hPP
 go_enter Tryz.func58, Tryz.ntmps58
 go_upto_region 1 with fail
 rw [HX.out, HWA.out]
 go_upto_region 2 with fail
 rw [HSA.out, HWB.out]
 go_wp2_with (go_at_call 105; refine C.out.mono ?_)
 rintro e1 w1 ⟨rfl, ⟨v1, hB1⟩, hW1⟩
 have CS := Lib.hid (string_any hB1 (.inl (by simpa using HNE.out)))
 have HW1 := Lib.hid hW1
 clear hB1 hW1
 go_wp2_with (go_at_call 94; refine CS.out.mono ?_)
 rintro e2 w2 ⟨rfl, hb2⟩
 go_wp2_with fail
 rw [← HPP.out]
 exact ⟨by simp, by rw [HX.out]; exact HAB.out.trans (HW1.out.bel.trans hb2)⟩
theorem rightp_any (W : World) (k : Nat) (t : Wt) (op num : Int) (q : Option Addr) (n cap : Nat) (hD : WtP (Lo W.heap.size) W k [.int .i64 op, .int .i64 num, .slice q n cap] t) :
  Calls Tryz.prog 57 #[.agg #[.int .i64 op, .int .i64 num, .slice q n cap]] W (PatPost W (.bool (rightB t))) := by
 obtain ⟨PP, hPP⟩ : ∃ PP, PatPost W (.bool (rightB t)) = PP := ⟨_, rfl⟩
 rw [hPP]
 have HPP := Lib.hid hPP
 obtain ⟨WA, hWA⟩ : ∃ WA, W.alloc (.cells #[.int .i64 op, .int .i64 num, .slice q n cap] 41) = WA := ⟨_, rfl⟩
 obtain ⟨X, hX⟩ : ∃ X, W.heap.size = X := ⟨_, rfl⟩
 have hbA : Below W.heap.size W WA := by rw [← hWA]; exact (Below.refl _ W).alloc (Nat.le_refl _) _
 have hza := aRow_ hWA hX
 have hsa : WA.heap.size = X + 1 := by rw [← hWA, ← hX]; simp
 obtain ⟨WB, hWB⟩ : ∃ WB, WA.alloc (.cells #[.int .i64 0] 150) = WB := ⟨_, rfl⟩
 have hbB : Below WA.heap.size WA WB := by rw [← hWB]; exact (Below.refl _ WA).alloc (Nat.le_refl _) _
 have hzl : WB.heap[X + 1]? = some (.cells #[.int .i64 ((0 : Nat) : Int)] 150 (0, 0)) := by rw [← hWB, ← hsa]; exact heap_alloc_new WA _
 have hbAB : Below X W WB := by rw [← hX]; exact hbA.trans (hbB.mono (by omega))
 have hzb : WB.heap[X]? = some (.cells #[.int .i64 op, .int .i64 num, .slice q n cap] 41 (0, 0)) := (hbB.block X (by omega)).trans hza
 have C := Lib.hid (right_any (X + 1) 150 k t WB op num q n cap 0 0 (by rw [hX] at hD; exact hD.kept (fun c hc _ => ⟨hbAB.block c hc, by have hc2 : c < X := hc; show c ≠ X + 1; omega⟩)) hzl (by omega) (by omega))
 obtain ⟨z0, z1, z2⟩ := row3_ hzb
 have hsb : WB.heap.size = X + 2 := by rw [← hWB]; simp [hsa]
 have lx : X < WB.heap.size := by omega
 have HX := Lib.hid hX
 have HWA := Lib.hid hWA
 have HWB := Lib.hid hWB
 have HAB := Lib.hid hbAB
 have HSA := Lib.hid hsa
 have HSB : Hid (WB.heap.size = X + 2) := hsb
 obtain ⟨yA0, yA1, yA2⟩ := row3_ hza
 have lxa : X < WA.heap.size := by omega
 clear hD hWA hX hbA hza hsa hWB hbB hbAB hzb hPP hzl hsb
 go_enter Tryz.func57, Tryz.ntmps57
 go_upto_region 1 with fail
 rw [HX.out, HWA.out]
 go_wp2_with (go_at_call 104; rw [HSA.out, HWB.out]; refine C.out.mono ?_; rintro e1 w1 ⟨rfl, -, hg1⟩)
 rw [← HPP.out]
 refine ⟨by unfold rightB; rfl, by rw [HX.out]; exact HAB.out.trans ⟨hg1.os, hg1.tape, hg1.output, hg1.size, fun b hb => hg1.block b (by have := HSB.out; omega) (fun e => by have := Option.some.inj e; omega)⟩⟩
theorem empty_str : (⟨#[]⟩ : ByteArray) = ba [] := rfl
end
section
open Go

theorem oneS_err (l : List UInt8) (p : Nat) : (oneS l p).1 = 0 ∨ (60 ≤ (oneS l p).1 ∧ (oneS l p).1 ≤ 66) := by
 cases l with
 | nil => exact .inr ⟨Nat.le_of_ble_eq_true rfl, Nat.le_of_ble_eq_true rfl⟩
 | cons c r =>
  show (oneC c r p).1 = 0 ∨ (60 ≤ (oneC c r p).1 ∧ (oneC c r p).1 ≤ 66)
  unfold oneC
  repeat' split
  all_goals first | exact .inl rfl | exact .inr ⟨Nat.le_of_ble_eq_true rfl, Nat.le_of_ble_eq_true rfl⟩
theorem scanF_bad : ∀ (f : Nat) (l : List UInt8) (p r q e : Nat), scanF f l p r = .bad q e → p ≤ q ∧ q ≤ p + l.length ∧ 60 ≤ e ∧ e ≤ 66
 | 0, l, p, r, q, e, h => by cases h
 | f + 1, l, p, r, q, e, h => by
  unfold scanF at h
  by_cases hl : l = []
  ·rw [if_pos hl] at h; cases h
  ·rw [if_neg hl] at h
   cases hs : skipN l with
   | none =>
    rw [hs] at h
    injection h with h1 h2
    subst h1; subst h2
    exact ⟨Nat.le_refl _, by omega, Nat.le_of_ble_eq_true rfl, Nat.le_of_ble_eq_true rfl⟩
   | some n =>
    rw [hs] at h
    have hn := skipN_le hs
    cases n with
    | succ n =>
     obtain ⟨h1, h2, h3⟩ := scanF_bad f _ _ _ _ _ h
     rw [List.length_drop] at h2
     exact ⟨by omega, by omega, h3⟩
    | zero =>
     by_cases e1 : (oneS l p).1 = 61
     ·rw [if_pos e1] at h
      injection h with h1 h2
      subst h1; subst h2
      exact ⟨Nat.le_refl _, by omega, Nat.le_of_ble_eq_true rfl, Nat.le_of_ble_eq_true rfl⟩
     ·rw [if_neg e1] at h
      by_cases e2 : r = 0
      ·rw [if_pos e2] at h
       injection h with h1 h2
       subst h1; subst h2
       exact ⟨Nat.le_refl _, by omega, Nat.le_of_ble_eq_true rfl, Nat.le_of_ble_eq_true rfl⟩
      ·rw [if_neg e2] at h
       by_cases e3 : (oneS l p).1 ≠ 0
       ·rw [if_pos e3] at h
        injection h with h1 h2
        subst h1; subst h2
        have := oneS_err l p
        exact ⟨Nat.le_refl _, by omega, by omega, by omega⟩
       ·rw [if_neg e3] at h
        have e3 : (oneS l p).1 = 0 := Classical.not_not.1 e3
        have hst := oneS_stop e3
        have hp := oneS_at l p
        cases hg : scanF f (l.drop ((oneS l p).2.stop - p)) (oneS l p).2.stop (r - 1) with
        | toks us => rw [hg] at h; cases h
        | bad q2 e2 =>
         rw [hg] at h
         injection h with h1 h2
         subst h1; subst h2
         obtain ⟨h1, h2, h3⟩ := scanF_bad f _ _ _ _ _ hg
         rw [List.length_drop] at h2
         exact ⟨by omega, by omega, h3⟩
theorem scanS_bad {l : List UInt8} {q e : Nat} (h : scanS l = .bad q e) : q ≤ l.length ∧ 60 ≤ e ∧ e ≤ 66 := by
 unfold scanS at h
 split at h
 ·injection h with h1 h2
  subst h1; subst h2
  exact ⟨Nat.zero_le _, Nat.le_of_ble_eq_true rfl, Nat.le_of_ble_eq_true rfl⟩
 ·obtain ⟨-, h2, h3⟩ := scanF_bad _ _ _ _ _ _ h
  exact ⟨by omega, h3⟩
end
end Go.Proofs.YtbdllefnghddcaaGreatDoor
