/- PARSE: Fit (the program), gone on. -/
import Derived.Deep.DeepCutAuto
import Derived.Test.YtbdllefnghddcaaGreatDoorParseFit
import Derived.Test.YtbdllefnghddcaaGreatDoorPMem
namespace Go.Proofs.YtbdllefnghddcaaGreatDoor
open Go Go.RowKit
attribute [local go_sem ↓] Go.wp_at_zero Go.wp_at_succ

set_option maxRecDepth 100000 in
set_option maxHeartbeats 8000000 in
set_option linter.unusedSimpArgs false in
theorem fithand_any (d : HandT) (W : World) (k : Nat) {cs : List Value} (hE : Env W) (hS : SmH d) (hR : HandP All W k cs d) :
  Calls Tryz.prog 39 #[.agg cs.toArray] W (PatPost W (.bool (handB d))) := by
 obtain ⟨PP, hPP⟩ : ∃ PP, PatPost W (.bool (handB d)) = PP := ⟨_, rfl⟩
 rw [hPP]
 have HPP := Lib.hid hPP
 obtain ⟨c0, c1, c2, c3, c4, c5, v, u, rfl, hcore, hws, haf⟩ := hR
 obtain ⟨cv, ec, hcaps⟩ := hcore
 simp only [List.cons.injEq, and_true] at ec
 obtain ⟨rfl, rfl, rfl, rfl, rfl, rfl⟩ := ec
 obtain ⟨cq, cc, rfl, -⟩ := UsP.shape hcaps
 obtain ⟨vq, vk, rfl, -⟩ := hws.shape
 obtain ⟨aq, ac, rfl, -⟩ := UsP.shape haf
 obtain ⟨WA, hWA⟩ : ∃ WA, W.alloc (.cells #[.string d.name, .string d.of_.name, .int .i64 d.of_.pos, .string d.core.word, .bool d.core.has, .bool d.core.minus, .int .u64 d.core.num, .slice cq d.core.caps.length cc, .int .i64 d.core.pos, .slice vq d.wraps.length vk, .bool d.room, .int .u64 d.inbox, .string d.drop.name, .int .i64 d.drop.pos, .slice aq d.after.length ac, .int .i64 d.pos] 81) = WA := ⟨_, rfl⟩
 obtain ⟨X, hX⟩ : ∃ X, W.heap.size = X := ⟨_, rfl⟩
 have HBA : Hid (Below W.heap.size W WA) := by rw [← hWA]; exact (Below.refl _ W).alloc (Nat.le_refl _) _
 have hza := aRow_ hWA hX
 have hsa : WA.heap.size = X + 1 := by rw [← hWA, ← hX]; simp
 have lxa : X < WA.heap.size := by omega
 obtain ⟨z0, z1, z2, z3, z4, z5, z6, z7, z8, z9, z10, z11, z12, z13, z14, z15⟩ := row16_ hza
 have HZA := Lib.hid hza
 have HX := Lib.hid hX
 have HWA := Lib.hid hWA
 clear hza hX hWA
 obtain ⟨WB, hWB⟩ : ∃ WB, WA.alloc (.cells #[.string d.core.word, .bool d.core.has, .bool d.core.minus, .int .u64 d.core.num, .slice cq d.core.caps.length cc, .int .i64 d.core.pos] 78) = WB := ⟨_, rfl⟩
 have hbB : Below WA.heap.size WA WB := by rw [← hWB]; exact (Below.refl _ WA).alloc (Nat.le_refl _) _
 have HY0 : Hid (WB.heap[X + 1]? = some (.cells #[.string d.core.word, .bool d.core.has, .bool d.core.minus, .int .u64 d.core.num, .slice cq d.core.caps.length cc, .int .i64 d.core.pos] 78 (0, 0))) := by rw [← hWB, ← hsa]; exact heap_alloc_new WA _
 have HX0 : Hid (WB.heap[X]? = some (.cells #[.string d.name, .string d.of_.name, .int .i64 d.of_.pos, .string d.core.word, .bool d.core.has, .bool d.core.minus, .int .u64 d.core.num, .slice cq d.core.caps.length cc, .int .i64 d.core.pos, .slice vq d.wraps.length vk, .bool d.room, .int .u64 d.inbox, .string d.drop.name, .int .i64 d.drop.pos, .slice aq d.after.length ac, .int .i64 d.pos] 81 (0, 0))) := (hbB.block X lxa).trans HZA.out
 have HB0 := Lib.hid (HBA.out.trans (hbB.mono HBA.out.size))
 have HSA : Hid (WA.heap.size = X + 1) := hsa
 have HWBe := Lib.hid hWB
 have HE := Lib.hid hE
 have HS := Lib.hid hS
 have HCA := Lib.hid hcaps
 have HWS := Lib.hid hws
 have HAF := Lib.hid haf
 obtain ⟨Y, hY⟩ : ∃ Y, X + 1 = Y := ⟨_, rfl⟩
 rw [hY] at HY0 HSA
 clear hPP hE hS hcaps hws haf hbB hsa hWB hY
 go_enter Tryz.func39, Tryz.ntmps39
 go_upto_region 1 with fail
 rw [HX.out, HWA.out]
 go_upto_region 2 with fail
 clear z0 z1 z2 z3 z4 z5 z6 z7 z8 z9 z10 z11 z12 z13 z14 z15 lxa
 rw [HSA.out, HWBe.out]
 skip
 go_cut [44] (fun s44 wx => s44 = .bool (!headB d) ∧ Hid (Below W.heap.size W wx) ∧ Hid (wx.heap[X]? = some (.cells #[.string d.name, .string d.of_.name, .int .i64 d.of_.pos, .string d.core.word, .bool d.core.has, .bool d.core.minus, .int .u64 d.core.num, .slice cq d.core.caps.length cc, .int .i64 d.core.pos, .slice vq d.wraps.length vk, .bool d.room, .int .u64 d.inbox, .string d.drop.name, .int .i64 d.drop.pos, .slice aq d.after.length ac, .int .i64 d.pos] 81 (0, 0))) ∧ Hid (wx.heap[Y]? = some (.cells #[.string d.core.word, .bool d.core.has, .bool d.core.minus, .int .u64 d.core.num, .slice cq d.core.caps.length cc, .int .i64 d.core.pos] 78 (0, 0))))
 case first =>
  obtain ⟨cX0, cX1, cX2, cX3, cX4, cX5, cX6, cX7, cX8, cX9, cX10, cX11, cX12, cX13, cX14, cX15⟩ := row16_ HX0.out
  have ltX : X < WB.heap.size := (Array.getElem?_eq_some_iff.1 HX0.out).1
  obtain ⟨cY0, cY1, cY2, cY3, cY4, cY5⟩ := row6_ HY0.out
  have ltY : Y < WB.heap.size := (Array.getElem?_eq_some_iff.1 HY0.out).1
  have C1 := Lib.hid (isname_any d.name WB (HE.out.below HB0.out) HS.out.1)
  go_wp2_with (go_at_call 40; refine C1.out.mono ?_)
  clear cX0 cX1 cX2 cX3 cX4 cX5 cX6 cX7 cX8 cX9 cX10 cX11 cX12 cX13 cX14 cX15 ltX cY0 cY1 cY2 cY3 cY4 cY5 ltY
  rintro e1 w1 ⟨rfl, hb1⟩
  have HB1 := Lib.hid (HB0.out.trans (hb1.mono HB0.out.size))
  have hX1 := (hb1.block X (Array.getElem?_eq_some_iff.1 HX0.out).1).trans HX0.out
  obtain ⟨cX0, cX1, cX2, cX3, cX4, cX5, cX6, cX7, cX8, cX9, cX10, cX11, cX12, cX13, cX14, cX15⟩ := row16_ hX1
  have ltX : X < w1.heap.size := (Array.getElem?_eq_some_iff.1 hX1).1
  have HX1 := Lib.hid hX1
  clear hX1
  have hY1 := (hb1.block Y (Array.getElem?_eq_some_iff.1 HY0.out).1).trans HY0.out
  obtain ⟨cY0, cY1, cY2, cY3, cY4, cY5⟩ := row6_ hY1
  have ltY : Y < w1.heap.size := (Array.getElem?_eq_some_iff.1 hY1).1
  have HY1 := Lib.hid hY1
  clear hY1
  clear hb1 C1
  cases hq1 : nameB d.name with
  | false =>
   have HQ1 := Lib.hid hq1
   clear hq1
   have HV : Hid (headB d = false) := by show _ = _; unfold headB; rw [HQ1.out]; rfl
   go_wp2_with fail
   go_meet
   exact ⟨by rw [HV.out]; rfl, HB1.out, HX1.out, HY1.out⟩
  | true =>
   have HQ1 := Lib.hid hq1
   clear hq1
   have C2 := Lib.hid (isnames_any (FlP.kept HAF.out (All.kept HB1.out)) (HE.out.below HB1.out) HS.out.2.2.2.2.2.2)
   go_wp2_with (go_at_call 82; refine C2.out.mono ?_)
   clear cX0 cX1 cX2 cX3 cX4 cX5 cX6 cX7 cX8 cX9 cX10 cX11 cX12 cX13 cX14 cX15 ltX cY0 cY1 cY2 cY3 cY4 cY5 ltY
   rintro e2 w2 ⟨rfl, hb2⟩
   have HB2 := Lib.hid (HB1.out.trans (hb2.mono HB1.out.size))
   have hX2 := (hb2.block X (Array.getElem?_eq_some_iff.1 HX1.out).1).trans HX1.out
   obtain ⟨cX0, cX1, cX2, cX3, cX4, cX5, cX6, cX7, cX8, cX9, cX10, cX11, cX12, cX13, cX14, cX15⟩ := row16_ hX2
   have ltX : X < w2.heap.size := (Array.getElem?_eq_some_iff.1 hX2).1
   have HX2 := Lib.hid hX2
   clear hX2
   have hY2 := (hb2.block Y (Array.getElem?_eq_some_iff.1 HY1.out).1).trans HY1.out
   obtain ⟨cY0, cY1, cY2, cY3, cY4, cY5⟩ := row6_ hY2
   have ltY : Y < w2.heap.size := (Array.getElem?_eq_some_iff.1 hY2).1
   have HY2 := Lib.hid hY2
   clear hY2
   clear hb2 C2
   cases hq2 : namesB d.after with
   | false =>
    have HQ2 := Lib.hid hq2
    clear hq2
    have HV : Hid (headB d = false) := by show _ = _; unfold headB; rw [HQ1.out, HQ2.out]; rfl
    go_wp2_with fail
    go_meet
    exact ⟨by rw [HV.out]; rfl, HB2.out, HX2.out, HY2.out⟩
   | true =>
    have HQ2 := Lib.hid hq2
    clear hq2
    by_cases hs0 : d.drop.name.size = 0
    ·have hse := noname hs0
     have HZ := Lib.hid hs0
     rw [hse] at cX12
     clear hs0 hse
     rcases Bool.eq_false_or_eq_true d.room with hrm | hrm
     ·skip
      rw [hrm] at cX10
      have HRM := Lib.hid hrm
      clear hrm
      have HV : Hid (headB d = true) := by show _ = _; unfold headB; rw [HQ1.out, HQ2.out, HRM.out, decide_eq_true HZ.out]; rfl
      go_wp2_with fail
      go_meet
      exact ⟨by rw [HV.out]; rfl, HB2.out, HX2.out, HY2.out⟩
     ·skip
      rw [hrm] at cX10
      have HRM := Lib.hid hrm
      clear hrm
      by_cases hi : d.inbox = 0
      ·rw [hi] at cX11
       have HI := Lib.hid hi
       clear hi
       have HV : Hid (headB d = true) := by show _ = _; unfold headB; rw [HQ1.out, HQ2.out, HRM.out, decide_eq_true HZ.out, decide_eq_true HI.out]; rfl
       go_wp2_with fail
       go_meet
       exact ⟨by rw [HV.out]; rfl, HB2.out, HX2.out, HY2.out⟩
      ·obtain ⟨i1, i2⟩ := neI hi
       have HI := Lib.hid hi
       have HV : Hid (headB d = false) := by show _ = _; unfold headB; rw [HQ1.out, HQ2.out, HRM.out, decide_eq_false HI.out]; rfl
       go_wp2_with fail
       go_meet
       exact ⟨by rw [HV.out]; rfl, HB2.out, HX2.out, HY2.out⟩
    ·obtain ⟨n1, n2, n3, n4⟩ := noname_ne hs0
     have HZ := Lib.hid hs0
     clear hs0
     have C3 := Lib.hid (isname_any d.drop.name w2 (HE.out.below HB2.out) HS.out.2.2.2.2.2.1)
     go_wp2_with (go_at_call 40; refine C3.out.mono ?_)
     clear cX0 cX1 cX2 cX3 cX4 cX5 cX6 cX7 cX8 cX9 cX10 cX11 cX12 cX13 cX14 cX15 ltX cY0 cY1 cY2 cY3 cY4 cY5 ltY
     rintro e3 w3 ⟨rfl, hb3⟩
     have HB3 := Lib.hid (HB2.out.trans (hb3.mono HB2.out.size))
     have hX3 := (hb3.block X (Array.getElem?_eq_some_iff.1 HX2.out).1).trans HX2.out
     obtain ⟨cX0, cX1, cX2, cX3, cX4, cX5, cX6, cX7, cX8, cX9, cX10, cX11, cX12, cX13, cX14, cX15⟩ := row16_ hX3
     have ltX : X < w3.heap.size := (Array.getElem?_eq_some_iff.1 hX3).1
     have HX3 := Lib.hid hX3
     clear hX3
     have hY3 := (hb3.block Y (Array.getElem?_eq_some_iff.1 HY2.out).1).trans HY2.out
     obtain ⟨cY0, cY1, cY2, cY3, cY4, cY5⟩ := row6_ hY3
     have ltY : Y < w3.heap.size := (Array.getElem?_eq_some_iff.1 hY3).1
     have HY3 := Lib.hid hY3
     clear hY3
     clear hb3 C3
     cases hq3 : nameB d.drop.name with
     | false =>
      have HQ3 := Lib.hid hq3
      clear hq3
      have HV : Hid (headB d = false) := by show _ = _; unfold headB; rw [HQ1.out, HQ2.out, HQ3.out, decide_eq_false HZ.out]; simp
      go_wp2_with fail
      go_meet
      exact ⟨by rw [HV.out]; rfl, HB3.out, HX3.out, HY3.out⟩
     | true =>
      have HQ3 := Lib.hid hq3
      clear hq3
      rcases Bool.eq_false_or_eq_true d.room with hrm | hrm
      ·skip
       rw [hrm] at cX10
       have HRM := Lib.hid hrm
       clear hrm
       have HV : Hid (headB d = true) := by show _ = _; unfold headB; rw [HQ1.out, HQ2.out, HQ3.out, HRM.out]; simp
       go_wp2_with fail
       go_meet
       exact ⟨by rw [HV.out]; rfl, HB3.out, HX3.out, HY3.out⟩
      ·skip
       rw [hrm] at cX10
       have HRM := Lib.hid hrm
       clear hrm
       by_cases hi : d.inbox = 0
       ·rw [hi] at cX11
        clear hi
        have HV : Hid (headB d = false) := by show _ = _; unfold headB; rw [HQ1.out, HQ2.out, HRM.out, decide_eq_false HZ.out]; simp
        go_wp2_with fail
        go_meet
        exact ⟨by rw [HV.out]; rfl, HB3.out, HX3.out, HY3.out⟩
       ·obtain ⟨i1, i2⟩ := neI hi
        have HV : Hid (headB d = false) := by show _ = _; unfold headB; rw [HQ1.out, HQ2.out, HRM.out, decide_eq_false HZ.out]; simp
        go_wp2_with fail
        go_meet
        exact ⟨by rw [HV.out]; rfl, HB3.out, HX3.out, HY3.out⟩
 case rest =>
  obtain ⟨hv44, HBw, HXw, HYw⟩ := hcut
  obtain ⟨cX0, cX1, cX2, cX3, cX4, cX5, cX6, cX7, cX8, cX9, cX10, cX11, cX12, cX13, cX14, cX15⟩ := row16_ HXw.out
  have ltX : X < wc.heap.size := (Array.getElem?_eq_some_iff.1 HXw.out).1
  obtain ⟨cY0, cY1, cY2, cY3, cY4, cY5⟩ := row6_ HYw.out
  have ltY : Y < wc.heap.size := (Array.getElem?_eq_some_iff.1 HYw.out).1
  cases hhd : headB d with
  | false =>
   have HHD := Lib.hid hhd
   rw [hhd] at hv44
   subst hv44
   clear hhd
   have HV : Hid (handB d = false) := by show _ = _; unfold handB; rw [HHD.out]; rfl
   go_wp2_with fail
   rw [← HPP.out]
   exact ⟨by rw [HV.out]; rfl, HBw.out⟩
  | true =>
   have HHD := Lib.hid hhd
   rw [hhd] at hv44
   subst hv44
   clear hhd
   by_cases hs0 : d.of_.name.size = 0
   ·have hse := noname hs0
    have HZ := Lib.hid hs0
    rw [hse] at cX1
    clear hs0 hse
    have C4 := Lib.hid (isname_any d.core.word wc (HE.out.below HBw.out) HS.out.2.2.1)
    go_wp2_with (go_at_call 40; refine C4.out.mono ?_)
    clear cX0 cX1 cX2 cX3 cX4 cX5 cX6 cX7 cX8 cX9 cX10 cX11 cX12 cX13 cX14 cX15 ltX cY0 cY1 cY2 cY3 cY4 cY5 ltY
    rintro e4 w4 ⟨rfl, hb4⟩
    have HB4 := Lib.hid (HBw.out.trans (hb4.mono HBw.out.size))
    have hX4 := (hb4.block X (Array.getElem?_eq_some_iff.1 HXw.out).1).trans HXw.out
    obtain ⟨cX0, cX1, cX2, cX3, cX4, cX5, cX6, cX7, cX8, cX9, cX10, cX11, cX12, cX13, cX14, cX15⟩ := row16_ hX4
    have ltX : X < w4.heap.size := (Array.getElem?_eq_some_iff.1 hX4).1
    have HX4 := Lib.hid hX4
    clear hX4
    have hY4 := (hb4.block Y (Array.getElem?_eq_some_iff.1 HYw.out).1).trans HYw.out
    obtain ⟨cY0, cY1, cY2, cY3, cY4, cY5⟩ := row6_ hY4
    have ltY : Y < w4.heap.size := (Array.getElem?_eq_some_iff.1 hY4).1
    have HY4 := Lib.hid hY4
    clear hY4
    clear hb4 C4
    cases hq4 : nameB d.core.word with
    | false =>
     have HQ4 := Lib.hid hq4
     clear hq4
     have HV : Hid (handB d = false) := by show _ = _; unfold handB; rw [HHD.out, if_pos HZ.out]; unfold coreB; rw [HQ4.out]; rfl
     go_wp2_with fail
     rw [← HPP.out]
     exact ⟨by rw [HV.out]; rfl, HB4.out⟩
    | true =>
     have HQ4 := Lib.hid hq4
     clear hq4
     have C5 := Lib.hid (isnames_any (FlP.kept HCA.out (All.kept HB4.out)) (HE.out.below HB4.out) HS.out.2.2.2.1)
     go_wp2_with (go_at_call 82; refine C5.out.mono ?_)
     clear cX0 cX1 cX2 cX3 cX4 cX5 cX6 cX7 cX8 cX9 cX10 cX11 cX12 cX13 cX14 cX15 ltX cY0 cY1 cY2 cY3 cY4 cY5 ltY
     rintro e5 w5 ⟨rfl, hb5⟩
     have HB5 := Lib.hid (HB4.out.trans (hb5.mono HB4.out.size))
     have hX5 := (hb5.block X (Array.getElem?_eq_some_iff.1 HX4.out).1).trans HX4.out
     obtain ⟨cX0, cX1, cX2, cX3, cX4, cX5, cX6, cX7, cX8, cX9, cX10, cX11, cX12, cX13, cX14, cX15⟩ := row16_ hX5
     have ltX : X < w5.heap.size := (Array.getElem?_eq_some_iff.1 hX5).1
     have HX5 := Lib.hid hX5
     clear hX5
     have hY5 := (hb5.block Y (Array.getElem?_eq_some_iff.1 HY4.out).1).trans HY4.out
     obtain ⟨cY0, cY1, cY2, cY3, cY4, cY5⟩ := row6_ hY5
     have ltY : Y < w5.heap.size := (Array.getElem?_eq_some_iff.1 hY5).1
     have HY5 := Lib.hid hY5
     clear hY5
     clear hb5 C5
     cases hq5 : namesB d.core.caps with
     | false =>
      have HQ5 := Lib.hid hq5
      clear hq5
      have HV : Hid (handB d = false) := by show _ = _; unfold handB; rw [HHD.out, if_pos HZ.out]; unfold coreB; rw [HQ5.out]; simp
      go_wp2_with fail
      rw [← HPP.out]
      exact ⟨by rw [HV.out]; rfl, HB5.out⟩
     | true =>
      have HQ5 := Lib.hid hq5
      clear hq5
      rcases Bool.eq_false_or_eq_true d.core.has with hhas | hhas
      ·skip
       rw [hhas] at cY1
       have HH := Lib.hid hhas
       clear hhas
       have HOK : Hid (handB d = d.wraps.all wrapB) := by show _ = _; unfold handB; rw [HHD.out, if_pos HZ.out]; unfold coreB; rw [HQ4.out, HQ5.out, HH.out]; simp
       have CW := Lib.hid (haswrap_any (HWS.out.kept (All.kept HB5.out) (fun cs x h => h.kept (All.kept HB5.out))) (HE.out.below HB5.out) HS.out.2.2.2.2.1)
       go_wp2_with (go_at_call 83; refine CW.out.mono ?_; rintro e9 w9 ⟨rfl, hb9⟩)
       rw [← HPP.out]
       exact ⟨by rw [HOK.out]; simp, HB5.out.trans (hb9.mono HB5.out.size)⟩
      ·skip
       rw [hhas] at cY1
       have HH := Lib.hid hhas
       clear hhas
       rcases Bool.eq_false_or_eq_true d.core.minus with hmi | hmi
       ·skip
        rw [hmi] at cY2
        have HM := Lib.hid hmi
        clear hmi
        have HV : Hid (handB d = false) := by show _ = _; unfold handB; rw [HHD.out, if_pos HZ.out]; unfold coreB; rw [HQ4.out, HH.out, HM.out]; simp
        go_wp2_with fail
        rw [← HPP.out]
        exact ⟨by rw [HV.out]; rfl, HB5.out⟩
       ·skip
        rw [hmi] at cY2
        have HM := Lib.hid hmi
        clear hmi
        by_cases hnu : d.core.num = 0
        ·rw [hnu] at cY3
         have HU := Lib.hid hnu
         clear hnu
         have HOK : Hid (handB d = d.wraps.all wrapB) := by show _ = _; unfold handB; rw [HHD.out, if_pos HZ.out]; unfold coreB; rw [HQ4.out, HQ5.out, HH.out, HM.out, decide_eq_true HU.out]; simp
         have CW := Lib.hid (haswrap_any (HWS.out.kept (All.kept HB5.out) (fun cs x h => h.kept (All.kept HB5.out))) (HE.out.below HB5.out) HS.out.2.2.2.2.1)
         go_wp2_with (go_at_call 83; refine CW.out.mono ?_; rintro e9 w9 ⟨rfl, hb9⟩)
         rw [← HPP.out]
         exact ⟨by rw [HOK.out]; simp, HB5.out.trans (hb9.mono HB5.out.size)⟩
        ·obtain ⟨i1, i2⟩ := neI hnu
         have HU := Lib.hid hnu
         have HV : Hid (handB d = false) := by show _ = _; unfold handB; rw [HHD.out, if_pos HZ.out]; unfold coreB; rw [HQ4.out, HH.out, decide_eq_false HU.out]; simp
         go_wp2_with fail
         rw [← HPP.out]
         exact ⟨by rw [HV.out]; rfl, HB5.out⟩
   ·obtain ⟨n1, n2, n3, n4⟩ := noname_ne hs0
    have HZ := Lib.hid hs0
    clear hs0
    have C4 := Lib.hid (isname_any d.of_.name wc (HE.out.below HBw.out) HS.out.2.1)
    go_wp2_with (go_at_call 40; refine C4.out.mono ?_)
    clear cX0 cX1 cX2 cX3 cX4 cX5 cX6 cX7 cX8 cX9 cX10 cX11 cX12 cX13 cX14 cX15 ltX cY0 cY1 cY2 cY3 cY4 cY5 ltY
    rintro e4 w4 ⟨rfl, hb4⟩
    have HB4 := Lib.hid (HBw.out.trans (hb4.mono HBw.out.size))
    have hX4 := (hb4.block X (Array.getElem?_eq_some_iff.1 HXw.out).1).trans HXw.out
    obtain ⟨cX0, cX1, cX2, cX3, cX4, cX5, cX6, cX7, cX8, cX9, cX10, cX11, cX12, cX13, cX14, cX15⟩ := row16_ hX4
    have ltX : X < w4.heap.size := (Array.getElem?_eq_some_iff.1 hX4).1
    have HX4 := Lib.hid hX4
    clear hX4
    have hY4 := (hb4.block Y (Array.getElem?_eq_some_iff.1 HYw.out).1).trans HYw.out
    obtain ⟨cY0, cY1, cY2, cY3, cY4, cY5⟩ := row6_ hY4
    have ltY : Y < w4.heap.size := (Array.getElem?_eq_some_iff.1 hY4).1
    have HY4 := Lib.hid hY4
    clear hY4
    clear hb4 C4
    cases hq4 : nameB d.of_.name with
    | false =>
     have HQ4 := Lib.hid hq4
     clear hq4
     have HV : Hid (handB d = false) := by show _ = _; unfold handB; rw [HHD.out, if_neg HZ.out]; unfold noCoreB; rw [HQ4.out]; rfl
     go_wp2_with fail
     rw [← HPP.out]
     exact ⟨by rw [HV.out]; rfl, HB4.out⟩
    | true =>
     have HQ4 := Lib.hid hq4
     clear hq4
     by_cases hw0 : d.core.word.size = 0
     ·have hwe := noname hw0
      have HW0 := Lib.hid hw0
      rw [hwe] at cY0
      clear hw0 hwe
      rcases Bool.eq_false_or_eq_true d.core.has with hhas | hhas
      ·skip
       rw [hhas] at cY1
       have HH := Lib.hid hhas
       clear hhas
       have HV : Hid (handB d = false) := by show _ = _; unfold handB; rw [HHD.out, if_neg HZ.out]; unfold noCoreB; rw [HH.out]; simp
       go_wp2_with fail
       rw [← HPP.out]
       exact ⟨by rw [HV.out]; rfl, HB4.out⟩
      ·skip
       rw [hhas] at cY1
       have HH := Lib.hid hhas
       clear hhas
       rcases Bool.eq_false_or_eq_true d.core.minus with hmi | hmi
       ·skip
        rw [hmi] at cY2
        have HM := Lib.hid hmi
        clear hmi
        have HV : Hid (handB d = false) := by show _ = _; unfold handB; rw [HHD.out, if_neg HZ.out]; unfold noCoreB; rw [HM.out]; simp
        go_wp2_with fail
        rw [← HPP.out]
        exact ⟨by rw [HV.out]; rfl, HB4.out⟩
       ·skip
        rw [hmi] at cY2
        have HM := Lib.hid hmi
        clear hmi
        by_cases hnu : d.core.num = 0
        ·rw [hnu] at cY3
         have HU := Lib.hid hnu
         clear hnu
         by_cases hcl : d.core.caps.length = 0
         ·have HCL := Lib.hid hcl
          rw [hcl] at cY4
          clear hcl
          have HOK : Hid (handB d = d.wraps.all wrapB) := by show _ = _; unfold handB; rw [HHD.out, if_neg HZ.out]; unfold noCoreB; rw [HQ4.out, HH.out, HM.out, decide_eq_true HU.out, decide_eq_true HW0.out, decide_eq_true HCL.out]; simp
          have CW := Lib.hid (haswrap_any (HWS.out.kept (All.kept HB4.out) (fun cs x h => h.kept (All.kept HB4.out))) (HE.out.below HB4.out) HS.out.2.2.2.2.1)
          go_wp2_with (go_at_call 83; refine CW.out.mono ?_; rintro e9 w9 ⟨rfl, hb9⟩)
          rw [← HPP.out]
          exact ⟨by rw [HOK.out]; simp, HB4.out.trans (hb9.mono HB4.out.size)⟩
         ·have hcp : (0 : Int) < ((d.core.caps.length : Nat) : Int) := by omega
          have HCL := Lib.hid hcl
          have HV : Hid (handB d = false) := by show _ = _; unfold handB; rw [HHD.out, if_neg HZ.out]; unfold noCoreB; rw [decide_eq_false HCL.out]; simp
          go_wp2_with fail
          rw [← HPP.out]
          exact ⟨by rw [HV.out]; rfl, HB4.out⟩
        ·obtain ⟨i1, i2⟩ := neI hnu
         have HU := Lib.hid hnu
         have HV : Hid (handB d = false) := by show _ = _; unfold handB; rw [HHD.out, if_neg HZ.out]; unfold noCoreB; rw [decide_eq_false HU.out]; simp
         go_wp2_with fail
         rw [← HPP.out]
         exact ⟨by rw [HV.out]; rfl, HB4.out⟩
     ·obtain ⟨m1, m2, m3, m4⟩ := noname_ne hw0
      have HW0 := Lib.hid hw0
      clear hw0
      have HV : Hid (handB d = false) := by show _ = _; unfold handB; rw [HHD.out, if_neg HZ.out]; unfold noCoreB; rw [decide_eq_false HW0.out]; simp
      go_wp2_with fail
      rw [← HPP.out]
      exact ⟨by rw [HV.out]; rfl, HB4.out⟩
end Go.Proofs.YtbdllefnghddcaaGreatDoor
