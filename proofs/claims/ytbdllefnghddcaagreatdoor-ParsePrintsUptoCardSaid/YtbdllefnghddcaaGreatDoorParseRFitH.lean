/- PARSE: Fit (the reference's): a handler. -/
import Derived.Deep.DeepCutAuto
import Derived.Test.YtbdllefnghddcaaGreatDoorParseRFit
import Derived.Test.YtbdllefnghddcaaGreatDoorPMem
namespace Go.Proofs.YtbdllefnghddcaaGreatDoor
open Go Go.RowKit
attribute [local go_sem ↓] Go.wp_at_zero Go.wp_at_succ

set_option maxRecDepth 100000 in
set_option maxHeartbeats 8000000 in
set_option linter.unusedSimpArgs false in
theorem rfithand_any (d : HandT) (W : World) (k : Nat) {cs : List Value} (hS : SmH d) (hR : HandP All W k cs d) :
  Calls Tryz.prog 42 #[.agg cs.toArray] W (PatPost W (.bool (handB d))) := by
 obtain ⟨PP, hPP⟩ : ∃ PP, PatPost W (.bool (handB d)) = PP := ⟨_, rfl⟩
 rw [hPP]
 have HPP := Lib.hid hPP
 obtain ⟨c0, c1, c2, c3, c4, c5, v, u, rfl, hcore, hws, haf⟩ := hR
 have hcore2 := hcore
 obtain ⟨cv, ec, hcaps⟩ := hcore
 simp only [List.cons.injEq, and_true] at ec
 obtain ⟨rfl, rfl, rfl, rfl, rfl, rfl⟩ := ec
 obtain ⟨cq, cc, rfl, -⟩ := UsP.shape hcaps
 obtain ⟨vq, vk, rfl, hn8⟩ := hws.shape
 obtain ⟨aq, ac, rfl, -⟩ := UsP.shape haf
 obtain ⟨WA, hWA⟩ : ∃ WA, W.alloc (.cells #[.string d.name, .string d.of_.name, .int .i64 d.of_.pos, .string d.core.word, .bool d.core.has, .bool d.core.minus, .int .u64 d.core.num, .slice cq d.core.caps.length cc, .int .i64 d.core.pos, .slice vq d.wraps.length vk, .bool d.room, .int .u64 d.inbox, .string d.drop.name, .int .i64 d.drop.pos, .slice aq d.after.length ac, .int .i64 d.pos] 81) = WA := ⟨_, rfl⟩
 obtain ⟨X, hX⟩ : ∃ X, W.heap.size = X := ⟨_, rfl⟩
 have HBA : Hid (Below W.heap.size W WA) := by rw [← hWA]; exact (Below.refl _ W).alloc (Nat.le_refl _) _
 have hza := aRow_ hWA hX
 have hsa : WA.heap.size = X + 1 := by rw [← hWA, ← hX]; simp
 have lxa : X < WA.heap.size := by omega
 obtain ⟨z0, z1, z2, z3, z4, z5, z6, z7, z8, z9, z10, z11, z12, z13, z14, z15⟩ := row16_ hza
 have HZA := Lib.hid hza
 have HX := Lib.hid hX
 have HWA := Lib.hid hWA
 clear hza hX hWA hsa
 have HX0 := HZA
 have HB0 := HBA
 have HS := Lib.hid hS
 have HCO := Lib.hid hcore2
 have HWS := Lib.hid hws
 have HAF := Lib.hid haf
 clear hPP hS hcore2 hcaps hws haf z0 z1 z2 z3 z4 z5 z6 z7 z8 z9 z10 z11 z12 z13 z14 z15 lxa
 go_enter Tryz.func42, Tryz.ntmps42
 go_upto_region 1 with fail
 rw [HX.out, HWA.out]
 go_upto_region 1 with fail
 go_cut [43] (fun s43 wx => s43 = .bool (!headB d) ∧ Hid (Below W.heap.size W wx) ∧ Hid (wx.heap[X]? = some (.cells #[.string d.name, .string d.of_.name, .int .i64 d.of_.pos, .string d.core.word, .bool d.core.has, .bool d.core.minus, .int .u64 d.core.num, .slice cq d.core.caps.length cc, .int .i64 d.core.pos, .slice vq d.wraps.length vk, .bool d.room, .int .u64 d.inbox, .string d.drop.name, .int .i64 d.drop.pos, .slice aq d.after.length ac, .int .i64 d.pos] 81 (0, 0))))
 case first =>
  obtain ⟨cX0, cX1, cX2, cX3, cX4, cX5, cX6, cX7, cX8, cX9, cX10, cX11, cX12, cX13, cX14, cX15⟩ := row16_ HX0.out
  have ltX : X < WA.heap.size := (Array.getElem?_eq_some_iff.1 HX0.out).1
  have C1 := Lib.hid (rname_any d.name WA HS.out.1)
  go_wp2_with (go_at_call 43; refine C1.out.mono ?_)
  clear cX0 cX1 cX2 cX3 cX4 cX5 cX6 cX7 cX8 cX9 cX10 cX11 cX12 cX13 cX14 cX15 ltX
  rintro e1 w1 ⟨rfl, hb1⟩
  have HB1 := Lib.hid (HB0.out.trans (hb1.mono HB0.out.size))
  have hX1 := (hb1.block X (Array.getElem?_eq_some_iff.1 HX0.out).1).trans HX0.out
  obtain ⟨cX0, cX1, cX2, cX3, cX4, cX5, cX6, cX7, cX8, cX9, cX10, cX11, cX12, cX13, cX14, cX15⟩ := row16_ hX1
  have ltX : X < w1.heap.size := (Array.getElem?_eq_some_iff.1 hX1).1
  have HX1 := Lib.hid hX1
  clear hX1
  clear hb1 C1
  cases hq1 : nameB d.name with
  | false =>
   have HQ1 := Lib.hid hq1
   clear hq1
   have HV : Hid (headB d = false) := by show _ = _; unfold headB; rw [HQ1.out]; rfl
   go_wp2_with fail
   go_meet
   exact ⟨by rw [HV.out] <;> rfl, HB1.out, HX1.out⟩
  | true =>
   have HQ1 := Lib.hid hq1
   clear hq1
   have C2 := Lib.hid (ruses_any (FlP.kept HAF.out (All.kept HB1.out)) HS.out.2.2.2.2.2.2)
   go_wp2_with (go_at_call 87; refine C2.out.mono ?_)
   clear cX0 cX1 cX2 cX3 cX4 cX5 cX6 cX7 cX8 cX9 cX10 cX11 cX12 cX13 cX14 cX15 ltX
   rintro e2 w2 ⟨rfl, hb2⟩
   have HB2 := Lib.hid (HB1.out.trans (hb2.mono HB1.out.size))
   have hX2 := (hb2.block X (Array.getElem?_eq_some_iff.1 HX1.out).1).trans HX1.out
   obtain ⟨cX0, cX1, cX2, cX3, cX4, cX5, cX6, cX7, cX8, cX9, cX10, cX11, cX12, cX13, cX14, cX15⟩ := row16_ hX2
   have ltX : X < w2.heap.size := (Array.getElem?_eq_some_iff.1 hX2).1
   have HX2 := Lib.hid hX2
   clear hX2
   clear hb2 C2
   cases hq2 : namesB d.after with
   | false =>
    have HQ2 := Lib.hid hq2
    clear hq2
    have HV : Hid (headB d = false) := by show _ = _; unfold headB; rw [HQ1.out, HQ2.out]; rfl
    go_wp2_with fail
    go_meet
    exact ⟨by rw [HV.out] <;> rfl, HB2.out, HX2.out⟩
   | true =>
    have HQ2 := Lib.hid hq2
    clear hq2
    rcases Bool.eq_false_or_eq_true d.room with hrm | hrm
    ·rw [hrm] at cX10
     have HRM := Lib.hid hrm
     clear hrm
     by_cases hs0 : d.drop.name.size = 0
     ·have hse := noname hs0
      have HZ := Lib.hid hs0
      rw [hse] at cX12
      clear hs0 hse
      have HV : Hid (headB d = true) := by show _ = _; unfold headB; rw [HQ1.out, HQ2.out, HRM.out, decide_eq_true HZ.out]; rfl
      go_wp2_with fail
      go_meet
      exact ⟨by rw [HV.out] <;> rfl, HB2.out, HX2.out⟩
     ·obtain ⟨n1, n2, n3, n4⟩ := noname_ne hs0
      have HZ := Lib.hid hs0
      clear hs0
      have C3 := Lib.hid (rname_any d.drop.name w2 HS.out.2.2.2.2.2.1)
      go_wp2_with (go_at_call 43; refine C3.out.mono ?_)
      clear cX0 cX1 cX2 cX3 cX4 cX5 cX6 cX7 cX8 cX9 cX10 cX11 cX12 cX13 cX14 cX15 ltX
      rintro e3 w3 ⟨rfl, hb3⟩
      have HB3 := Lib.hid (HB2.out.trans (hb3.mono HB2.out.size))
      have hX3 := (hb3.block X (Array.getElem?_eq_some_iff.1 HX2.out).1).trans HX2.out
      obtain ⟨cX0, cX1, cX2, cX3, cX4, cX5, cX6, cX7, cX8, cX9, cX10, cX11, cX12, cX13, cX14, cX15⟩ := row16_ hX3
      have ltX : X < w3.heap.size := (Array.getElem?_eq_some_iff.1 hX3).1
      have HX3 := Lib.hid hX3
      clear hX3
      clear hb3 C3
      cases hq3 : nameB d.drop.name with
      | false =>
       have HQ3 := Lib.hid hq3
       clear hq3
       have HV : Hid (headB d = false) := by show _ = _; unfold headB; rw [HQ1.out, HQ2.out, HQ3.out, decide_eq_false HZ.out]; simp
       go_wp2_with fail
       go_meet
       exact ⟨by rw [HV.out] <;> rfl, HB3.out, HX3.out⟩
      | true =>
       have HQ3 := Lib.hid hq3
       clear hq3
       have HV : Hid (headB d = true) := by show _ = _; unfold headB; rw [HQ1.out, HQ2.out, HQ3.out, HRM.out]; simp
       go_wp2_with fail
       go_meet
       exact ⟨by rw [HV.out] <;> rfl, HB3.out, HX3.out⟩
    ·rw [hrm] at cX10
     have HRM := Lib.hid hrm
     clear hrm
     by_cases hi : d.inbox = 0
     ·rw [hi] at cX11
      have HI := Lib.hid hi
      clear hi
      by_cases hs0 : d.drop.name.size = 0
      ·have hse := noname hs0
       have HZ := Lib.hid hs0
       rw [hse] at cX12
       clear hs0 hse
       have HV : Hid (headB d = true) := by show _ = _; unfold headB; rw [HQ1.out, HQ2.out, HRM.out, decide_eq_true HZ.out, decide_eq_true HI.out]; rfl
       go_wp2_with fail
       go_meet
       exact ⟨by rw [HV.out] <;> rfl, HB2.out, HX2.out⟩
      ·obtain ⟨n1, n2, n3, n4⟩ := noname_ne hs0
       have HZ := Lib.hid hs0
       clear hs0
       have HV : Hid (headB d = false) := by show _ = _; unfold headB; rw [HQ1.out, HQ2.out, HRM.out, decide_eq_false HZ.out]; simp
       go_wp2_with fail
       go_meet
       exact ⟨by rw [HV.out] <;> rfl, HB2.out, HX2.out⟩
     ·obtain ⟨i1, i2⟩ := neI hi
      have HI := Lib.hid hi
      have HV : Hid (headB d = false) := by show _ = _; unfold headB; rw [HQ1.out, HQ2.out, HRM.out, decide_eq_false HI.out]; rfl
      go_wp2_with fail
      go_meet
      exact ⟨by rw [HV.out] <;> rfl, HB2.out, HX2.out⟩
 case rest =>
  obtain ⟨hv43, HBc, HXc⟩ := hcut
  cases hhd : headB d with
  | false =>
   have HHD := Lib.hid hhd
   rw [hhd] at hv43
   subst hv43
   clear hhd
   obtain ⟨cX0, cX1, cX2, cX3, cX4, cX5, cX6, cX7, cX8, cX9, cX10, cX11, cX12, cX13, cX14, cX15⟩ := row16_ HXc.out
   have ltX : X < wc.heap.size := (Array.getElem?_eq_some_iff.1 HXc.out).1
   have HV : Hid (handB d = false) := by show _ = _; unfold handB; rw [HHD.out]; rfl
   go_wp2_with fail
   rw [← HPP.out]
   exact ⟨by rw [HV.out] <;> rfl, HBc.out⟩
  | true =>
   have HHD := Lib.hid hhd
   rw [hhd] at hv43
   subst hv43
   clear hhd
   obtain ⟨cX0, cX1, cX2, cX3, cX4, cX5, cX6, cX7, cX8, cX9, cX10, cX11, cX12, cX13, cX14, cX15⟩ := row16_ HXc.out
   have ltX : X < wc.heap.size := (Array.getElem?_eq_some_iff.1 HXc.out).1
   go_upto_if 47 with fail
   go_cut [] (fun wx => Hid ((if d.of_.name.size = 0 then coreB d.core else nameB d.of_.name && noCoreB d.core) = true) ∧ Hid (Below W.heap.size W wx) ∧ Hid (wx.heap[X]? = some (.cells #[.string d.name, .string d.of_.name, .int .i64 d.of_.pos, .string d.core.word, .bool d.core.has, .bool d.core.minus, .int .u64 d.core.num, .slice cq d.core.caps.length cc, .int .i64 d.core.pos, .slice vq d.wraps.length vk, .bool d.room, .int .u64 d.inbox, .string d.drop.name, .int .i64 d.drop.pos, .slice aq d.after.length ac, .int .i64 d.pos] 81 (0, 0))))
   case first =>
    by_cases hs0 : d.of_.name.size = 0
    ·have hse := noname hs0
     have HZ := Lib.hid hs0
     have n2 : (d.of_.name != (⟨#[]⟩ : ByteArray)) = false := by rw [hse]; rfl
     have n1 : (d.of_.name == (⟨#[]⟩ : ByteArray)) = true := by rw [hse]; rfl
     have n3 : d.of_.name.toList = [] := by rw [hse, ByteArray.toList_eq]
     have n4 : d.of_.name.toList.isEmpty = true := by rw [n3]; rfl
     simp only [n4, Bool.not_true]
     clear hs0 hse
     have C3 := Lib.hid (rfitcore_any d.core wc HS.out.2.2.1 HS.out.2.2.2.1 (HCO.out.kept (All.kept HBc.out)))
     go_wp2_with (go_at_call 89; refine C3.out.mono ?_)
     clear cX0 cX1 cX2 cX3 cX4 cX5 cX6 cX7 cX8 cX9 cX10 cX11 cX12 cX13 cX14 cX15 ltX
     rintro e3 w3 ⟨rfl, hb3⟩
     have HB3 := Lib.hid (HBc.out.trans (hb3.mono HBc.out.size))
     have hX3 := (hb3.block X (Array.getElem?_eq_some_iff.1 HXc.out).1).trans HXc.out
     obtain ⟨cX0, cX1, cX2, cX3, cX4, cX5, cX6, cX7, cX8, cX9, cX10, cX11, cX12, cX13, cX14, cX15⟩ := row16_ hX3
     have ltX : X < w3.heap.size := (Array.getElem?_eq_some_iff.1 hX3).1
     have HX3 := Lib.hid hX3
     clear hX3
     clear hb3 C3
     cases hq3 : coreB d.core with
     | false =>
      have HQ3 := Lib.hid hq3
      clear hq3
      have HV : Hid (handB d = false) := by show _ = _; unfold handB; rw [HHD.out, if_pos HZ.out, HQ3.out]; rfl
      go_wp2_with fail
      rw [← HPP.out]
      exact ⟨by rw [HV.out] <;> rfl, HB3.out⟩
     | true =>
      have HQ3 := Lib.hid hq3
      clear hq3
      have HV : Hid ((if d.of_.name.size = 0 then coreB d.core else nameB d.of_.name && noCoreB d.core) = true) := by show _ = _; rw [if_pos HZ.out, HQ3.out]
      go_wp2_with fail
      go_meet
      exact ⟨HV, HB3.out, HX3.out⟩
    ·obtain ⟨n1, n2, n3, n4⟩ := noname_ne hs0
     have HZ := Lib.hid hs0
     simp only [n4, Bool.not_false]
     clear hs0
     have C3 := Lib.hid (rname_any d.of_.name wc HS.out.2.1)
     go_wp2_with (go_at_call 43; refine C3.out.mono ?_)
     clear cX0 cX1 cX2 cX3 cX4 cX5 cX6 cX7 cX8 cX9 cX10 cX11 cX12 cX13 cX14 cX15 ltX
     rintro e3 w3 ⟨rfl, hb3⟩
     have HB3 := Lib.hid (HBc.out.trans (hb3.mono HBc.out.size))
     have hX3 := (hb3.block X (Array.getElem?_eq_some_iff.1 HXc.out).1).trans HXc.out
     obtain ⟨cX0, cX1, cX2, cX3, cX4, cX5, cX6, cX7, cX8, cX9, cX10, cX11, cX12, cX13, cX14, cX15⟩ := row16_ hX3
     have ltX : X < w3.heap.size := (Array.getElem?_eq_some_iff.1 hX3).1
     have HX3 := Lib.hid hX3
     clear hX3
     clear hb3 C3
     cases hq3 : nameB d.of_.name with
     | false =>
      have HQ3 := Lib.hid hq3
      clear hq3
      have HV : Hid (handB d = false) := by show _ = _; unfold handB; rw [HHD.out, if_neg HZ.out, HQ3.out]; rfl
      go_wp2_with fail
      rw [← HPP.out]
      exact ⟨by rw [HV.out] <;> rfl, HB3.out⟩
     | true =>
      have HQ3 := Lib.hid hq3
      clear hq3
      have C4 := Lib.hid (rnocore_any d.core w3 (HCO.out.kept (All.kept HB3.out)))
      go_wp2_with (go_at_call 88; refine C4.out.mono ?_)
      clear cX0 cX1 cX2 cX3 cX4 cX5 cX6 cX7 cX8 cX9 cX10 cX11 cX12 cX13 cX14 cX15 ltX
      rintro e4 w4 ⟨rfl, hb4⟩
      have HB4 := Lib.hid (HB3.out.trans (hb4.mono HB3.out.size))
      have hX4 := (hb4.block X (Array.getElem?_eq_some_iff.1 HX3.out).1).trans HX3.out
      obtain ⟨cX0, cX1, cX2, cX3, cX4, cX5, cX6, cX7, cX8, cX9, cX10, cX11, cX12, cX13, cX14, cX15⟩ := row16_ hX4
      have ltX : X < w4.heap.size := (Array.getElem?_eq_some_iff.1 hX4).1
      have HX4 := Lib.hid hX4
      clear hX4
      clear hb4 C4
      cases hq4 : noCoreB d.core with
      | false =>
       have HQ4 := Lib.hid hq4
       clear hq4
       have HV : Hid (handB d = false) := by show _ = _; unfold handB; rw [HHD.out, if_neg HZ.out, HQ4.out]; simp
       go_wp2_with fail
       rw [← HPP.out]
       exact ⟨by rw [HV.out] <;> rfl, HB4.out⟩
      | true =>
       have HQ4 := Lib.hid hq4
       clear hq4
       have HV : Hid ((if d.of_.name.size = 0 then coreB d.core else nameB d.of_.name && noCoreB d.core) = true) := by show _ = _; rw [if_neg HZ.out, HQ3.out, HQ4.out]; rfl
       go_wp2_with fail
       go_meet
       exact ⟨HV, HB4.out, HX4.out⟩
   case rest =>
    rename World => wd
    obtain ⟨HOF, HBd, HXd⟩ := hcut
    have HEV : Hid (handB d = d.wraps.all wrapB) := by show _ = _; unfold handB; rw [HHD.out, HOF.out]; rfl
    obtain ⟨cX0, cX1, cX2, cX3, cX4, cX5, cX6, cX7, cX8, cX9, cX10, cX11, cX12, cX13, cX14, cX15⟩ := row16_ HXd.out
    have ltX : X < wd.heap.size := (Array.getElem?_eq_some_iff.1 HXd.out).1
    go_wp2_with fail
    go_loopw [4, 66] (fun s4 s66 wr => ∃ j : Nat, s66 = .int .i64 (j : Nat) ∧ j ≤ d.wraps.length ∧ Hid ((d.wraps.take j).all wrapB = true) ∧ Hid (Below W.heap.size W wr)) (fun _ i _ => d.wraps.length - (intOf i).toNat)
    case atStart => exact ⟨0, rfl, Nat.zero_le _, rfl, HBd.out⟩
    case round =>
     obtain ⟨j, rfl, hj, HAL, HB⟩ := hrel
     by_cases hlt : j < d.wraps.length
     ·obtain ⟨x, hx⟩ : ∃ x, d.wraps[j]? = some x := ⟨_, List.getElem?_eq_getElem hlt⟩
      obtain ⟨b, o, cap2, cs, e, -, hbl, -, hR, hc⟩ := HWS.out.at hx
      injection e with e _ e3
      subst e; subst e3
      have hR0 := hR
      obtain ⟨v1, u1, w0, w1, w2, rfl, hnums, hcaps, hwant⟩ := hR0
      obtain ⟨k1, q1, m1, -, ew⟩ := hwant.form
      injection ew with ew0 ew
      injection ew with ew1 ew
      injection ew with ew2
      subst ew0; subst ew1; subst ew2
      obtain ⟨nq, nc, rfl, -⟩ := NumsP.shape hnums
      obtain ⟨uq, uc, rfl, -⟩ := UsP.shape hcaps
      have HR0 := Lib.hid hR
      have y0 : wr.cell? ⟨b, o + j * 10, none⟩ = some (.bool x.opn) := (HB.out.cell (p := ⟨b, _, none⟩) hbl).trans (hc 0 _ rfl)
      have y1 : wr.cell? ⟨b, o + j * 10 + 1, none⟩ = some (.string x.word) := (HB.out.cell (p := ⟨b, _, none⟩) hbl).trans (hc 1 _ rfl)
      have y2 : wr.cell? ⟨b, o + j * 10 + 2, none⟩ = some (.string x.sub) := (HB.out.cell (p := ⟨b, _, none⟩) hbl).trans (hc 2 _ rfl)
      have y3 : wr.cell? ⟨b, o + j * 10 + 3, none⟩ = some (.slice nq x.nums.length nc) := (HB.out.cell (p := ⟨b, _, none⟩) hbl).trans (hc 3 _ rfl)
      have y4 : wr.cell? ⟨b, o + j * 10 + 4, none⟩ = some (.slice uq x.caps.length uc) := (HB.out.cell (p := ⟨b, _, none⟩) hbl).trans (hc 4 _ rfl)
      have y5 : wr.cell? ⟨b, o + j * 10 + 5, none⟩ = some (.bool x.when_) := (HB.out.cell (p := ⟨b, _, none⟩) hbl).trans (hc 5 _ rfl)
      have y6 : wr.cell? ⟨b, o + j * 10 + 6, none⟩ = some (.int .i64 x.want.op) := (HB.out.cell (p := ⟨b, _, none⟩) hbl).trans (hc 6 _ rfl)
      have y7 : wr.cell? ⟨b, o + j * 10 + 7, none⟩ = some (.int .i64 x.want.num) := (HB.out.cell (p := ⟨b, _, none⟩) hbl).trans (hc 7 _ rfl)
      have y8 : wr.cell? ⟨b, o + j * 10 + 8, none⟩ = some (.slice q1 x.want.l.length m1) := (HB.out.cell (p := ⟨b, _, none⟩) hbl).trans (hc 8 _ rfl)
      have y9 : wr.cell? ⟨b, o + j * 10 + 9, none⟩ = some (.int .i64 x.pos) := (HB.out.cell (p := ⟨b, _, none⟩) hbl).trans (hc 9 _ rfl)
      obtain ⟨RR, hRR⟩ : ∃ RR, wr.heap.size = RR := ⟨_, rfl⟩
      obtain ⟨w1, hw1⟩ : ∃ w1, wr.alloc (.cells #[.bool x.opn, .string x.word, .string x.sub, .slice nq x.nums.length nc, .slice uq x.caps.length uc, .bool x.when_, .int .i64 x.want.op, .int .i64 x.want.num, .slice q1 x.want.l.length m1, .int .i64 x.pos] 90) = w1 := ⟨_, rfl⟩
      have HX1 := Lib.hid (aRow_ hw1 hRR)
      have hb1 : Below wr.heap.size wr w1 := by rw [← hw1]; exact (Below.refl _ wr).alloc (Nat.le_refl _) _
      have HB1 := Lib.hid (HB.out.trans (hb1.mono HB.out.size))
      have HRR := Lib.hid hRR
      have Hw1 := Lib.hid hw1
      have g0 : (j : Int) < ((d.wraps.length : Nat) : Int) := by omega
      have g00 : (0 : Int) ≤ (j : Int) := by omega
      have HXJ := Lib.hid hx
      clear hRR hw1 hb1 hc hbl hnums hcaps hwant hx
      go_upto_region 11 with fail
      rw [HRR.out, Hw1.out]
      clear y0 y1 y2 y3 y4 y5 y6 y7 y8 y9
      obtain ⟨c0, c1, c2, c3, c4, c5, c6, c7, c8, c9⟩ := row10_ HX1.out
      have ltR : RR < w1.heap.size := (Array.getElem?_eq_some_iff.1 HX1.out).1
      have C := Lib.hid (rfitwrap_any x w1 k (HS.out.2.2.2.2.1 x (List.mem_of_getElem? HXJ.out)) (HR0.out.kept (All.kept HB1.out)))
      cases hv : wrapB x with
      | false =>
       have HV := Lib.hid hv
       rw [hv] at C
       clear hv
       go_wp2_with (go_at_call 90; refine C.out.mono ?_; rintro e2 w2 ⟨rfl, hb2⟩)
       rw [← HPP.out]
       exact ⟨by rw [HEV.out, all_not HXJ.out HV.out]; rfl, HB1.out.trans (hb2.mono HB1.out.size)⟩
      | true =>
       have HV := Lib.hid hv
       rw [hv] at C
       clear hv
       go_wp2_with (go_at_call 90; refine C.out.mono ?_; rintro e2 w2 ⟨rfl, hb2⟩)
       go_roundw
       case rel => exact ⟨j + 1, by go_num, by omega, all_step HXJ.out HAL.out HV.out, HB1.out.trans (hb2.mono HB1.out.size)⟩
       case measure => simp [intOf]; omega
     ·obtain rfl : j = d.wraps.length := by omega
      have hjj : ¬ ((d.wraps.length : Nat) : Int) < ((d.wraps.length : Nat) : Int) := by omega
      have HT : Hid (d.wraps.all wrapB = true) := by have h := HAL.out; rwa [List.take_length] at h
      go_wp2_with fail
      rw [← HPP.out]
      exact ⟨by rw [HEV.out, HT.out] <;> rfl, HB.out⟩
end Go.Proofs.YtbdllefnghddcaaGreatDoor
