/- PARSE: Fit (the program's), last part. -/
import Derived.Test.YtbdllefnghddcaaGreatDoorParseFitH
import Derived.Test.YtbdllefnghddcaaGreatDoorPMem
namespace Go.Proofs.YtbdllefnghddcaaGreatDoor
open Go Go.RowKit
attribute [local go_sem ↓] Go.wp_at_zero Go.wp_at_succ

set_option maxRecDepth 100000 in
set_option maxHeartbeats 8000000 in
set_option linter.unusedSimpArgs false in
theorem fit_any (t : TreeT) (W : World) (k : Nat) (vh vr : Value) (hE : Env W) (hS : SmT t) (hR : TreeP All W k vh vr t) :
  Calls Tryz.prog 14 #[.agg #[vh, vr]] W (PatPost W (.bool (fitT t))) := by
 obtain ⟨PP, hPP⟩ : ∃ PP, PatPost W (.bool (fitT t)) = PP := ⟨_, rfl⟩
 rw [hPP]
 have HPP := Lib.hid hPP
 obtain ⟨hH, hRo⟩ := hR
 obtain ⟨hq, hk, rfl, hn1⟩ := hH.shape
 obtain ⟨rq, rk, rfl, hn2⟩ := hRo.shape
 obtain ⟨WA, hWA⟩ : ∃ WA, W.alloc (.cells #[.slice hq t.hands.length hk, .slice rq t.routes.length rk] 26) = WA := ⟨_, rfl⟩
 obtain ⟨X, hX⟩ : ∃ X, W.heap.size = X := ⟨_, rfl⟩
 have HBA : Hid (Below W.heap.size W WA) := by rw [← hWA]; exact (Below.refl _ W).alloc (Nat.le_refl _) _
 have hza := aRow_ hWA hX
 have hsa : WA.heap.size = X + 1 := by rw [← hWA, ← hX]; simp
 have lxa : X < WA.heap.size := by omega
 obtain ⟨z0, z1⟩ := row2_ hza
 have HZA := Lib.hid hza
 have HX := Lib.hid hX
 have HWA := Lib.hid hWA
 have HE := Lib.hid hE
 have HS := Lib.hid hS
 have HH := Lib.hid hH
 have HRo := Lib.hid hRo
 have HUP : Hid (∀ W', Below WA.heap.size WA W' → Below W.heap.size W W') := fun W' hb => HBA.out.trans (hb.mono HBA.out.size)
 clear hPP hza hX hWA hE hS hH hRo hsa
 go_enter Tryz.func14, Tryz.ntmps14
 go_upto_region 1 with fail
 rw [HX.out, HWA.out]
 go_wp2_with fail
 go_loopw [4, 10] (fun s4 s10 wr => ∃ j : Nat, s10 = .int .i64 (j : Nat) ∧ j ≤ t.hands.length ∧ Hid ((t.hands.take j).all handB = true) ∧ Hid (Below WA.heap.size WA wr)) (fun _ i _ => t.hands.length - (intOf i).toNat)
 case atStart => exact ⟨0, rfl, Nat.zero_le _, rfl, Below.refl _ _⟩
 case round =>
  obtain ⟨j, rfl, hj, HAL, HB⟩ := hrel
  by_cases hlt : j < t.hands.length
  ·obtain ⟨x, hx⟩ : ∃ x, t.hands[j]? = some x := ⟨_, List.getElem?_eq_getElem hlt⟩
   obtain ⟨b, o, cap2, cs, e, -, hbl, -, hR, hc⟩ := HH.out.at hx
   injection e with e _ e3
   subst e; subst e3
   have HUW := Lib.hid (HUP.out wr HB.out)
   have HR0 := Lib.hid hR
   obtain ⟨c0, c1, c2, c3, c4, c5, v, u, rfl, hcore, hws, haf⟩ := hR
   obtain ⟨cv, ec, hcaps⟩ := hcore
   simp only [List.cons.injEq, and_true] at ec
   obtain ⟨rfl, rfl, rfl, rfl, rfl, rfl⟩ := ec
   obtain ⟨cq, cc, rfl, -⟩ := UsP.shape hcaps
   obtain ⟨vq, vk, rfl, -⟩ := hws.shape
   obtain ⟨aq, ac, rfl, -⟩ := UsP.shape haf
   have y0 : wr.cell? ⟨b, o + j * 16, none⟩ = some (.string x.name) := (HUW.out.cell (p := ⟨b, _, none⟩) hbl).trans (hc 0 _ rfl)
   have y1 : wr.cell? ⟨b, o + j * 16 + 1, none⟩ = some (.string x.of_.name) := (HUW.out.cell (p := ⟨b, _, none⟩) hbl).trans (hc 1 _ rfl)
   have y2 : wr.cell? ⟨b, o + j * 16 + 2, none⟩ = some (.int .i64 x.of_.pos) := (HUW.out.cell (p := ⟨b, _, none⟩) hbl).trans (hc 2 _ rfl)
   have y3 : wr.cell? ⟨b, o + j * 16 + 3, none⟩ = some (.string x.core.word) := (HUW.out.cell (p := ⟨b, _, none⟩) hbl).trans (hc 3 _ rfl)
   have y4 : wr.cell? ⟨b, o + j * 16 + 4, none⟩ = some (.bool x.core.has) := (HUW.out.cell (p := ⟨b, _, none⟩) hbl).trans (hc 4 _ rfl)
   have y5 : wr.cell? ⟨b, o + j * 16 + 5, none⟩ = some (.bool x.core.minus) := (HUW.out.cell (p := ⟨b, _, none⟩) hbl).trans (hc 5 _ rfl)
   have y6 : wr.cell? ⟨b, o + j * 16 + 6, none⟩ = some (.int .u64 x.core.num) := (HUW.out.cell (p := ⟨b, _, none⟩) hbl).trans (hc 6 _ rfl)
   have y7 : wr.cell? ⟨b, o + j * 16 + 7, none⟩ = some (.slice cq x.core.caps.length cc) := (HUW.out.cell (p := ⟨b, _, none⟩) hbl).trans (hc 7 _ rfl)
   have y8 : wr.cell? ⟨b, o + j * 16 + 8, none⟩ = some (.int .i64 x.core.pos) := (HUW.out.cell (p := ⟨b, _, none⟩) hbl).trans (hc 8 _ rfl)
   have y9 : wr.cell? ⟨b, o + j * 16 + 9, none⟩ = some (.slice vq x.wraps.length vk) := (HUW.out.cell (p := ⟨b, _, none⟩) hbl).trans (hc 9 _ rfl)
   have y10 : wr.cell? ⟨b, o + j * 16 + 10, none⟩ = some (.bool x.room) := (HUW.out.cell (p := ⟨b, _, none⟩) hbl).trans (hc 10 _ rfl)
   have y11 : wr.cell? ⟨b, o + j * 16 + 11, none⟩ = some (.int .u64 x.inbox) := (HUW.out.cell (p := ⟨b, _, none⟩) hbl).trans (hc 11 _ rfl)
   have y12 : wr.cell? ⟨b, o + j * 16 + 12, none⟩ = some (.string x.drop.name) := (HUW.out.cell (p := ⟨b, _, none⟩) hbl).trans (hc 12 _ rfl)
   have y13 : wr.cell? ⟨b, o + j * 16 + 13, none⟩ = some (.int .i64 x.drop.pos) := (HUW.out.cell (p := ⟨b, _, none⟩) hbl).trans (hc 13 _ rfl)
   have y14 : wr.cell? ⟨b, o + j * 16 + 14, none⟩ = some (.slice aq x.after.length ac) := (HUW.out.cell (p := ⟨b, _, none⟩) hbl).trans (hc 14 _ rfl)
   have y15 : wr.cell? ⟨b, o + j * 16 + 15, none⟩ = some (.int .i64 x.pos) := (HUW.out.cell (p := ⟨b, _, none⟩) hbl).trans (hc 15 _ rfl)
   obtain ⟨R, hRR⟩ : ∃ R, wr.heap.size = R := ⟨_, rfl⟩
   obtain ⟨w1, hw1⟩ : ∃ w1, wr.alloc (.cells #[.string x.name, .string x.of_.name, .int .i64 x.of_.pos, .string x.core.word, .bool x.core.has, .bool x.core.minus, .int .u64 x.core.num, .slice cq x.core.caps.length cc, .int .i64 x.core.pos, .slice vq x.wraps.length vk, .bool x.room, .int .u64 x.inbox, .string x.drop.name, .int .i64 x.drop.pos, .slice aq x.after.length ac, .int .i64 x.pos] 81) = w1 := ⟨_, rfl⟩
   have HR1 := Lib.hid (aRow_ hw1 hRR)
   have hb1 : Below wr.heap.size wr w1 := by rw [← hw1]; exact (Below.refl _ wr).alloc (Nat.le_refl _) _
   have HB1 := Lib.hid (HB.out.trans (hb1.mono HB.out.size))
   have HRR := Lib.hid hRR
   have Hw1 := Lib.hid hw1
   have g0 : (j : Int) < ((t.hands.length : Nat) : Int) := by omega
   have g00 : (0 : Int) ≤ (j : Int) := by omega
   have HXJ := Lib.hid hx
   clear hRR hw1 hb1 hc hbl hcaps hws haf hx
   go_upto_region 4 with fail
   rw [HRR.out, Hw1.out]
   clear y0 y1 y2 y3 y4 y5 y6 y7 y8 y9 y10 y11 y12 y13 y14 y15
   obtain ⟨c0, c1, c2, c3, c4, c5, c6, c7, c8, c9, c10, c11, c12, c13, c14, c15⟩ := row16_ HR1.out
   have ltR : R < w1.heap.size := (Array.getElem?_eq_some_iff.1 HR1.out).1
   have C := Lib.hid (fithand_any x w1 k (HE.out.below (HUP.out w1 HB1.out)) (HS.out.1 x (List.mem_of_getElem? HXJ.out)) (HR0.out.kept (All.kept (HUP.out w1 HB1.out))))
   cases hv : handB x with
   | false =>
    have HV := Lib.hid hv
    rw [hv] at C
    clear hv
    go_wp2_with (go_at_call 39; refine C.out.mono ?_; rintro e2 w2 ⟨rfl, hb2⟩)
    rw [← HPP.out]
    exact ⟨by unfold fitT; rw [all_not HXJ.out HV.out]; rfl, (HUP.out w1 HB1.out).trans (hb2.mono (HUP.out w1 HB1.out).size)⟩
   | true =>
    have HV := Lib.hid hv
    rw [hv] at C
    clear hv
    go_wp2_with (go_at_call 39; refine C.out.mono ?_; rintro e2 w2 ⟨rfl, hb2⟩)
    go_roundw
    case rel => exact ⟨j + 1, by go_num, by omega, all_step HXJ.out HAL.out HV.out, HB1.out.trans (hb2.mono HB1.out.size)⟩
    case measure => simp [intOf]; omega
  ·obtain rfl : j = t.hands.length := by omega
   have hjj : ¬ ((t.hands.length : Nat) : Int) < ((t.hands.length : Nat) : Int) := by omega
   have HT : Hid (t.hands.all handB = true) := by have h := HAL.out; rwa [List.take_length] at h
   have hx2 : wr.heap[X]? = some (.cells #[.slice hq t.hands.length hk, .slice rq t.routes.length rk] 26 (0, 0)) := (HB.out.block X lxa).trans HZA.out
   obtain ⟨v0, v1⟩ := row2_ hx2
   have ltx : X < wr.heap.size := by have := HB.out.size; omega
   clear hx2 HAL
   go_wp2_with fail
   go_loopw [6, 21] (fun s6 s21 ws => ∃ j : Nat, s21 = .int .i64 (j : Nat) ∧ j ≤ t.routes.length ∧ Hid ((t.routes.take j).all routeB = true) ∧ Hid (Below WA.heap.size WA ws)) (fun _ i _ => t.routes.length - (intOf i).toNat)
   case atStart => exact ⟨0, rfl, Nat.zero_le _, rfl, HB.out⟩
   case round =>
    obtain ⟨j, rfl, hj, HAL, HBs⟩ := hrel
    by_cases hlt : j < t.routes.length
    ·obtain ⟨x, hx⟩ : ∃ x, t.routes[j]? = some x := ⟨_, List.getElem?_eq_getElem hlt⟩
     obtain ⟨b, o, cap2, cs, e, -, hbl, -, hR, hc⟩ := HRo.out.at hx
     injection e with e _ e3
     subst e; subst e3
     have HUW := Lib.hid (HUP.out wr HBs.out)
     have HR0 := Lib.hid hR
     obtain ⟨w0, w1, w2, rfl, hwant⟩ := hR
     obtain ⟨k1, q1, m1, -, ew⟩ := hwant.form
     injection ew with ew0 ew
     injection ew with ew1 ew
     injection ew with ew2
     subst ew0; subst ew1; subst ew2
     have y0 : wr.cell? ⟨b, o + j * 10, none⟩ = some (.string x.filter.name) := (HUW.out.cell (p := ⟨b, _, none⟩) hbl).trans (hc 0 _ rfl)
     have y1 : wr.cell? ⟨b, o + j * 10 + 1, none⟩ = some (.int .i64 x.filter.pos) := (HUW.out.cell (p := ⟨b, _, none⟩) hbl).trans (hc 1 _ rfl)
     have y2 : wr.cell? ⟨b, o + j * 10 + 2, none⟩ = some (.bool x.when_) := (HUW.out.cell (p := ⟨b, _, none⟩) hbl).trans (hc 2 _ rfl)
     have y3 : wr.cell? ⟨b, o + j * 10 + 3, none⟩ = some (.int .i64 x.want.op) := (HUW.out.cell (p := ⟨b, _, none⟩) hbl).trans (hc 3 _ rfl)
     have y4 : wr.cell? ⟨b, o + j * 10 + 4, none⟩ = some (.int .i64 x.want.num) := (HUW.out.cell (p := ⟨b, _, none⟩) hbl).trans (hc 4 _ rfl)
     have y5 : wr.cell? ⟨b, o + j * 10 + 5, none⟩ = some (.slice q1 x.want.l.length m1) := (HUW.out.cell (p := ⟨b, _, none⟩) hbl).trans (hc 5 _ rfl)
     have y6 : wr.cell? ⟨b, o + j * 10 + 6, none⟩ = some (.bool x.els) := (HUW.out.cell (p := ⟨b, _, none⟩) hbl).trans (hc 6 _ rfl)
     have y7 : wr.cell? ⟨b, o + j * 10 + 7, none⟩ = some (.string x.to.name) := (HUW.out.cell (p := ⟨b, _, none⟩) hbl).trans (hc 7 _ rfl)
     have y8 : wr.cell? ⟨b, o + j * 10 + 8, none⟩ = some (.int .i64 x.to.pos) := (HUW.out.cell (p := ⟨b, _, none⟩) hbl).trans (hc 8 _ rfl)
     have y9 : wr.cell? ⟨b, o + j * 10 + 9, none⟩ = some (.int .i64 x.pos) := (HUW.out.cell (p := ⟨b, _, none⟩) hbl).trans (hc 9 _ rfl)
     obtain ⟨R, hRR⟩ : ∃ R, wr.heap.size = R := ⟨_, rfl⟩
     obtain ⟨w1, hw1⟩ : ∃ w1, wr.alloc (.cells #[.string x.filter.name, .int .i64 x.filter.pos, .bool x.when_, .int .i64 x.want.op, .int .i64 x.want.num, .slice q1 x.want.l.length m1, .bool x.els, .string x.to.name, .int .i64 x.to.pos, .int .i64 x.pos] 84) = w1 := ⟨_, rfl⟩
     have HR1 := Lib.hid (aRow_ hw1 hRR)
     have hb1 : Below wr.heap.size wr w1 := by rw [← hw1]; exact (Below.refl _ wr).alloc (Nat.le_refl _) _
     have HB1 := Lib.hid (HBs.out.trans (hb1.mono HBs.out.size))
     have HRR := Lib.hid hRR
     have Hw1 := Lib.hid hw1
     have g0 : (j : Int) < ((t.routes.length : Nat) : Int) := by omega
     have g00 : (0 : Int) ≤ (j : Int) := by omega
     have HXJ := Lib.hid hx
     have HWN := Lib.hid hwant
     clear hRR hw1 hb1 hc hbl hwant hx
     go_upto_region 10 with fail
     rw [HRR.out, Hw1.out]
     clear y0 y1 y2 y3 y4 y5 y6 y7 y8 y9
     obtain ⟨c0, c1, c2, c3, c4, c5, c6, c7, c8, c9⟩ := row10_ HR1.out
     have ltR : R < w1.heap.size := (Array.getElem?_eq_some_iff.1 HR1.out).1
     have hrb : routeB x = (nameB x.to.name && (decide (x.filter.name.size ≤ 65535) && (!(x.when_ && x.els) && whenB x.when_ x.want))) := rfl
     have HRB := Lib.hid hrb
     clear hrb
     by_cases hf : 65535 < x.filter.name.size
     ·have hfi : (65535 : Int) < ((x.filter.name.size : Nat) : Int) := by omega
      have HV : Hid (routeB x = false) := by show _ = _; rw [HRB.out]; rw [decide_eq_false (by omega)]; simp
      go_wp2_with fail
      rw [← HPP.out]
      exact ⟨by unfold fitT; rw [HT.out, all_not HXJ.out HV.out]; rfl, HUP.out _ HB1.out⟩
     have hfi : ¬ (65535 : Int) < ((x.filter.name.size : Nat) : Int) := by omega
     have HF : Hid (decide (x.filter.name.size ≤ 65535) = true) := decide_eq_true (by omega)
     clear hf
     have C2 := Lib.hid (isname_any x.to.name w1 (HE.out.below (HUP.out w1 HB1.out)) (HS.out.2 x (List.mem_of_getElem? HXJ.out)).1)
     go_wp2_with (go_at_call 40; refine C2.out.mono ?_)
     rintro e2 w2 ⟨rfl, hb2⟩
     have HB2 := Lib.hid (HB1.out.trans (hb2.mono HB1.out.size))
     have HR2 : Hid (w2.heap[R]? = some (.cells #[.string x.filter.name, .int .i64 x.filter.pos, .bool x.when_, .int .i64 x.want.op, .int .i64 x.want.num, .slice q1 x.want.l.length m1, .bool x.els, .string x.to.name, .int .i64 x.to.pos, .int .i64 x.pos] 84 (0, 0))) := (hb2.block R ltR).trans HR1.out
     clear c0 c1 c2 c3 c4 c5 c6 c7 c8 c9 ltR hb2 C2
     obtain ⟨c0, c1, c2, c3, c4, c5, c6, c7, c8, c9⟩ := row10_ HR2.out
     have ltR : R < w2.heap.size := (Array.getElem?_eq_some_iff.1 HR2.out).1
     cases hq2 : nameB x.to.name with
     | false =>
      have HQ2 := Lib.hid hq2
      clear hq2
      have HV : Hid (routeB x = false) := by show _ = _; rw [HRB.out]; rw [HQ2.out]; rfl
      go_wp2_with fail
      rw [← HPP.out]
      exact ⟨by unfold fitT; rw [HT.out, all_not HXJ.out HV.out]; rfl, HUP.out _ HB2.out⟩
     | true =>
      have HQ2 := Lib.hid hq2
      clear hq2
      rcases Bool.eq_false_or_eq_true x.when_ with hw | hw
      ·rw [hw] at c2
       have HW := Lib.hid hw
       clear hw
       rcases Bool.eq_false_or_eq_true x.els with he | he
       ·rw [he] at c6
        have HEL := Lib.hid he
        clear he
        have HV : Hid (routeB x = false) := by show _ = _; rw [HRB.out]; rw [HW.out, HEL.out]; simp
        go_wp2_with fail
        rw [← HPP.out]
        exact ⟨by unfold fitT; rw [HT.out, all_not HXJ.out HV.out]; rfl, HUP.out _ HB2.out⟩
       ·rw [he] at c6
        have HEL := Lib.hid he
        clear he
        have C3 : Hid (Calls Tryz.prog 41 #[.bool true, .agg #[.int .i64 x.want.op, .int .i64 x.want.num, .slice q1 x.want.l.length m1]] w2 (PatPost w2 (.bool (whenB true x.want)))) := fitwhen_any w2 true _ x.want _ _ _ _ _ (HWN.out.kept (All.kept (HUP.out w2 HB2.out)))
        cases hq3 : whenB true x.want with
        | false =>
         have HQ3 := Lib.hid hq3
         rw [hq3] at C3
         clear hq3
         go_wp2_with (go_at_call 41; refine C3.out.mono ?_; rintro e3 w3 ⟨rfl, hb3⟩)
         have HB3 := Lib.hid (HB2.out.trans (hb3.mono HB2.out.size))
         have HV : Hid (routeB x = false) := by show _ = _; rw [HRB.out, HQ2.out, HF.out, HW.out, HQ3.out]; rw [HEL.out]; rfl
         rw [← HPP.out]
         exact ⟨by unfold fitT; rw [HT.out, all_not HXJ.out HV.out]; rfl, HUP.out _ HB3.out⟩
        | true =>
         have HQ3 := Lib.hid hq3
         rw [hq3] at C3
         clear hq3
         go_wp2_with (go_at_call 41; refine C3.out.mono ?_; rintro e3 w3 ⟨rfl, hb3⟩)
         have HB3 := Lib.hid (HB2.out.trans (hb3.mono HB2.out.size))
         have HV : Hid (routeB x = true) := by show _ = _; rw [HRB.out, HQ2.out, HF.out, HW.out, HQ3.out]; rw [HEL.out]; rfl
         go_roundw
         case rel => exact ⟨j + 1, by go_num, by omega, all_step HXJ.out HAL.out HV.out, HB3.out⟩
         case measure => simp [intOf]; omega
      ·rw [hw] at c2
       have HW := Lib.hid hw
       clear hw
       have C3 : Hid (Calls Tryz.prog 41 #[.bool false, .agg #[.int .i64 x.want.op, .int .i64 x.want.num, .slice q1 x.want.l.length m1]] w2 (PatPost w2 (.bool (whenB false x.want)))) := fitwhen_any w2 false _ x.want _ _ _ _ _ (HWN.out.kept (All.kept (HUP.out w2 HB2.out)))
       cases hq3 : whenB false x.want with
       | false =>
        have HQ3 := Lib.hid hq3
        rw [hq3] at C3
        clear hq3
        go_wp2_with (go_at_call 41; refine C3.out.mono ?_; rintro e3 w3 ⟨rfl, hb3⟩)
        have HB3 := Lib.hid (HB2.out.trans (hb3.mono HB2.out.size))
        have HV : Hid (routeB x = false) := by show _ = _; rw [HRB.out, HQ2.out, HF.out, HW.out, HQ3.out]; rfl
        rw [← HPP.out]
        exact ⟨by unfold fitT; rw [HT.out, all_not HXJ.out HV.out]; rfl, HUP.out _ HB3.out⟩
       | true =>
        have HQ3 := Lib.hid hq3
        rw [hq3] at C3
        clear hq3
        go_wp2_with (go_at_call 41; refine C3.out.mono ?_; rintro e3 w3 ⟨rfl, hb3⟩)
        have HB3 := Lib.hid (HB2.out.trans (hb3.mono HB2.out.size))
        have HV : Hid (routeB x = true) := by show _ = _; rw [HRB.out, HQ2.out, HF.out, HW.out, HQ3.out]; rfl
        go_roundw
        case rel => exact ⟨j + 1, by go_num, by omega, all_step HXJ.out HAL.out HV.out, HB3.out⟩
        case measure => simp [intOf]; omega
    ·obtain rfl : j = t.routes.length := by omega
     have hjj : ¬ ((t.routes.length : Nat) : Int) < ((t.routes.length : Nat) : Int) := by omega
     have HT2 : Hid (t.routes.all routeB = true) := by have h := HAL.out; rwa [List.take_length] at h
     go_wp2_with fail
     rw [← HPP.out]
     exact ⟨by unfold fitT; rw [HT.out, HT2.out]; rfl, HUP.out _ HBs.out⟩
end Go.Proofs.YtbdllefnghddcaaGreatDoor
