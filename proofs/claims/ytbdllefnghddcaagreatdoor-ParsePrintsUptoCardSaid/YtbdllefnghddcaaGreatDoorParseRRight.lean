/- PARSE: which patterns may be written (the reference's). -/
import Derived.Test.YtbdllefnghddcaaGreatDoorPName
import Derived.Deep.DeepCutAuto
import Derived.StillTailTactics
import Derived.Test.YtbdllefnghddcaaGreatDoorPMem
namespace Go.Proofs.YtbdllefnghddcaaGreatDoor
set_option linter.unusedSimpArgs false
set_option maxHeartbeats 8000000
set_option maxRecDepth 100000
open Go Go.RowKit
attribute [local go_sem ↓] Go.wp_at_zero Go.wp_at_succ

theorem rparens_any (o i : Int) (ho : o = 4 ∨ o = 5 ∨ o = 6) (W : World) :
  Calls Tryz.prog 99 #[.int .i64 o, .int .i64 i] W fun e w' => e = .returned (.bool (parW o i)) ∧ w' = W := by
 obtain ⟨PP, hPP⟩ : ∃ PP : Ending → World → Prop, (fun e w' => e = .returned (.bool (parW o i)) ∧ w' = W) = PP := ⟨_, rfl⟩
 rw [hPP]
 have HPP := Lib.hid hPP
 clear hPP
 rcases ho with rfl | rfl | rfl
 ·by_cases i4 : i = 4
  ·subst i4
   go_enter Tryz.func99, Tryz.ntmps99
   go_wp2_with fail
   rw [← HPP.out]
   exact ⟨by rfl, rfl⟩
  ·obtain ⟨e4, n4⟩ := neI i4
   go_enter Tryz.func99, Tryz.ntmps99
   go_wp2_with fail
   rw [← HPP.out]
   exact ⟨by simp [parW, i4], rfl⟩
 ·by_cases i4 : i = 4
  ·subst i4
   go_enter Tryz.func99, Tryz.ntmps99
   go_wp2_with fail
   rw [← HPP.out]
   exact ⟨by rfl, rfl⟩
  ·obtain ⟨e4, n4⟩ := neI i4
   by_cases i5 : i = 5
   ·subst i5
    go_enter Tryz.func99, Tryz.ntmps99
    go_wp2_with fail
    rw [← HPP.out]
    exact ⟨by rfl, rfl⟩
   ·obtain ⟨e5, n5⟩ := neI i5
    go_enter Tryz.func99, Tryz.ntmps99
    go_wp2_with fail
    rw [← HPP.out]
    exact ⟨by simp [parW, i4, i5], rfl⟩
 ·by_cases i4 : i = 4
  ·subst i4
   go_enter Tryz.func99, Tryz.ntmps99
   go_wp2_with fail
   rw [← HPP.out]
   exact ⟨by rfl, rfl⟩
  ·obtain ⟨e4, n4⟩ := neI i4
   by_cases i5 : i = 5
   ·subst i5
    go_enter Tryz.func99, Tryz.ntmps99
    go_wp2_with fail
    rw [← HPP.out]
    exact ⟨by rfl, rfl⟩
   ·obtain ⟨e5, n5⟩ := neI i5
    go_enter Tryz.func99, Tryz.ntmps99
    go_wp2_with fail
    rw [← HPP.out]
    exact ⟨by simp [parW, i4, i5], rfl⟩
def cntD (t : Wt) (deep left : Nat) : Nat := if dpW t deep = true ∧ cntW t ≤ left then cntW t else 16385
theorem cntD_no {t : Wt} {deep left : Nat} (h : ¬ (dpW t deep = true ∧ cntW t ≤ left)) : cntD t deep left = 16385 := if_neg h

theorem rcount_any : ∀ (k : Nat) (t : Wt) (W : World) (op num : Int) (q : Option Addr) (n cap deep left : Nat), WtP All W k [.int .i64 op, .int .i64 num, .slice q n cap] t → deep ≤ 70 → left ≤ 16384 →
  Calls Tryz.prog 66 #[.agg #[.int .i64 op, .int .i64 num, .slice q n cap], .int .i64 (deep : Nat), .int .i64 (left : Nat)] W (PatPost W (.int .i64 (cntD t deep left : Nat))) := by
 intro k
 induction k with
 | zero => intro t W op num q n cap deep left h; exact h.elim
 | succ k ih =>
  intro t W op num q n cap deep left hD hd hlf
  have IH := Lib.hid ih
  clear ih
  obtain ⟨op', num', l⟩ := t
  obtain ⟨rfl, rfl, hn0⟩ := hD.top
  have HN : Hid (l.length = n) := hn0
  have hn9 : n ≤ 9223372036854775807 := by have := hD.len; omega
  obtain ⟨PP, hPP⟩ : ∃ PP, PatPost W (.int .i64 (cntD (.mk op num l) deep left : Nat)) = PP := ⟨_, rfl⟩
  rw [hPP]
  have HPP := Lib.hid hPP
  obtain ⟨X, hX⟩ : ∃ X, W.heap.size = X := ⟨_, rfl⟩
  obtain ⟨WA, hWA⟩ : ∃ WA, W.alloc (.cells #[.int .i64 op, .int .i64 num, .slice q n cap] 41) = WA := ⟨_, rfl⟩
  have HBA : Hid (Below W.heap.size W WA) := by show Below _ _ _; rw [← hWA]; exact (Below.refl _ W).alloc (Nat.le_refl _) _
  have hza := aRow_ hWA hX
  have hsa : WA.heap.size = X + 1 := by rw [← hWA, ← hX]; simp
  have z2 : WA.cell? ⟨X, 2, none⟩ = some (.slice q n cap) := by rw [cell_of_row _ _ _ _ _ _ hza]; rfl
  have lx : X < WA.heap.size := by omega
  have HD := Lib.hid hD
  have HX := Lib.hid hX
  have HWA := Lib.hid hWA
  have HZA := Lib.hid hza
  clear hPP hD hX hWA hza hn0 hsa
  go_enter Tryz.func66, Tryz.ntmps66
  go_upto_region 1 with fail
  rw [HX.out, HWA.out]
  by_cases hd1 : 68 < deep
  ·have q2 : (68 : Int) < (deep : Int) := by omega
   go_wp2_with fail
   rw [← HPP.out]
   exact ⟨by rw [cntD_no (fun h => by have h1 := h.1; rw [dpW, decide_eq_false (by omega)] at h1; cases h1)]; rfl, HBA.out⟩
  have q2 : ¬ (68 : Int) < (deep : Int) := by omega
  by_cases hl0 : left = 0
  ·subst hl0
   go_wp2_with fail
   rw [← HPP.out]
   exact ⟨by rw [cntD_no (fun h => by have := cntW_pos (.mk op num l); omega)]; rfl, HBA.out⟩
  have q3 : ¬ ((left : Nat) : Int) ≤ 0 := by omega
  go_wp2_with fail
  go_loopw [7, 8, 18] (fun s7 s8 s18 wr => ∃ j : Nat, s18 = .int .i64 (j : Nat) ∧ s7 = .int .i64 ((1 + cntL (l.take j) : Nat) : Int) ∧ j ≤ n ∧ 1 + cntL (l.take j) ≤ left ∧ Hid (dpL (l.take j) (deep + 1) = true) ∧ Hid (Below WA.heap.size WA wr)) (fun _ _ i _ => n - (intOf i).toNat)
  case atStart => exact ⟨0, rfl, by rw [List.take_zero, cntL]; rfl, Nat.zero_le _, by rw [List.take_zero, cntL]; omega, by show dpL (l.take 0) _ = true; rw [List.take_zero, dpL], Below.refl _ _⟩
  case round =>
   obtain ⟨j, rfl, rfl, hj, hle, HDL, HB⟩ := hrel
   have HUW : Hid (Below W.heap.size W wr) := HBA.out.trans (HB.out.mono HBA.out.size)
   have hzr : wr.heap[X]? = some (.cells #[.int .i64 op, .int .i64 num, .slice q n cap] 41 (0, 0)) := (HB.out.block X lx).trans HZA.out
   by_cases hlt : j < n
   ·obtain ⟨x, hx⟩ : ∃ x, l[j]? = some x := ⟨_, List.getElem?_eq_getElem (by rw [HN.out]; exact hlt)⟩
    obtain ⟨b, o, qq, _, c, -, rfl, hbl, d0, d1, d2, rfl, hPt⟩ := HD.out.part hx
    have y0 := (HUW.out.cell (p := ⟨b, _, none⟩) hbl).trans d0
    have y1 := (HUW.out.cell (p := ⟨b, _, none⟩) hbl).trans d1
    have y2 := (HUW.out.cell (p := ⟨b, _, none⟩) hbl).trans d2
    have r2 : wr.cell? ⟨X, 2, none⟩ = some (.slice (some ⟨b, o, none⟩) n cap) := by rw [cell_of_row _ _ _ _ _ _ hzr]; rfl
    have lxr : X < wr.heap.size := (Array.getElem?_eq_some_iff.1 hzr).1
    have hstep := cntL_step hx
    have hdn := @dpL_step l (deep + 1) j x hx HDL.out
    have hno := @dpL_not l (deep + 1) j x hx
    have htk := cntL_take_le l (j + 1)
    obtain ⟨m, hm⟩ : ∃ m, cntL (l.take j) = m := ⟨_, rfl⟩
    rw [hm] at hle hstep
    have hsub : ((left - (1 + m) : Nat) : Int) = (left : Int) - ((1 + m : Nat) : Int) := by omega
    have C := IH.out x wr x.op x.num qq x.l.length c (deep + 1) (left - (1 + m)) (hPt.kept (All.kept HUW.out)) (by omega) (by omega)
    rw [hsub] at C
    have C2 : Hid (Calls Tryz.prog 66 #[.agg #[.int .i64 x.op, .int .i64 x.num, .slice qq x.l.length c], .int .i64 ((deep : Int) + 1), .int .i64 ((left : Int) - ((1 + m : Nat) : Int))] wr (PatPost wr (.int .i64 (cntD x (deep + 1) (left - (1 + m)) : Nat)))) := C
    have g0 : (j : Int) < ((n : Nat) : Int) := by omega
    have g00 : (0 : Int) ≤ (j : Int) := by omega
    have HST := Lib.hid hstep
    have HDN := Lib.hid hdn
    have HNO := Lib.hid hno
    have HTK := Lib.hid htk
    have HM := Lib.hid hm
    obtain ⟨s, hs⟩ : ∃ s, 1 + m = s := ⟨_, rfl⟩
    have hs1 : 1 ≤ s := by omega
    rw [hm, hs]
    rw [hs] at C2 hle
    have HS := Lib.hid hs
    clear hx hbl d0 d1 d2 hPt hzr hstep hdn hno htk hm hsub C hs
    by_cases hok : dpW x (deep + 1) = true ∧ cntW x ≤ left - s
    ·have hcv : cntD x (deep + 1) (left - s) = cntW x := if_pos hok
     rw [hcv] at C2
     have hq5 : ¬ ((left : Nat) : Int) < ((s : Nat) : Int) + ((cntW x : Nat) : Int) := by have := hok.2; omega
     have hcx : cntW x ≤ 16384 := by have := hok.2; omega
     have HOK := Lib.hid hok
     clear hok hcv
     go_wp2_with (go_at_call 66; refine C2.out.mono ?_; rintro e1 w1 ⟨rfl, hb1⟩)
     go_roundw
     case rel => exact ⟨j + 1, by go_num, by rw [HST.out]; have := HS.out; push_cast; congr 1; omega, by omega, by rw [HST.out]; have := HS.out; have := HOK.out.2; omega, HDN.out HOK.out.1, HB.out.trans (hb1.mono HB.out.size)⟩
     case measure => simp [intOf]; omega
    ·have hcv : cntD x (deep + 1) (left - s) = 16385 := if_neg hok
     rw [hcv] at C2
     have hq5 : ((left : Nat) : Int) < ((s : Nat) : Int) + 16385 := by omega
     have HOK := Lib.hid hok
     clear hok hcv
     go_wp2_with (go_at_call 66; refine C2.out.mono ?_; rintro e1 w1 ⟨rfl, hb1⟩)
     rw [← HPP.out]
     refine ⟨?_, HUW.out.trans (hb1.mono HUW.out.size)⟩
     rw [cntD_no (fun h => HOK.out ?_)]
     ·rfl
     ·have h1 := h.1
      have h2 := h.2
      rw [dpW, Bool.and_eq_true] at h1
      rw [cntW] at h2
      have h3 := HTK.out
      rw [HST.out] at h3
      have h4 := HS.out
      refine ⟨?_, by omega⟩
      cases hc : dpW x (deep + 1) with
      | true => rfl
      | false => rw [HNO.out hc] at h1; cases h1.2
   ·obtain rfl : j = n := by omega
    have hjj : ¬ ((j : Nat) : Int) < ((j : Nat) : Int) := by omega
    have hta : l.take j = l := List.take_of_length_le (by rw [HN.out]; exact Nat.le_refl _)
    have HTA := Lib.hid hta
    have hle2 := hle
    rw [hta] at hle2
    have HLE := Lib.hid hle2
    rw [hta]
    clear hta hle2
    go_wp2_with fail
    rw [← HPP.out]
    refine ⟨?_, HUW.out⟩
    have hdl := HDL.out
    rw [HTA.out] at hdl
    unfold cntD
    rw [if_pos ⟨by rw [dpW, hdl, decide_eq_true (by omega)]; rfl, by rw [cntW]; exact HLE.out⟩, cntW]
    rfl
theorem rpat_any : ∀ (k : Nat) (t : Wt) (W : World) (op num : Int) (q : Option Addr) (n cap deep : Nat), WtP All W k [.int .i64 op, .int .i64 num, .slice q n cap] t → deep ≤ 34 →
  Calls Tryz.prog 67 #[.agg #[.int .i64 op, .int .i64 num, .slice q n cap], .int .i64 (deep : Nat)] W (PatPost W (.bool (patW t deep))) := by
 intro k
 induction k with
 | zero => intro t W op num q n cap deep h; exact h.elim
 | succ k ih =>
  intro t W op num q n cap deep hD hd
  have IH := Lib.hid ih
  clear ih
  obtain ⟨op', num', l⟩ := t
  obtain ⟨rfl, rfl, hn0⟩ := hD.top
  have HN : Hid (l.length = n) := hn0
  have hn9 : n ≤ 9223372036854775807 := by have := hD.len; omega
  obtain ⟨PP, hPP⟩ : ∃ PP, PatPost W (.bool (patW (.mk op num l) deep)) = PP := ⟨_, rfl⟩
  rw [hPP]
  have HPP := Lib.hid hPP
  obtain ⟨X, hX⟩ : ∃ X, W.heap.size = X := ⟨_, rfl⟩
  obtain ⟨WA, hWA⟩ : ∃ WA, W.alloc (.cells #[.int .i64 op, .int .i64 num, .slice q n cap] 41) = WA := ⟨_, rfl⟩
  have HBA : Hid (Below W.heap.size W WA) := by show Below _ _ _; rw [← hWA]; exact (Below.refl _ W).alloc (Nat.le_refl _) _
  have hza := aRow_ hWA hX
  have hsa : WA.heap.size = X + 1 := by rw [← hWA, ← hX]; simp
  obtain ⟨z0, z1, z2⟩ := row3_ hza
  have lx : X < WA.heap.size := by omega
  have HD := Lib.hid hD
  have HX := Lib.hid hX
  have HWA := Lib.hid hWA
  have HZA := Lib.hid hza
  clear hPP hD hX hWA hza hn0 hsa
  go_enter Tryz.func67, Tryz.ntmps67
  go_upto_region 1 with fail
  rw [HX.out, HWA.out]
  by_cases hd1 : 32 < deep
  ·have q2 : (32 : Int) < (deep : Int) := by omega
   go_wp2_with fail
   rw [← HPP.out]
   exact ⟨by rw [patW, decide_eq_false (by omega)]; rfl, HBA.out⟩
  have q2 : ¬ (32 : Int) < (deep : Int) := by omega
  have HD1 : Hid (decide (deep ≤ 32) = true) := decide_eq_true (show deep ≤ 32 by omega)
  by_cases o1 : op = 1
  ·subst o1
   by_cases hm : num = 0
   ·subst hm
    by_cases hn : n = 0
    ·subst hn
     have hl : l = [] := List.eq_nil_of_length_eq_zero HN.out
     have HV : Hid (patW (.mk 1 0 l) deep = true) := by show _ = _; rw [patW, HD1.out]; simp [hl]
     go_wp2_with fail
     rw [← HPP.out]
     exact ⟨by rw [HV.out], HBA.out⟩
    ·have hl : ¬ l = [] := fun e => hn (by rw [← HN.out, e]; rfl)
     have q3 : ((n : Nat) : Int) ≠ 0 := by omega
     obtain ⟨q4, q5⟩ := neI q3
     have HV : Hid (patW (.mk 1 0 l) deep = false) := by show _ = _; rw [patW, HD1.out]; simp [hl]
     go_wp2_with fail
     rw [← HPP.out]
     exact ⟨by rw [HV.out], HBA.out⟩
   ·obtain ⟨q6, q7⟩ := neI hm
    have HV : Hid (patW (.mk 1 num l) deep = false) := by show _ = _; rw [patW, HD1.out]; simp [hm]
    go_wp2_with fail
    rw [← HPP.out]
    exact ⟨by rw [HV.out], HBA.out⟩
  obtain ⟨eo1, no1⟩ := neI o1
  by_cases o2 : op = 2
  ·subst o2
   by_cases hm0 : 0 ≤ num
   ·by_cases hm1 : num < 14
    ·skip
     by_cases hn : n = 0
     ·subst hn
      have hl : l = [] := List.eq_nil_of_length_eq_zero HN.out
      have HV : Hid (patW (.mk 2 num l) deep = true) := by show _ = _; rw [patW, HD1.out]; simp [hm0, hm1, hl]
      go_wp2_with fail
      rw [← HPP.out]
      exact ⟨by rw [HV.out], HBA.out⟩
     ·have hl : ¬ l = [] := fun e => hn (by rw [← HN.out, e]; rfl)
      have q3 : ((n : Nat) : Int) ≠ 0 := by omega
      obtain ⟨q4, q5⟩ := neI q3
      have HV : Hid (patW (.mk 2 num l) deep = false) := by show _ = _; rw [patW, HD1.out]; simp [hm0, hm1, hl]
      go_wp2_with fail
      rw [← HPP.out]
      exact ⟨by rw [HV.out], HBA.out⟩
    ·skip
     have HV : Hid (patW (.mk 2 num l) deep = false) := by show _ = _; rw [patW, HD1.out]; simp; exact fun _ _ => by exfalso; omega
     go_wp2_with fail
     rw [← HPP.out]
     exact ⟨by rw [HV.out], HBA.out⟩
   ·skip
    have HV : Hid (patW (.mk 2 num l) deep = false) := by show _ = _; rw [patW, HD1.out]; simp; exact fun _ _ => by exfalso; omega
    go_wp2_with fail
    rw [← HPP.out]
    exact ⟨by rw [HV.out], HBA.out⟩
  obtain ⟨eo2, no2⟩ := neI o2
  by_cases o3 : op = 3
  ·subst o3
   by_cases hm0 : 0 ≤ num
   ·by_cases hm1 : num < 10
    ·skip
     by_cases hn : n = 0
     ·subst hn
      have hl : l = [] := List.eq_nil_of_length_eq_zero HN.out
      have HV : Hid (patW (.mk 3 num l) deep = true) := by show _ = _; rw [patW, HD1.out]; simp [hm0, hm1, hl]
      go_wp2_with fail
      rw [← HPP.out]
      exact ⟨by rw [HV.out], HBA.out⟩
     ·have hl : ¬ l = [] := fun e => hn (by rw [← HN.out, e]; rfl)
      have q3 : ((n : Nat) : Int) ≠ 0 := by omega
      obtain ⟨q4, q5⟩ := neI q3
      have HV : Hid (patW (.mk 3 num l) deep = false) := by show _ = _; rw [patW, HD1.out]; simp [hm0, hm1, hl]
      go_wp2_with fail
      rw [← HPP.out]
      exact ⟨by rw [HV.out], HBA.out⟩
    ·skip
     have HV : Hid (patW (.mk 3 num l) deep = false) := by show _ = _; rw [patW, HD1.out]; simp; exact fun _ _ => by exfalso; omega
     go_wp2_with fail
     rw [← HPP.out]
     exact ⟨by rw [HV.out], HBA.out⟩
   ·skip
    have HV : Hid (patW (.mk 3 num l) deep = false) := by show _ = _; rw [patW, HD1.out]; simp; exact fun _ _ => by exfalso; omega
    go_wp2_with fail
    rw [← HPP.out]
    exact ⟨by rw [HV.out], HBA.out⟩
  obtain ⟨eo3, no3⟩ := neI o3
  by_cases o6 : op = 6
  ·subst o6
   by_cases hm : num = 0
   ·subst hm
    by_cases hn : n = 1
    ·subst hn
     have hl : l.length = 1 := HN.out
     obtain ⟨x, hxl⟩ : ∃ x, l = [x] := by
      match l, hl with
      | [x], _ => exact ⟨x, rfl⟩
     have hx : l[0]? = some x := by rw [hxl]; rfl
     have HV : Hid (patW (.mk 6 0 l) deep = patW x (deep + 1 + if parW 6 x.op = true then 1 else 0)) := by show _ = _; rw [patW, HD1.out, hxl]; simp [patL]
     clear hxl
     obtain ⟨b, o, qq, _, c, -, rfl, hbl, d0, d1, d2, rfl, hPt⟩ := HD.out.part hx
     have y0 := (HBA.out.cell (p := ⟨b, _, none⟩) hbl).trans d0
     have y1 := (HBA.out.cell (p := ⟨b, _, none⟩) hbl).trans d1
     have y2 := (HBA.out.cell (p := ⟨b, _, none⟩) hbl).trans d2
     simp only [Nat.zero_mul, Nat.add_zero] at y0 y1 y2
     have HBr : Hid (Below WA.heap.size WA WA) := Below.refl _ _
     have HXd : Hid (WA.drew.heap[X]? = some (.cells #[.int .i64 6, .int .i64 0, .slice (some ⟨b, o, none⟩) 1 cap] 41 (0, 0))) := HZA.out
     obtain ⟨wd, hwd⟩ : ∃ wd, WA.drew = wd := ⟨_, rfl⟩
     have HBd : Hid (Below WA.heap.size WA wd) := by show Below _ _ _; rw [← hwd]; exact HBr.out.drew
     have HUd : Hid (Below W.heap.size W wd) := HBA.out.trans (HBd.out.mono HBA.out.size)
     have e0 : WA.drew.cell? ⟨b, o, none⟩ = some (.int .i64 x.op) := y0
     have s0 : WA.drew.cell? ⟨X, 0, none⟩ = some (.int .i64 6) := by rw [cell_of_row _ _ _ _ _ _ HXd.out]; rfl
     have s2 : WA.drew.cell? ⟨X, 2, none⟩ = some (.slice (some ⟨b, o, none⟩) 1 cap) := by rw [cell_of_row _ _ _ _ _ _ HXd.out]; rfl
     have sl : X < WA.drew.heap.size := (Array.getElem?_eq_some_iff.1 HXd.out).1
     have t2 : wd.cell? ⟨X, 2, none⟩ = some (.slice (some ⟨b, o, none⟩) 1 cap) := by rw [← hwd]; exact s2
     have tl : X < wd.heap.size := by rw [← hwd]; exact sl
     have u0 : wd.cell? ⟨b, o, none⟩ = some (.int .i64 x.op) := by rw [← hwd]; exact y0
     have u1 : wd.cell? ⟨b, o + 1, none⟩ = some (.int .i64 x.num) := by rw [← hwd]; exact y1
     have u2 : wd.cell? ⟨b, o + 2, none⟩ = some (.slice qq x.l.length c) := by rw [← hwd]; exact y2
     have HPt := Lib.hid (hPt.kept (All.kept HUd.out))
     have Hwd := Lib.hid hwd
     have CP := Lib.hid (rparens_any 6 x.op (by decide) wd)
     have HXJ := Lib.hid hx
     clear hx hbl d0 d1 d2 hPt hwd
     go_upto_region 28 with fail
     go_still_tail 7, (by kernel_rfl)
     change wpList _ _ _ _ _ WA.drew
     rw [Hwd.out]
     clear e0 s0 s2 sl y0 y1 y2
     cases hpar : parW 6 x.op with
     | true =>
      have HV2 : Hid (patW (.mk 6 0 l) deep = patW x (deep + 1 + 1)) := by have h := HV.out; rw [hpar] at h; exact h
      rw [hpar] at CP
      clear hpar
      go_wp2_with (go_at_call 99; refine CP.out.mono ?_; rintro e3 w3 ⟨rfl, rfl⟩)
      have C2 : Hid (Calls Tryz.prog 67 #[.agg #[.int .i64 x.op, .int .i64 x.num, .slice qq x.l.length c], .int .i64 ((deep : Int) + 1 + 1)] w3 (PatPost w3 (.bool (patW x (deep + 1 + 1))))) := IH.out x w3 x.op x.num qq x.l.length c (deep + 1 + 1) HPt.out (by omega)
      go_wp2_with (go_at_call 67; refine C2.out.mono ?_; rintro e4 w4 ⟨rfl, hb4⟩)
      rw [← HPP.out]
      exact ⟨by rw [HV2.out]; rfl, HUd.out.trans (hb4.mono HUd.out.size)⟩
     | false =>
      have HV2 : Hid (patW (.mk 6 0 l) deep = patW x (deep + 1)) := by have h := HV.out; rw [hpar] at h; exact h
      rw [hpar] at CP
      clear hpar
      go_wp2_with (go_at_call 99; refine CP.out.mono ?_; rintro e3 w3 ⟨rfl, rfl⟩)
      have C2 : Hid (Calls Tryz.prog 67 #[.agg #[.int .i64 x.op, .int .i64 x.num, .slice qq x.l.length c], .int .i64 ((deep : Int) + 1)] w3 (PatPost w3 (.bool (patW x (deep + 1))))) := IH.out x w3 x.op x.num qq x.l.length c (deep + 1) HPt.out (by omega)
      go_wp2_with (go_at_call 67; refine C2.out.mono ?_; rintro e4 w4 ⟨rfl, hb4⟩)
      rw [← HPP.out]
      exact ⟨by rw [HV2.out]; rfl, HUd.out.trans (hb4.mono HUd.out.size)⟩
    ·have hl : ¬ l.length = 1 := fun e => hn (by rw [← HN.out, e])
     have q3 : ((n : Nat) : Int) ≠ 1 := by omega
     obtain ⟨q4, q5⟩ := neI q3
     have HV : Hid (patW (.mk 6 0 l) deep = false) := by show _ = _; rw [patW, HD1.out]; simp [hl]
     go_wp2_with fail
     rw [← HPP.out]
     exact ⟨by rw [HV.out], HBA.out⟩
   ·obtain ⟨q6, q7⟩ := neI hm
    have HV : Hid (patW (.mk 6 num l) deep = false) := by show _ = _; rw [patW, HD1.out]; simp [hm]
    go_wp2_with fail
    rw [← HPP.out]
    exact ⟨by rw [HV.out], HBA.out⟩
  obtain ⟨eo6, no6⟩ := neI o6
  by_cases o4 : op = 4
  ·subst o4
   by_cases hm : num = 0
   ·subst hm
    by_cases hn : 2 ≤ n
    ·have hl : 2 ≤ l.length := by rw [HN.out]; exact hn
     have q3 : ¬ ((n : Nat) : Int) < 2 := by omega
     have HW1 : Hid (patW (.mk 4 0 l) deep = patL 4 l deep) := by show _ = _; rw [patW, HD1.out]; simp [hl]
     go_wp2_with fail
     go_loopw [5, 6, 70] (fun s5 s6 s70 wr => ∃ j : Nat, s70 = .int .i64 (j : Nat) ∧ j ≤ n ∧ Hid (patL 4 (l.take j) deep = true) ∧ Hid (Below WA.heap.size WA wr)) (fun _ _ i _ => n - (intOf i).toNat)
     case atStart => exact ⟨0, rfl, Nat.zero_le _, by show patL 4 (l.take 0) _ = true; rw [List.take_zero, patL], Below.refl _ _⟩
     case round =>
      obtain ⟨j, rfl, hj, HPL, HB⟩ := hrel
      have HUW : Hid (Below W.heap.size W wr) := HBA.out.trans (HB.out.mono HBA.out.size)
      have hzr : wr.heap[X]? = some (.cells #[.int .i64 4, .int .i64 0, .slice q n cap] 41 (0, 0)) := (HB.out.block X lx).trans HZA.out
      have HZR := Lib.hid hzr
      clear hzr
      by_cases hlt : j < n
      ·obtain ⟨x, hx⟩ : ∃ x, l[j]? = some x := ⟨_, List.getElem?_eq_getElem (by rw [HN.out]; exact hlt)⟩
       obtain ⟨b, o, qq, _, c, -, rfl, hbl, d0, d1, d2, rfl, hPt⟩ := HD.out.part hx
       have y0 := (HUW.out.cell (p := ⟨b, _, none⟩) hbl).trans d0
       have y1 := (HUW.out.cell (p := ⟨b, _, none⟩) hbl).trans d1
       have y2 := (HUW.out.cell (p := ⟨b, _, none⟩) hbl).trans d2
       have g0 : (j : Int) < ((n : Nat) : Int) := by omega
       have g00 : (0 : Int) ≤ (j : Int) := by omega
       have HXd : Hid (wr.drew.heap[X]? = some (.cells #[.int .i64 4, .int .i64 0, .slice (some ⟨b, o, none⟩) n cap] 41 (0, 0))) := HZR.out
       obtain ⟨wd, hwd⟩ : ∃ wd, wr.drew = wd := ⟨_, rfl⟩
       have HBd : Hid (Below WA.heap.size WA wd) := by show Below _ _ _; rw [← hwd]; exact HB.out.drew
       have HUd : Hid (Below W.heap.size W wd) := HBA.out.trans (HBd.out.mono HBA.out.size)
       have e0 : wr.drew.cell? ⟨b, o + j * 3, none⟩ = some (.int .i64 x.op) := y0
       have s0 : wr.drew.cell? ⟨X, 0, none⟩ = some (.int .i64 4) := by rw [cell_of_row _ _ _ _ _ _ HXd.out]; rfl
       have s2 : wr.drew.cell? ⟨X, 2, none⟩ = some (.slice (some ⟨b, o, none⟩) n cap) := by rw [cell_of_row _ _ _ _ _ _ HXd.out]; rfl
       have sl : X < wr.drew.heap.size := (Array.getElem?_eq_some_iff.1 HXd.out).1
       have t2 : wd.cell? ⟨X, 2, none⟩ = some (.slice (some ⟨b, o, none⟩) n cap) := by rw [← hwd]; exact s2
       have tl : X < wd.heap.size := by rw [← hwd]; exact sl
       have u0 : wd.cell? ⟨b, o + j * 3, none⟩ = some (.int .i64 x.op) := by rw [← hwd]; exact y0
       have u1 : wd.cell? ⟨b, o + j * 3 + 1, none⟩ = some (.int .i64 x.num) := by rw [← hwd]; exact y1
       have u2 : wd.cell? ⟨b, o + j * 3 + 2, none⟩ = some (.slice qq x.l.length c) := by rw [← hwd]; exact y2
       have HPt := Lib.hid (hPt.kept (All.kept HUd.out))
       have Hwd := Lib.hid hwd
       have CP := Lib.hid (rparens_any 4 x.op (by decide) wd)
       have HXJ := Lib.hid hx
       clear hx hbl d0 d1 d2 hPt hwd
       go_upto_region 18 with fail
       go_still_tail 8, (by kernel_rfl)
       change wpList _ _ _ _ _ wr.drew
       rw [Hwd.out]
       clear e0 s0 s2 sl y0 y1 y2
       cases hpar : parW 4 x.op with
       | true =>
        have HDD : Hid ((deep + if parW 4 x.op = true then 1 else 0) = deep + 1) := by show _ = _; rw [hpar]; rfl
        rw [hpar] at CP
        clear hpar
        go_wp2_with (go_at_call 99; refine CP.out.mono ?_; rintro e3 w3 ⟨rfl, rfl⟩)
        have C2 : Hid (Calls Tryz.prog 67 #[.agg #[.int .i64 x.op, .int .i64 x.num, .slice qq x.l.length c], .int .i64 ((deep : Int) + 1)] w3 (PatPost w3 (.bool (patW x (deep + 1))))) := IH.out x w3 x.op x.num qq x.l.length c (deep + 1) HPt.out (by omega)
        cases hv : patW x (deep + 1) with
        | false =>
         have HV := Lib.hid hv
         rw [hv] at C2
         clear hv
         go_wp2_with (go_at_call 67; refine C2.out.mono ?_; rintro e4 w4 ⟨rfl, hb4⟩)
         rw [← HPP.out]
         exact ⟨by rw [HW1.out, patL_not HXJ.out (by rw [HDD.out]; exact HV.out)]; rfl, HUd.out.trans (hb4.mono HUd.out.size)⟩
        | true =>
         have HV := Lib.hid hv
         rw [hv] at C2
         clear hv
         go_wp2_with (go_at_call 67; refine C2.out.mono ?_; rintro e4 w4 ⟨rfl, hb4⟩)
         go_roundw
         case rel => exact ⟨j + 1, by go_num, by omega, patL_step HXJ.out HPL.out (by rw [HDD.out]; exact HV.out), HBd.out.trans (hb4.mono HBd.out.size)⟩
         case measure => simp [intOf]; omega
       | false =>
        have HDD : Hid ((deep + if parW 4 x.op = true then 1 else 0) = deep) := by show _ = _; rw [hpar]; rfl
        rw [hpar] at CP
        clear hpar
        go_wp2_with (go_at_call 99; refine CP.out.mono ?_; rintro e3 w3 ⟨rfl, rfl⟩)
        have C2 : Hid (Calls Tryz.prog 67 #[.agg #[.int .i64 x.op, .int .i64 x.num, .slice qq x.l.length c], .int .i64 ((deep : Int))] w3 (PatPost w3 (.bool (patW x (deep))))) := IH.out x w3 x.op x.num qq x.l.length c (deep) HPt.out (by omega)
        cases hv : patW x (deep) with
        | false =>
         have HV := Lib.hid hv
         rw [hv] at C2
         clear hv
         go_wp2_with (go_at_call 67; refine C2.out.mono ?_; rintro e4 w4 ⟨rfl, hb4⟩)
         rw [← HPP.out]
         exact ⟨by rw [HW1.out, patL_not HXJ.out (by rw [HDD.out]; exact HV.out)]; rfl, HUd.out.trans (hb4.mono HUd.out.size)⟩
        | true =>
         have HV := Lib.hid hv
         rw [hv] at C2
         clear hv
         go_wp2_with (go_at_call 67; refine C2.out.mono ?_; rintro e4 w4 ⟨rfl, hb4⟩)
         go_roundw
         case rel => exact ⟨j + 1, by go_num, by omega, patL_step HXJ.out HPL.out (by rw [HDD.out]; exact HV.out), HBd.out.trans (hb4.mono HBd.out.size)⟩
         case measure => simp [intOf]; omega
      ·obtain rfl : j = n := by omega
       have hjj : ¬ ((j : Nat) : Int) < ((j : Nat) : Int) := by omega
       have HTA : Hid (l.take j = l) := List.take_of_length_le (by rw [HN.out]; exact Nat.le_refl _)
       go_wp2_with fail
       rw [← HPP.out]
       exact ⟨by rw [HW1.out]; have h := HPL.out; rw [HTA.out] at h; rw [h], HUW.out⟩
    ·have hl : ¬ 2 ≤ l.length := by rw [HN.out]; exact hn
     have q3 : ((n : Nat) : Int) < 2 := by omega
     have HV : Hid (patW (.mk 4 0 l) deep = false) := by show _ = _; rw [patW, HD1.out]; simp [hl]
     go_wp2_with fail
     rw [← HPP.out]
     exact ⟨by rw [HV.out], HBA.out⟩
   ·obtain ⟨q6, q7⟩ := neI hm
    have HV : Hid (patW (.mk 4 num l) deep = false) := by show _ = _; rw [patW, HD1.out]; simp [hm]
    go_wp2_with fail
    rw [← HPP.out]
    exact ⟨by rw [HV.out], HBA.out⟩
  obtain ⟨eo4, no4⟩ := neI o4
  by_cases o5 : op = 5
  ·subst o5
   by_cases hm : num = 0
   ·subst hm
    by_cases hn : 2 ≤ n
    ·have hl : 2 ≤ l.length := by rw [HN.out]; exact hn
     have q3 : ¬ ((n : Nat) : Int) < 2 := by omega
     have HW1 : Hid (patW (.mk 5 0 l) deep = patL 5 l deep) := by show _ = _; rw [patW, HD1.out]; simp [hl]
     go_wp2_with fail
     go_loopw [5, 6, 70] (fun s5 s6 s70 wr => ∃ j : Nat, s70 = .int .i64 (j : Nat) ∧ j ≤ n ∧ Hid (patL 5 (l.take j) deep = true) ∧ Hid (Below WA.heap.size WA wr)) (fun _ _ i _ => n - (intOf i).toNat)
     case atStart => exact ⟨0, rfl, Nat.zero_le _, by show patL 5 (l.take 0) _ = true; rw [List.take_zero, patL], Below.refl _ _⟩
     case round =>
      obtain ⟨j, rfl, hj, HPL, HB⟩ := hrel
      have HUW : Hid (Below W.heap.size W wr) := HBA.out.trans (HB.out.mono HBA.out.size)
      have hzr : wr.heap[X]? = some (.cells #[.int .i64 5, .int .i64 0, .slice q n cap] 41 (0, 0)) := (HB.out.block X lx).trans HZA.out
      have HZR := Lib.hid hzr
      clear hzr
      by_cases hlt : j < n
      ·obtain ⟨x, hx⟩ : ∃ x, l[j]? = some x := ⟨_, List.getElem?_eq_getElem (by rw [HN.out]; exact hlt)⟩
       obtain ⟨b, o, qq, _, c, -, rfl, hbl, d0, d1, d2, rfl, hPt⟩ := HD.out.part hx
       have y0 := (HUW.out.cell (p := ⟨b, _, none⟩) hbl).trans d0
       have y1 := (HUW.out.cell (p := ⟨b, _, none⟩) hbl).trans d1
       have y2 := (HUW.out.cell (p := ⟨b, _, none⟩) hbl).trans d2
       have g0 : (j : Int) < ((n : Nat) : Int) := by omega
       have g00 : (0 : Int) ≤ (j : Int) := by omega
       have HXd : Hid (wr.drew.heap[X]? = some (.cells #[.int .i64 5, .int .i64 0, .slice (some ⟨b, o, none⟩) n cap] 41 (0, 0))) := HZR.out
       obtain ⟨wd, hwd⟩ : ∃ wd, wr.drew = wd := ⟨_, rfl⟩
       have HBd : Hid (Below WA.heap.size WA wd) := by show Below _ _ _; rw [← hwd]; exact HB.out.drew
       have HUd : Hid (Below W.heap.size W wd) := HBA.out.trans (HBd.out.mono HBA.out.size)
       have e0 : wr.drew.cell? ⟨b, o + j * 3, none⟩ = some (.int .i64 x.op) := y0
       have s0 : wr.drew.cell? ⟨X, 0, none⟩ = some (.int .i64 5) := by rw [cell_of_row _ _ _ _ _ _ HXd.out]; rfl
       have s2 : wr.drew.cell? ⟨X, 2, none⟩ = some (.slice (some ⟨b, o, none⟩) n cap) := by rw [cell_of_row _ _ _ _ _ _ HXd.out]; rfl
       have sl : X < wr.drew.heap.size := (Array.getElem?_eq_some_iff.1 HXd.out).1
       have t2 : wd.cell? ⟨X, 2, none⟩ = some (.slice (some ⟨b, o, none⟩) n cap) := by rw [← hwd]; exact s2
       have tl : X < wd.heap.size := by rw [← hwd]; exact sl
       have u0 : wd.cell? ⟨b, o + j * 3, none⟩ = some (.int .i64 x.op) := by rw [← hwd]; exact y0
       have u1 : wd.cell? ⟨b, o + j * 3 + 1, none⟩ = some (.int .i64 x.num) := by rw [← hwd]; exact y1
       have u2 : wd.cell? ⟨b, o + j * 3 + 2, none⟩ = some (.slice qq x.l.length c) := by rw [← hwd]; exact y2
       have HPt := Lib.hid (hPt.kept (All.kept HUd.out))
       have Hwd := Lib.hid hwd
       have CP := Lib.hid (rparens_any 5 x.op (by decide) wd)
       have HXJ := Lib.hid hx
       clear hx hbl d0 d1 d2 hPt hwd
       go_upto_region 18 with fail
       go_still_tail 8, (by kernel_rfl)
       change wpList _ _ _ _ _ wr.drew
       rw [Hwd.out]
       clear e0 s0 s2 sl y0 y1 y2
       cases hpar : parW 5 x.op with
       | true =>
        have HDD : Hid ((deep + if parW 5 x.op = true then 1 else 0) = deep + 1) := by show _ = _; rw [hpar]; rfl
        rw [hpar] at CP
        clear hpar
        go_wp2_with (go_at_call 99; refine CP.out.mono ?_; rintro e3 w3 ⟨rfl, rfl⟩)
        have C2 : Hid (Calls Tryz.prog 67 #[.agg #[.int .i64 x.op, .int .i64 x.num, .slice qq x.l.length c], .int .i64 ((deep : Int) + 1)] w3 (PatPost w3 (.bool (patW x (deep + 1))))) := IH.out x w3 x.op x.num qq x.l.length c (deep + 1) HPt.out (by omega)
        cases hv : patW x (deep + 1) with
        | false =>
         have HV := Lib.hid hv
         rw [hv] at C2
         clear hv
         go_wp2_with (go_at_call 67; refine C2.out.mono ?_; rintro e4 w4 ⟨rfl, hb4⟩)
         rw [← HPP.out]
         exact ⟨by rw [HW1.out, patL_not HXJ.out (by rw [HDD.out]; exact HV.out)]; rfl, HUd.out.trans (hb4.mono HUd.out.size)⟩
        | true =>
         have HV := Lib.hid hv
         rw [hv] at C2
         clear hv
         go_wp2_with (go_at_call 67; refine C2.out.mono ?_; rintro e4 w4 ⟨rfl, hb4⟩)
         go_roundw
         case rel => exact ⟨j + 1, by go_num, by omega, patL_step HXJ.out HPL.out (by rw [HDD.out]; exact HV.out), HBd.out.trans (hb4.mono HBd.out.size)⟩
         case measure => simp [intOf]; omega
       | false =>
        have HDD : Hid ((deep + if parW 5 x.op = true then 1 else 0) = deep) := by show _ = _; rw [hpar]; rfl
        rw [hpar] at CP
        clear hpar
        go_wp2_with (go_at_call 99; refine CP.out.mono ?_; rintro e3 w3 ⟨rfl, rfl⟩)
        have C2 : Hid (Calls Tryz.prog 67 #[.agg #[.int .i64 x.op, .int .i64 x.num, .slice qq x.l.length c], .int .i64 ((deep : Int))] w3 (PatPost w3 (.bool (patW x (deep))))) := IH.out x w3 x.op x.num qq x.l.length c (deep) HPt.out (by omega)
        cases hv : patW x (deep) with
        | false =>
         have HV := Lib.hid hv
         rw [hv] at C2
         clear hv
         go_wp2_with (go_at_call 67; refine C2.out.mono ?_; rintro e4 w4 ⟨rfl, hb4⟩)
         rw [← HPP.out]
         exact ⟨by rw [HW1.out, patL_not HXJ.out (by rw [HDD.out]; exact HV.out)]; rfl, HUd.out.trans (hb4.mono HUd.out.size)⟩
        | true =>
         have HV := Lib.hid hv
         rw [hv] at C2
         clear hv
         go_wp2_with (go_at_call 67; refine C2.out.mono ?_; rintro e4 w4 ⟨rfl, hb4⟩)
         go_roundw
         case rel => exact ⟨j + 1, by go_num, by omega, patL_step HXJ.out HPL.out (by rw [HDD.out]; exact HV.out), HBd.out.trans (hb4.mono HBd.out.size)⟩
         case measure => simp [intOf]; omega
      ·obtain rfl : j = n := by omega
       have hjj : ¬ ((j : Nat) : Int) < ((j : Nat) : Int) := by omega
       have HTA : Hid (l.take j = l) := List.take_of_length_le (by rw [HN.out]; exact Nat.le_refl _)
       go_wp2_with fail
       rw [← HPP.out]
       exact ⟨by rw [HW1.out]; have h := HPL.out; rw [HTA.out] at h; rw [h], HUW.out⟩
    ·have hl : ¬ 2 ≤ l.length := by rw [HN.out]; exact hn
     have q3 : ((n : Nat) : Int) < 2 := by omega
     have HV : Hid (patW (.mk 5 0 l) deep = false) := by show _ = _; rw [patW, HD1.out]; simp [hl]
     go_wp2_with fail
     rw [← HPP.out]
     exact ⟨by rw [HV.out], HBA.out⟩
   ·obtain ⟨q6, q7⟩ := neI hm
    have HV : Hid (patW (.mk 5 num l) deep = false) := by show _ = _; rw [patW, HD1.out]; simp [hm]
    go_wp2_with fail
    rw [← HPP.out]
    exact ⟨by rw [HV.out], HBA.out⟩
  obtain ⟨eo5, no5⟩ := neI o5
  have HV : Hid (patW (.mk op num l) deep = false) := by show _ = _; rw [patW, HD1.out]; simp [o1, o2, o3, o4, o5, o6]
  go_wp2_with fail
  rw [← HPP.out]
  exact ⟨by rw [HV.out], HBA.out⟩
theorem rright_any (W : World) (k : Nat) (t : Wt) (op num : Int) (q : Option Addr) (n cap : Nat) (hD : WtP All W k [.int .i64 op, .int .i64 num, .slice q n cap] t) :
  Calls Tryz.prog 27 #[.agg #[.int .i64 op, .int .i64 num, .slice q n cap]] W (PatPost W (.bool (rightB t))) := by
 obtain ⟨PP, hPP⟩ : ∃ PP, PatPost W (.bool (rightB t)) = PP := ⟨_, rfl⟩
 rw [hPP]
 have HPP := Lib.hid hPP
 obtain ⟨X, hX⟩ : ∃ X, W.heap.size = X := ⟨_, rfl⟩
 obtain ⟨WA, hWA⟩ : ∃ WA, W.alloc (.cells #[.int .i64 op, .int .i64 num, .slice q n cap] 41) = WA := ⟨_, rfl⟩
 have HBA : Hid (Below W.heap.size W WA) := by show Below _ _ _; rw [← hWA]; exact (Below.refl _ W).alloc (Nat.le_refl _) _
 have hza := aRow_ hWA hX
 obtain ⟨z0, z1, z2⟩ := row3_ hza
 have lx : X < WA.heap.size := (Array.getElem?_eq_some_iff.1 hza).1
 have CC := Lib.hid (rcount_any k t WA op num q n cap 0 16384 (hD.kept (All.kept HBA.out)) (by omega) (by omega))
 have HD := Lib.hid hD
 have HX := Lib.hid hX
 have HWA := Lib.hid hWA
 have HZA := Lib.hid hza
 clear hPP hD hX hWA hza
 go_enter Tryz.func27, Tryz.ntmps27
 go_upto_region 1 with fail
 rw [HX.out, HWA.out]
 go_wp2_with (go_at_call 66; refine CC.out.mono ?_)
 rintro e1 w1 ⟨rfl, hb1⟩
 have hz1 : w1.heap[X]? = some (.cells #[.int .i64 op, .int .i64 num, .slice q n cap] 41 (0, 0)) := (hb1.block X lx).trans HZA.out
 obtain ⟨y0, y1, y2⟩ := row3_ hz1
 have lx1 : X < w1.heap.size := (Array.getElem?_eq_some_iff.1 hz1).1
 have HBW := Lib.hid (HBA.out.trans (hb1.mono HBA.out.size))
 have C2 := Lib.hid (rpat_any k t w1 op num q n cap 0 (HD.out.kept (All.kept HBW.out)) (by omega))
 clear hz1 hb1 z0 z1 z2 lx
 by_cases hok : dpW t 0 = true ∧ cntW t ≤ 16384
 ·have hc : cntD t 0 16384 = cntW t := if_pos hok
  have hq : ((cntW t : Nat) : Int) ≤ 16384 := by have := hok.2; omega
  have HOK := Lib.hid hok
  rw [hc]
  clear hok hc
  go_wp2_with (go_at_call 67; refine C2.out.mono ?_; rintro e2 w2 ⟨rfl, hb2⟩)
  rw [← HPP.out]
  refine ⟨?_, HBW.out.trans (hb2.mono HBW.out.size)⟩
  unfold rightB
  rw [decide_eq_true HOK.out.2, Bool.and_true]
  rfl
 ·have hc : cntD t 0 16384 = 16385 := if_neg hok
  have HOK := Lib.hid hok
  rw [hc]
  clear hok hc
  go_wp2_with fail
  rw [← HPP.out]
  refine ⟨?_, HBW.out⟩
  have hr : rightB t = false := by
   cases h : rightB t with
   | false => rfl
   | true =>
    unfold rightB at h
    rw [Bool.and_eq_true, decide_eq_true_eq] at h
    exact absurd ⟨right_dp h.1, h.2⟩ HOK.out
  rw [hr]
  rfl
end Go.Proofs.YtbdllefnghddcaaGreatDoor
