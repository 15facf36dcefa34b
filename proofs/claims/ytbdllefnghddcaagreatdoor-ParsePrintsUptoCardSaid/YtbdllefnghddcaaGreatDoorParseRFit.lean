/- PARSE: Fit (the reference's), its smaller parts. -/
import Derived.Test.YtbdllefnghddcaaGreatDoorParseRRight
import Derived.Test.YtbdllefnghddcaaGreatDoorParseFitH
import Derived.Test.YtbdllefnghddcaaGreatDoorPMem
namespace Go.Proofs.YtbdllefnghddcaaGreatDoor
set_option linter.unusedSimpArgs false
set_option maxHeartbeats 8000000
set_option maxRecDepth 100000
open Go Go.RowKit
attribute [local go_sem ↓] Go.wp_at_zero Go.wp_at_succ

theorem ruses_any {W : World} {v : Value} {us : List Us} (hV : UsP All W v us) (hS : SmU us) :
  Calls Tryz.prog 87 #[v] W (PatPost W (.bool (namesB us))) := by
 obtain ⟨PP, hPP⟩ : ∃ PP, PatPost W (.bool (namesB us)) = PP := ⟨_, rfl⟩
 rw [hPP]
 have HPP := Lib.hid hPP
 obtain ⟨q, cap, rfl, hn9⟩ := hV.shape
 have HV := Lib.hid hV
 have HS := Lib.hid hS
 clear hPP hV hS
 go_enter Tryz.func87, Tryz.ntmps87
 go_wp2_with fail
 go_loopw [4, 7] (fun s4 s7 wr => ∃ j : Nat, s7 = .int .i64 (j : Nat) ∧ j ≤ us.length ∧ Hid ((us.take j).all useB = true) ∧ Hid (Below W.heap.size W wr)) (fun _ i _ => us.length - (intOf i).toNat)
 case atStart => exact ⟨0, rfl, Nat.zero_le _, rfl, Below.refl _ _⟩
 case round =>
  obtain ⟨j, rfl, hj, HAL, HB⟩ := hrel
  by_cases hlt : j < us.length
  ·obtain ⟨x, hx⟩ : ∃ x, us[j]? = some x := ⟨_, List.getElem?_eq_getElem hlt⟩
   obtain ⟨b, o, cap2, e, -, hbl, d0, d1⟩ := HV.out.at hx
   injection e with e _ e3
   subst e; subst e3
   have y0 := (HB.out.cell (p := ⟨b, _, none⟩) hbl).trans d0
   have y1 := (HB.out.cell (p := ⟨b, _, none⟩) hbl).trans d1
   have g0 : (j : Int) < ((us.length : Nat) : Int) := by omega
   have g00 : (0 : Int) ≤ (j : Int) := by omega
   obtain ⟨B, hB⟩ : ∃ B, wr.heap.size = B := ⟨_, rfl⟩
   obtain ⟨w1, hw1⟩ : ∃ w1, wr.alloc (.cells #[.string x.name, .int .i64 x.pos] 74) = w1 := ⟨_, rfl⟩
   have hb1 : Below wr.heap.size wr w1 := by rw [← hw1]; exact (Below.refl _ wr).alloc (Nat.le_refl _) _
   have hz1 := aRow_ hw1 hB
   have r0 : w1.cell? ⟨B, 0, none⟩ = some (.string x.name) := by rw [cell_of_row _ _ _ _ _ _ hz1]; rfl
   have lB : B < w1.heap.size := (Array.getElem?_eq_some_iff.1 hz1).1
   have HB1 := Lib.hid (HB.out.trans (hb1.mono HB.out.size))
   have C : Hid (Calls Tryz.prog 43 #[.string x.name] w1 (PatPost w1 (.bool (useB x)))) := rname_any x.name w1 (HS.out x (List.mem_of_getElem? hx))
   have HXJ := Lib.hid hx
   have HBe := Lib.hid hB
   have Hw1 := Lib.hid hw1
   clear hx hbl d0 d1 hB hw1 hb1 hz1
   go_upto_region 4 with fail
   rw [HBe.out, Hw1.out]
   clear y0 y1
   cases hp : useB x with
   | false =>
    have HP := Lib.hid hp
    rw [hp] at C
    clear hp
    go_wp2_with (go_at_call 43; refine C.out.mono ?_; rintro e2 w2 ⟨rfl, hb2⟩)
    rw [← HPP.out]
    exact ⟨by rw [namesB_use, all_not HXJ.out HP.out]; rfl, HB1.out.trans (hb2.mono HB1.out.size)⟩
   | true =>
    have HP := Lib.hid hp
    rw [hp] at C
    clear hp
    go_wp2_with (go_at_call 43; refine C.out.mono ?_; rintro e2 w2 ⟨rfl, hb2⟩)
    go_roundw
    case rel => exact ⟨j + 1, by go_num, by omega, all_step HXJ.out HAL.out HP.out, HB1.out.trans (hb2.mono HB1.out.size)⟩
    case measure => simp [intOf]; omega
  ·obtain rfl : j = us.length := by omega
   have hjj : ¬ ((us.length : Nat) : Int) < ((us.length : Nat) : Int) := by omega
   have HT : Hid (us.all useB = true) := by have h := HAL.out; rwa [List.take_length] at h
   go_wp2_with fail
   rw [← HPP.out]
   exact ⟨by rw [namesB_use, HT.out], HB.out⟩
theorem rzero_any (W : World) (k : Nat) (t : Wt) (op num : Int) (q : Option Addr) (n cap : Nat) (hD : WtP All W k [.int .i64 op, .int .i64 num, .slice q n cap] t) :
  Calls Tryz.prog 91 #[.agg #[.int .i64 op, .int .i64 num, .slice q n cap]] W (PatPost W (.bool (zeroW t))) := by
 obtain ⟨PP, hPP⟩ : ∃ PP, PatPost W (.bool (zeroW t)) = PP := ⟨_, rfl⟩
 rw [hPP]
 have HPP := Lib.hid hPP
 obtain ⟨k, p1, c1, rfl, e⟩ := hD.form
 obtain ⟨op', num', l⟩ := t
 obtain ⟨rfl, rfl, hn0⟩ := hD.top
 have HN : Hid (l.length = n) := hn0
 clear hD e hn0
 obtain ⟨WA, hWA⟩ : ∃ WA, W.alloc (.cells #[.int .i64 op, .int .i64 num, .slice q n cap] 41) = WA := ⟨_, rfl⟩
 obtain ⟨X, hX⟩ : ∃ X, W.heap.size = X := ⟨_, rfl⟩
 have HBA : Hid (Below W.heap.size W WA) := by rw [← hWA]; exact (Below.refl _ W).alloc (Nat.le_refl _) _
 have hza := aRow_ hWA hX
 have hsa : WA.heap.size = X + 1 := by rw [← hWA, ← hX]; simp
 have lxa : X < WA.heap.size := by omega
 obtain ⟨z0, z1, z2⟩ := row3_ hza
 have HZA := Lib.hid hza
 have HX := Lib.hid hX
 have HWA := Lib.hid hWA
 clear hza hX hWA hsa
 clear hPP
 by_cases h1 : op = 0
 ·subst h1
  by_cases h2 : num = 0
  ·subst h2
   by_cases h3 : n = 0
   ·subst h3
    go_enter Tryz.func91, Tryz.ntmps91
    go_upto_region 1 with fail
    rw [HX.out, HWA.out]
    go_wp2_with fail
    rw [← HPP.out]
    exact ⟨by simp [zeroW, Wt.op, Wt.num, Wt.l, HN.out], HBA.out⟩
   ·have h3i : ¬ ((n : Nat) : Int) = 0 := by omega
    obtain ⟨k1, k2⟩ := neI h3i
    go_enter Tryz.func91, Tryz.ntmps91
    go_upto_region 1 with fail
    rw [HX.out, HWA.out]
    go_wp2_with fail
    rw [← HPP.out]
    exact ⟨by simp [zeroW, Wt.op, Wt.num, Wt.l, HN.out, h3], HBA.out⟩
  ·obtain ⟨k1, k2⟩ := neI h2
   go_enter Tryz.func91, Tryz.ntmps91
   go_upto_region 1 with fail
   rw [HX.out, HWA.out]
   go_wp2_with fail
   rw [← HPP.out]
   exact ⟨by simp [zeroW, Wt.op, Wt.num, Wt.l, HN.out, h2], HBA.out⟩
 ·obtain ⟨k1, k2⟩ := neI h1
  go_enter Tryz.func91, Tryz.ntmps91
  go_upto_region 1 with fail
  rw [HX.out, HWA.out]
  go_wp2_with fail
  rw [← HPP.out]
  exact ⟨by simp [zeroW, Wt.op, Wt.num, Wt.l, HN.out, h1], HBA.out⟩
theorem rpattern_any (W : World) (b : Bool) (k : Nat) (t : Wt) (op num : Int) (q : Option Addr) (n cap : Nat) (hD : WtP All W k [.int .i64 op, .int .i64 num, .slice q n cap] t) :
  Calls Tryz.prog 44 #[.bool b, .agg #[.int .i64 op, .int .i64 num, .slice q n cap]] W (PatPost W (.bool (whenB b t))) := by
 obtain ⟨PP, hPP⟩ : ∃ PP, PatPost W (.bool (whenB b t)) = PP := ⟨_, rfl⟩
 rw [hPP]
 have HPP := Lib.hid hPP
 obtain ⟨WA, hWA⟩ : ∃ WA, W.alloc (.cells #[.int .i64 op, .int .i64 num, .slice q n cap] 41) = WA := ⟨_, rfl⟩
 obtain ⟨X, hX⟩ : ∃ X, W.heap.size = X := ⟨_, rfl⟩
 have HBA : Hid (Below W.heap.size W WA) := by rw [← hWA]; exact (Below.refl _ W).alloc (Nat.le_refl _) _
 have hza := aRow_ hWA hX
 have hsa : WA.heap.size = X + 1 := by rw [← hWA, ← hX]; simp
 have lxa : X < WA.heap.size := by omega
 obtain ⟨z0, z1, z2⟩ := row3_ hza
 have HZA := Lib.hid hza
 have HX := Lib.hid hX
 have HWA := Lib.hid hWA
 clear hza hX hWA hsa
 have C1 := Lib.hid (rright_any WA k t op num q n cap (hD.kept (All.kept HBA.out)))
 have C2 := Lib.hid (rzero_any WA k t op num q n cap (hD.kept (All.kept HBA.out)))
 clear hPP hD
 cases b with
 | true =>
  go_enter Tryz.func44, Tryz.ntmps44
  go_upto_region 1 with fail
  rw [HX.out, HWA.out]
  go_wp2_with (go_at_call 27; refine C1.out.mono ?_; rintro e1 w1 ⟨rfl, hb1⟩)
  rw [← HPP.out]
  exact ⟨rfl, HBA.out.trans (hb1.mono HBA.out.size)⟩
 | false =>
  go_enter Tryz.func44, Tryz.ntmps44
  go_upto_region 1 with fail
  rw [HX.out, HWA.out]
  go_wp2_with (go_at_call 91; refine C2.out.mono ?_; rintro e1 w1 ⟨rfl, hb1⟩)
  rw [← HPP.out]
  exact ⟨rfl, HBA.out.trans (hb1.mono HBA.out.size)⟩
theorem rfitcore_any (c : CoreT) (W : World) {cs : List Value} (hS : c.word.size ≤ 1048577) (hU : SmU c.caps) (hR : CoreP All W cs c) :
  Calls Tryz.prog 89 #[.agg cs.toArray] W (PatPost W (.bool (coreB c))) := by
 obtain ⟨PP, hPP⟩ : ∃ PP, PatPost W (.bool (coreB c)) = PP := ⟨_, rfl⟩
 rw [hPP]
 have HPP := Lib.hid hPP
 obtain ⟨cv, rfl, hcaps⟩ := hR
 obtain ⟨cq, cc, rfl, -⟩ := UsP.shape hcaps
 obtain ⟨WA, hWA⟩ : ∃ WA, W.alloc (.cells #[.string c.word, .bool c.has, .bool c.minus, .int .u64 c.num, .slice cq c.caps.length cc, .int .i64 c.pos] 78) = WA := ⟨_, rfl⟩
 obtain ⟨X, hX⟩ : ∃ X, W.heap.size = X := ⟨_, rfl⟩
 have HBA : Hid (Below W.heap.size W WA) := by rw [← hWA]; exact (Below.refl _ W).alloc (Nat.le_refl _) _
 have hza := aRow_ hWA hX
 have hsa : WA.heap.size = X + 1 := by rw [← hWA, ← hX]; simp
 have lxa : X < WA.heap.size := by omega
 obtain ⟨z0, z1, z2, z3, z4, z5⟩ := row6_ hza
 have HZA := Lib.hid hza
 have HX := Lib.hid hX
 have HWA := Lib.hid hWA
 clear hza hX hWA hsa
 have HX0 := HZA
 have HB0 := HBA
 have HCA := Lib.hid hcaps
 clear hPP hcaps z0 z1 z2 z3 z4 z5 lxa
 obtain ⟨cX0, cX1, cX2, cX3, cX4, cX5⟩ := row6_ HX0.out
 have ltX : X < WA.heap.size := (Array.getElem?_eq_some_iff.1 HX0.out).1
 have hev : coreB c = (nameB c.word && ((c.has || (decide (c.num = 0) && !c.minus)) && namesB c.caps)) := rfl
 have HEV := Lib.hid hev
 clear hev
 go_enter Tryz.func89, Tryz.ntmps89
 go_upto_region 1 with fail
 rw [HX.out, HWA.out]
 have C1 := Lib.hid (rname_any c.word WA hS)
 go_wp2_with (go_at_call 43; refine C1.out.mono ?_)
 clear cX0 cX1 cX2 cX3 cX4 cX5 ltX
 rintro e1 w1 ⟨rfl, hb1⟩
 have HB1 := Lib.hid (HB0.out.trans (hb1.mono HB0.out.size))
 have hX1 := (hb1.block X (Array.getElem?_eq_some_iff.1 HX0.out).1).trans HX0.out
 obtain ⟨cX0, cX1, cX2, cX3, cX4, cX5⟩ := row6_ hX1
 have ltX : X < w1.heap.size := (Array.getElem?_eq_some_iff.1 hX1).1
 have HX1 := Lib.hid hX1
 clear hX1
 clear hb1 C1
 cases hq1 : nameB c.word with
 | false =>
  have HQ1 := Lib.hid hq1
  clear hq1
  have HV : Hid (coreB c = false) := by show _ = _; rw [HEV.out, HQ1.out]; rfl
  go_wp2_with fail
  rw [← HPP.out]
  exact ⟨by rw [HV.out] <;> rfl, HB1.out⟩
 | true =>
  have HQ1 := Lib.hid hq1
  clear hq1
  rcases Bool.eq_false_or_eq_true c.has with hh | hh
  ·rw [hh] at cX1
   have HH := Lib.hid hh
   clear hh
   have C2 := Lib.hid (ruses_any (FlP.kept HCA.out (All.kept HB1.out)) hU)
   have HV : Hid (coreB c = namesB c.caps) := by show _ = _; rw [HEV.out, HQ1.out, HH.out]; rfl
   go_wp2_with (go_at_call 87; refine C2.out.mono ?_; rintro e2 w2 ⟨rfl, hb2⟩)
   rw [← HPP.out]
   exact ⟨by rw [HV.out] <;> rfl, HB1.out.trans (hb2.mono HB1.out.size)⟩
  ·rw [hh] at cX1
   have HH := Lib.hid hh
   clear hh
   by_cases hn : c.num = 0
   ·rw [hn] at cX3
    have HN := Lib.hid hn
    clear hn
    rcases Bool.eq_false_or_eq_true c.minus with hm | hm
    ·rw [hm] at cX2
     have HM := Lib.hid hm
     clear hm
     have HV : Hid (coreB c = false) := by show _ = _; rw [HEV.out, HQ1.out, HH.out, HM.out]; simp
     go_wp2_with fail
     rw [← HPP.out]
     exact ⟨by rw [HV.out] <;> rfl, HB1.out⟩
    ·rw [hm] at cX2
     have HM := Lib.hid hm
     clear hm
     have C2 := Lib.hid (ruses_any (FlP.kept HCA.out (All.kept HB1.out)) hU)
     have HV : Hid (coreB c = namesB c.caps) := by show _ = _; rw [HEV.out, HQ1.out, HH.out, HM.out, decide_eq_true HN.out]; rfl
     go_wp2_with (go_at_call 87; refine C2.out.mono ?_; rintro e2 w2 ⟨rfl, hb2⟩)
     rw [← HPP.out]
     exact ⟨by rw [HV.out] <;> rfl, HB1.out.trans (hb2.mono HB1.out.size)⟩
   ·obtain ⟨i1, i2⟩ := neI hn
    have HN := Lib.hid hn
    have HV : Hid (coreB c = false) := by show _ = _; rw [HEV.out, HQ1.out, HH.out, decide_eq_false HN.out]; rfl
    go_wp2_with fail
    rw [← HPP.out]
    exact ⟨by rw [HV.out] <;> rfl, HB1.out⟩
theorem rnocore_any (c : CoreT) (W : World) {cs : List Value} (hR : CoreP All W cs c) :
  Calls Tryz.prog 88 #[.agg cs.toArray] W (PatPost W (.bool (noCoreB c))) := by
 obtain ⟨PP, hPP⟩ : ∃ PP, PatPost W (.bool (noCoreB c)) = PP := ⟨_, rfl⟩
 rw [hPP]
 have HPP := Lib.hid hPP
 obtain ⟨cv, rfl, hcaps⟩ := hR
 obtain ⟨cq, cc, rfl, -⟩ := UsP.shape hcaps
 obtain ⟨WA, hWA⟩ : ∃ WA, W.alloc (.cells #[.string c.word, .bool c.has, .bool c.minus, .int .u64 c.num, .slice cq c.caps.length cc, .int .i64 c.pos] 78) = WA := ⟨_, rfl⟩
 obtain ⟨X, hX⟩ : ∃ X, W.heap.size = X := ⟨_, rfl⟩
 have HBA : Hid (Below W.heap.size W WA) := by rw [← hWA]; exact (Below.refl _ W).alloc (Nat.le_refl _) _
 have hza := aRow_ hWA hX
 have hsa : WA.heap.size = X + 1 := by rw [← hWA, ← hX]; simp
 have lxa : X < WA.heap.size := by omega
 obtain ⟨z0, z1, z2, z3, z4, z5⟩ := row6_ hza
 have HZA := Lib.hid hza
 have HX := Lib.hid hX
 have HWA := Lib.hid hWA
 clear hza hX hWA hsa
 have HX0 := HZA
 have HB0 := HBA
 have HCA := Lib.hid hcaps
 clear hPP hcaps z0 z1 z2 z3 z4 z5 lxa
 obtain ⟨cX0, cX1, cX2, cX3, cX4, cX5⟩ := row6_ HX0.out
 have ltX : X < WA.heap.size := (Array.getElem?_eq_some_iff.1 HX0.out).1
 have hev : noCoreB c = (decide (c.word.size = 0) && (!c.has && (!c.minus && (decide (c.num = 0) && decide (c.caps.length = 0))))) := rfl
 have HEV := Lib.hid hev
 clear hev
 go_enter Tryz.func88, Tryz.ntmps88
 go_upto_region 1 with fail
 rw [HX.out, HWA.out]
 by_cases hw : c.word.size = 0
 ·have hwe := noname hw
  have HW := Lib.hid hw
  rw [hwe] at cX0
  clear hw hwe
  rcases Bool.eq_false_or_eq_true c.has with hh | hh
  ·rw [hh] at cX1
   have HH := Lib.hid hh
   clear hh
   have HV : Hid (noCoreB c = false) := by show _ = _; rw [HEV.out, HH.out]; simp
   go_wp2_with fail
   rw [← HPP.out]
   exact ⟨by rw [HV.out] <;> rfl, HB0.out⟩
  ·rw [hh] at cX1
   have HH := Lib.hid hh
   clear hh
   rcases Bool.eq_false_or_eq_true c.minus with hm | hm
   ·rw [hm] at cX2
    have HM := Lib.hid hm
    clear hm
    have HV : Hid (noCoreB c = false) := by show _ = _; rw [HEV.out, HM.out]; simp
    go_wp2_with fail
    rw [← HPP.out]
    exact ⟨by rw [HV.out] <;> rfl, HB0.out⟩
   ·rw [hm] at cX2
    have HM := Lib.hid hm
    clear hm
    by_cases hn : c.num = 0
    ·rw [hn] at cX3
     have HN := Lib.hid hn
     clear hn
     by_cases hc : c.caps.length = 0
     ·rw [hc] at cX4
      have HC := Lib.hid hc
      clear hc
      have HV : Hid (noCoreB c = true) := by show _ = _; rw [HEV.out, HH.out, HM.out, decide_eq_true HN.out, decide_eq_true HW.out, decide_eq_true HC.out]; rfl
      go_wp2_with fail
      rw [← HPP.out]
      exact ⟨by rw [HV.out] <;> rfl, HB0.out⟩
     ·have hci : ¬ ((c.caps.length : Nat) : Int) = 0 := by omega
      obtain ⟨j1, j2⟩ := neI hci
      have HC := Lib.hid hc
      have HV : Hid (noCoreB c = false) := by show _ = _; rw [HEV.out, decide_eq_false HC.out]; simp
      go_wp2_with fail
      rw [← HPP.out]
      exact ⟨by rw [HV.out] <;> rfl, HB0.out⟩
    ·obtain ⟨i1, i2⟩ := neI hn
     have HN := Lib.hid hn
     have HV : Hid (noCoreB c = false) := by show _ = _; rw [HEV.out, decide_eq_false HN.out]; simp
     go_wp2_with fail
     rw [← HPP.out]
     exact ⟨by rw [HV.out] <;> rfl, HB0.out⟩
 ·obtain ⟨n1, n2, n3, n4⟩ := noname_ne hw
  have HW := Lib.hid hw
  clear hw
  have HV : Hid (noCoreB c = false) := by show _ = _; rw [HEV.out, decide_eq_false HW.out]; rfl
  go_wp2_with fail
  rw [← HPP.out]
  exact ⟨by rw [HV.out] <;> rfl, HB0.out⟩
theorem rfitwrap_any (x : WrapT) (W : World) (k : Nat) {cs : List Value} (hS : SmW x) (hR : WrapP All W k cs x) :
  Calls Tryz.prog 90 #[.agg cs.toArray] W (PatPost W (.bool (wrapB x))) := by
 obtain ⟨PP, hPP⟩ : ∃ PP, PatPost W (.bool (wrapB x)) = PP := ⟨_, rfl⟩
 rw [hPP]
 have HPP := Lib.hid hPP
 obtain ⟨v1, u1, w0, w1, w2, rfl, hnums, hcaps, hwant⟩ := hR
 obtain ⟨k1, q1, m1, -, ew⟩ := hwant.form
 injection ew with ew0 ew
 injection ew with ew1 ew
 injection ew with ew2
 subst ew0; subst ew1; subst ew2
 obtain ⟨nq, nc, rfl, -⟩ := NumsP.shape hnums
 obtain ⟨uq, uc, rfl, -⟩ := UsP.shape hcaps
 obtain ⟨WA, hWA⟩ : ∃ WA, W.alloc (.cells #[.bool x.opn, .string x.word, .string x.sub, .slice nq x.nums.length nc, .slice uq x.caps.length uc, .bool x.when_, .int .i64 x.want.op, .int .i64 x.want.num, .slice q1 x.want.l.length m1, .int .i64 x.pos] 90) = WA := ⟨_, rfl⟩
 obtain ⟨X, hX⟩ : ∃ X, W.heap.size = X := ⟨_, rfl⟩
 have HBA : Hid (Below W.heap.size W WA) := by rw [← hWA]; exact (Below.refl _ W).alloc (Nat.le_refl _) _
 have hza := aRow_ hWA hX
 have hsa : WA.heap.size = X + 1 := by rw [← hWA, ← hX]; simp
 have lxa : X < WA.heap.size := by omega
 obtain ⟨z0, z1, z2, z3, z4, z5, z6, z7, z8, z9⟩ := row10_ hza
 have HZA := Lib.hid hza
 have HX := Lib.hid hX
 have HWA := Lib.hid hWA
 clear hza hX hWA hsa
 have HX0 := HZA
 have HB0 := HBA
 have HCA := Lib.hid hcaps
 have HWN := Lib.hid hwant
 have hev : wrapB x = (nameB x.word && ((decide (x.sub.size = 0) || nameB x.sub) && (decide (x.nums.length ≤ 2) && (namesB x.caps && whenB x.when_ x.want)))) := rfl
 have HEV := Lib.hid hev
 clear hPP hcaps hwant hnums hev z0 z1 z2 z3 z4 z5 z6 z7 z8 z9 lxa
 obtain ⟨cX0, cX1, cX2, cX3, cX4, cX5, cX6, cX7, cX8, cX9⟩ := row10_ HX0.out
 have ltX : X < WA.heap.size := (Array.getElem?_eq_some_iff.1 HX0.out).1
 go_enter Tryz.func90, Tryz.ntmps90
 go_upto_region 1 with fail
 rw [HX.out, HWA.out]
 have C1 := Lib.hid (rname_any x.word WA hS.1)
 go_wp2_with (go_at_call 43; refine C1.out.mono ?_)
 clear cX0 cX1 cX2 cX3 cX4 cX5 cX6 cX7 cX8 cX9 ltX
 rintro e1 w1 ⟨rfl, hb1⟩
 have HB1 := Lib.hid (HB0.out.trans (hb1.mono HB0.out.size))
 have hX1 := (hb1.block X (Array.getElem?_eq_some_iff.1 HX0.out).1).trans HX0.out
 obtain ⟨cX0, cX1, cX2, cX3, cX4, cX5, cX6, cX7, cX8, cX9⟩ := row10_ hX1
 have ltX : X < w1.heap.size := (Array.getElem?_eq_some_iff.1 hX1).1
 have HX1 := Lib.hid hX1
 clear hX1
 clear hb1 C1
 cases hq1 : nameB x.word with
 | false =>
  have HQ1 := Lib.hid hq1
  clear hq1
  have HV : Hid (wrapB x = false) := by show _ = _; rw [HEV.out, HQ1.out]; rfl
  go_wp2_with fail
  rw [← HPP.out]
  exact ⟨by rw [HV.out] <;> rfl, HB1.out⟩
 | true =>
  have HQ1 := Lib.hid hq1
  clear hq1
  by_cases hs0 : x.sub.size = 0
  ·have hse := noname hs0
   have HSB : Hid ((decide (x.sub.size = 0) || nameB x.sub) = true) := by show _ = _; rw [decide_eq_true hs0]; rfl
   rw [hse] at cX2
   clear hs0 hse
   by_cases hn2 : x.nums.length ≤ 2
   ·have hni : ((x.nums.length : Nat) : Int) ≤ 2 := by omega
    have HQN : Hid (decide (x.nums.length ≤ 2) = true) := decide_eq_true hn2
    clear hn2
    have C3 := Lib.hid (ruses_any (FlP.kept HCA.out (All.kept HB1.out)) hS.2.2)
    go_wp2_with (go_at_call 87; refine C3.out.mono ?_)
    clear cX0 cX1 cX2 cX3 cX4 cX5 cX6 cX7 cX8 cX9 ltX
    rintro e3 w3 ⟨rfl, hb3⟩
    have HB3 := Lib.hid (HB1.out.trans (hb3.mono HB1.out.size))
    have hX3 := (hb3.block X (Array.getElem?_eq_some_iff.1 HX1.out).1).trans HX1.out
    obtain ⟨cX0, cX1, cX2, cX3, cX4, cX5, cX6, cX7, cX8, cX9⟩ := row10_ hX3
    have ltX : X < w3.heap.size := (Array.getElem?_eq_some_iff.1 hX3).1
    have HX3 := Lib.hid hX3
    clear hX3
    clear hb3 C3
    cases hq3 : namesB x.caps with
    | false =>
     have HQ3 := Lib.hid hq3
     clear hq3
     have HV : Hid (wrapB x = false) := by show _ = _; rw [HEV.out, HQ1.out, HSB.out, HQN.out, HQ3.out]; rfl
     go_wp2_with fail
     rw [← HPP.out]
     exact ⟨by rw [HV.out] <;> rfl, HB3.out⟩
    | true =>
     have HQ3 := Lib.hid hq3
     clear hq3
     have C4 := Lib.hid (rpattern_any w3 x.when_ _ x.want _ _ _ _ _ (HWN.out.kept (All.kept HB3.out)))
     have HV : Hid (wrapB x = whenB x.when_ x.want) := by show _ = _; rw [HEV.out, HQ1.out, HSB.out, HQN.out, HQ3.out]; rfl
     go_wp2_with (go_at_call 44; refine C4.out.mono ?_; rintro e4 w4 ⟨rfl, hb4⟩)
     rw [← HPP.out]
     exact ⟨by rw [HV.out] <;> rfl, HB3.out.trans (hb4.mono HB3.out.size)⟩
   ·have hni : ¬ ((x.nums.length : Nat) : Int) ≤ 2 := by omega
    have HQN : Hid (decide (x.nums.length ≤ 2) = false) := decide_eq_false hn2
    clear hn2
    have HV : Hid (wrapB x = false) := by show _ = _; rw [HEV.out, HQ1.out, HSB.out, HQN.out]; rfl
    go_wp2_with fail
    rw [← HPP.out]
    exact ⟨by rw [HV.out] <;> rfl, HB1.out⟩
  ·obtain ⟨n1, n2, n3, n4⟩ := noname_ne hs0
   have HN0 := Lib.hid hs0
   clear hs0
   have C2 := Lib.hid (rname_any x.sub w1 hS.2.1)
   go_wp2_with (go_at_call 43; refine C2.out.mono ?_)
   clear cX0 cX1 cX2 cX3 cX4 cX5 cX6 cX7 cX8 cX9 ltX
   rintro e2 w2 ⟨rfl, hb2⟩
   have HB2 := Lib.hid (HB1.out.trans (hb2.mono HB1.out.size))
   have hX2 := (hb2.block X (Array.getElem?_eq_some_iff.1 HX1.out).1).trans HX1.out
   obtain ⟨cX0, cX1, cX2, cX3, cX4, cX5, cX6, cX7, cX8, cX9⟩ := row10_ hX2
   have ltX : X < w2.heap.size := (Array.getElem?_eq_some_iff.1 hX2).1
   have HX2 := Lib.hid hX2
   clear hX2
   clear hb2 C2
   cases hq2 : nameB x.sub with
   | false =>
    have HQ2 := Lib.hid hq2
    clear hq2
    have HV : Hid (wrapB x = false) := by show _ = _; rw [HEV.out, HQ1.out, HQ2.out, decide_eq_false HN0.out]; rfl
    go_wp2_with fail
    rw [← HPP.out]
    exact ⟨by rw [HV.out] <;> rfl, HB2.out⟩
   | true =>
    have HQ2 := Lib.hid hq2
    clear hq2
    have HSB : Hid ((decide (x.sub.size = 0) || nameB x.sub) = true) := by show _ = _; rw [HQ2.out, Bool.or_true]
    by_cases hn2 : x.nums.length ≤ 2
    ·have hni : ((x.nums.length : Nat) : Int) ≤ 2 := by omega
     have HQN : Hid (decide (x.nums.length ≤ 2) = true) := decide_eq_true hn2
     clear hn2
     have C3 := Lib.hid (ruses_any (FlP.kept HCA.out (All.kept HB2.out)) hS.2.2)
     go_wp2_with (go_at_call 87; refine C3.out.mono ?_)
     clear cX0 cX1 cX2 cX3 cX4 cX5 cX6 cX7 cX8 cX9 ltX
     rintro e3 w3 ⟨rfl, hb3⟩
     have HB3 := Lib.hid (HB2.out.trans (hb3.mono HB2.out.size))
     have hX3 := (hb3.block X (Array.getElem?_eq_some_iff.1 HX2.out).1).trans HX2.out
     obtain ⟨cX0, cX1, cX2, cX3, cX4, cX5, cX6, cX7, cX8, cX9⟩ := row10_ hX3
     have ltX : X < w3.heap.size := (Array.getElem?_eq_some_iff.1 hX3).1
     have HX3 := Lib.hid hX3
     clear hX3
     clear hb3 C3
     cases hq3 : namesB x.caps with
     | false =>
      have HQ3 := Lib.hid hq3
      clear hq3
      have HV : Hid (wrapB x = false) := by show _ = _; rw [HEV.out, HQ1.out, HSB.out, HQN.out, HQ3.out]; rfl
      go_wp2_with fail
      rw [← HPP.out]
      exact ⟨by rw [HV.out] <;> rfl, HB3.out⟩
     | true =>
      have HQ3 := Lib.hid hq3
      clear hq3
      have C4 := Lib.hid (rpattern_any w3 x.when_ _ x.want _ _ _ _ _ (HWN.out.kept (All.kept HB3.out)))
      have HV : Hid (wrapB x = whenB x.when_ x.want) := by show _ = _; rw [HEV.out, HQ1.out, HSB.out, HQN.out, HQ3.out]; rfl
      go_wp2_with (go_at_call 44; refine C4.out.mono ?_; rintro e4 w4 ⟨rfl, hb4⟩)
      rw [← HPP.out]
      exact ⟨by rw [HV.out] <;> rfl, HB3.out.trans (hb4.mono HB3.out.size)⟩
    ·have hni : ¬ ((x.nums.length : Nat) : Int) ≤ 2 := by omega
     have HQN : Hid (decide (x.nums.length ≤ 2) = false) := decide_eq_false hn2
     clear hn2
     have HV : Hid (wrapB x = false) := by show _ = _; rw [HEV.out, HQ1.out, HSB.out, HQN.out]; rfl
     go_wp2_with fail
     rw [← HPP.out]
     exact ⟨by rw [HV.out] <;> rfl, HB2.out⟩
end Go.Proofs.YtbdllefnghddcaaGreatDoor
