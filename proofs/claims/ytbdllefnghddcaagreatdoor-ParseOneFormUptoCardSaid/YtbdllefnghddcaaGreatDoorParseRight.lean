/- PARSE: paired, right: which patterns may be written (the program's). -/
import Derived.BigQuiet
import Derived.Deep.DeepCutAuto
import Derived.Deep.CutBlock
import Derived.Test.YtbdllefnghddcaaGreatDoorPCore
import Derived.Test.YtbdllefnghddcaaGreatDoorPFitP
import Derived.Test.YtbdllefnghddcaaGreatDoorPMem
namespace Go.Proofs.YtbdllefnghddcaaGreatDoor
set_option maxHeartbeats 8000000
set_option maxRecDepth 100000
open Go Go.RowKit
attribute [local go_sem ↓] Go.wp_at_zero Go.wp_at_succ

theorem neI {a b : Int} (h : ¬ a = b) : (a == b) = false ∧ (a != b) = true := by simp [h]
theorem eqI {a b : Int} (h : a = b) : (a == b) = true ∧ (a != b) = false := by simp [h]
theorem WtP.top {P : Nat → Prop} {w : World} {k : Nat} {op num op' num' : Int} {q : Option Addr} {n cap : Nat} {l : List Wt} (h : WtP P w (k + 1) [.int .i64 op, .int .i64 num, .slice q n cap] (.mk op' num' l)) : op = op' ∧ num = num' ∧ l.length = n := by
 obtain ⟨p, c, e, -⟩ := h
 simp only [List.cons.injEq, Value.int.injEq, Value.slice.injEq, true_and, and_true] at e
 exact ⟨e.1, e.2.1, e.2.2.2.1.symm⟩
theorem WtP.len {P : Nat → Prop} {w : World} {k : Nat} {cs : List Value} {op num : Int} {l : List Wt} (h : WtP P w (k + 1) cs (.mk op num l)) : l.length ≤ 9223372036854775807 := by
 obtain ⟨p, c, -, h1, h2, -⟩ := h
 omega
def Off (b : Nat) : Nat → Prop := fun c => c ≠ b

theorem paired_any (o i : Int) (a b c d : Value) (W : World) :
  Calls Tryz.prog 144 #[.agg #[.int .i64 o, a, b], .agg #[.int .i64 i, c, d]] W fun e w' => e = .returned (.bool (parW o i)) ∧ Below W.heap.size W w' := by
 obtain ⟨PP, hPP⟩ : ∃ PP : Ending → World → Prop, (fun e w' => e = .returned (.bool (parW o i)) ∧ Below W.heap.size W w') = PP := ⟨_, rfl⟩
 rw [hPP]
 have HPP := Lib.hid hPP
 have HB : Hid (Below W.heap.size W ((W.alloc (.cells #[.int .i64 o, a, b] 41)).alloc (.cells #[.int .i64 i, c, d] 41))) := ((Below.refl _ _).alloc (Nat.le_refl _) _).alloc (by simp) _
 clear hPP
 by_cases i4 : i = 4
 ·subst i4
  by_cases o4 : o = 4
  ·subst o4
   go_enter Tryz.func144, Tryz.ntmps144
   go_wp2_with fail
   rw [← HPP.out]
   exact ⟨by rfl, HB.out⟩
  ·obtain ⟨eo4, no4⟩ := neI o4
   by_cases o5 : o = 5
   ·subst o5
    go_enter Tryz.func144, Tryz.ntmps144
    go_wp2_with fail
    rw [← HPP.out]
    exact ⟨by rfl, HB.out⟩
   ·obtain ⟨eo5, no5⟩ := neI o5
    by_cases o6 : o = 6
    ·subst o6
     go_enter Tryz.func144, Tryz.ntmps144
     go_wp2_with fail
     rw [← HPP.out]
     exact ⟨by rfl, HB.out⟩
    ·obtain ⟨eo6, no6⟩ := neI o6
     go_enter Tryz.func144, Tryz.ntmps144
     go_wp2_with fail
     rw [← HPP.out]
     exact ⟨by simp [parW, *], HB.out⟩
 ·obtain ⟨ei4, ni4⟩ := neI i4
  by_cases i5 : i = 5
  ·subst i5
   by_cases o4 : o = 4
   ·subst o4
    go_enter Tryz.func144, Tryz.ntmps144
    go_wp2_with fail
    rw [← HPP.out]
    exact ⟨by rfl, HB.out⟩
   ·obtain ⟨eo4, no4⟩ := neI o4
    by_cases o5 : o = 5
    ·subst o5
     go_enter Tryz.func144, Tryz.ntmps144
     go_wp2_with fail
     rw [← HPP.out]
     exact ⟨by rfl, HB.out⟩
    ·obtain ⟨eo5, no5⟩ := neI o5
     by_cases o6 : o = 6
     ·subst o6
      go_enter Tryz.func144, Tryz.ntmps144
      go_wp2_with fail
      rw [← HPP.out]
      exact ⟨by rfl, HB.out⟩
     ·obtain ⟨eo6, no6⟩ := neI o6
      go_enter Tryz.func144, Tryz.ntmps144
      go_wp2_with fail
      rw [← HPP.out]
      exact ⟨by simp [parW, *], HB.out⟩
  ·obtain ⟨ei5, ni5⟩ := neI i5
   by_cases o4 : o = 4
   ·subst o4
    go_enter Tryz.func144, Tryz.ntmps144
    go_wp2_with fail
    rw [← HPP.out]
    exact ⟨by simp [parW, *], HB.out⟩
   ·obtain ⟨eo4, no4⟩ := neI o4
    by_cases o5 : o = 5
    ·subst o5
     go_enter Tryz.func144, Tryz.ntmps144
     go_wp2_with fail
     rw [← HPP.out]
     exact ⟨by simp [parW, *], HB.out⟩
    ·obtain ⟨eo5, no5⟩ := neI o5
     by_cases o6 : o = 6
     ·subst o6
      go_enter Tryz.func144, Tryz.ntmps144
      go_wp2_with fail
      rw [← HPP.out]
      exact ⟨by simp [parW, *], HB.out⟩
     ·obtain ⟨eo6, no6⟩ := neI o6
      go_enter Tryz.func144, Tryz.ntmps144
      go_wp2_with fail
      rw [← HPP.out]
      exact ⟨by simp [parW, *], HB.out⟩
def RtPost (W : World) (L : Nat) (T : TypeId) (t : Wt) (deep p : Nat) (e : Ending) (w' : World) : Prop :=
 e = .returned (.bool (patW t deep && decide (p + cntW t ≤ 16384))) ∧ (patW t deep = true → p + cntW t ≤ 16384 → w'.heap[L]? = some (.cells #[.int .i64 ((p + cntW t : Nat) : Int)] T (0, 0))) ∧ W.grownBy w' (some L)

theorem rt_false {W w' : World} {L : Nat} {T : TypeId} {t : Wt} {deep p : Nat} (h : (patW t deep && decide (p + cntW t ≤ 16384)) = false) (g : W.grownBy w' (some L)) : RtPost W L T t deep p (.returned (.bool false)) w' := by
 refine ⟨by rw [h], fun h1 h2 => ?_, g⟩
 rw [h1, decide_eq_true h2] at h
 cases h
theorem rt_true {W w' : World} {L : Nat} {T : TypeId} {t : Wt} {deep p : Nat} (h1 : patW t deep = true) (h2 : p + cntW t ≤ 16384) (hc : w'.heap[L]? = some (.cells #[.int .i64 ((p + cntW t : Nat) : Int)] T (0, 0))) (g : W.grownBy w' (some L)) : RtPost W L T t deep p (.returned (.bool true)) w' :=
 ⟨by rw [h1, decide_eq_true h2]; rfl, fun _ _ => hc, g⟩
theorem nopat {t : Wt} {deep p : Nat} (h : patW t deep = false) : (patW t deep && decide (p + cntW t ≤ 16384)) = false := by rw [h]; rfl
theorem rt_no {op : Int} {l : List Wt} {x : Wt} {deep D p j : Nat} (hw : patW (.mk op 0 l) deep = true → patL op l D = true) (hx : l[j]? = some x)
  (h : (patW x (D + if parW op x.op = true then 1 else 0) && decide (p + 1 + cntL (l.take j) + cntW x ≤ 16384)) = false) : (patW (.mk op 0 l) deep && decide (p + cntW (.mk op 0 l) ≤ 16384)) = false := by
 rw [Bool.and_eq_false_iff] at h ⊢
 rcases h with h | h
 ·left
  have h2 := patL_not hx h
  cases hc : patW (.mk op 0 l) deep with
  | false => rfl
  | true => rw [hw hc] at h2; cases h2
 ·right
  rw [decide_eq_false_iff_not] at h ⊢
  have h2 := cntL_take_le l (j + 1)
  rw [cntL_step hx] at h2
  rw [cntW]
  omega
theorem right_any (L : Nat) (T : TypeId) : ∀ (k : Nat) (t : Wt) (W : World) (op num : Int) (q : Option Addr) (n cap deep p : Nat), WtP (Off L) W k [.int .i64 op, .int .i64 num, .slice q n cap] t → W.heap[L]? = some (.cells #[.int .i64 (p : Nat)] T (0, 0)) → p ≤ 16384 → deep ≤ 34 →
  Calls Tryz.prog 104 #[.pointer (some ⟨L, 0, none⟩), .agg #[.int .i64 op, .int .i64 num, .slice q n cap], .int .i64 (deep : Nat)] W (RtPost W L T t deep p) := by
 intro k
 induction k with
 | zero => intro t W op num q n cap deep p h; exact h.elim
 | succ k ih =>
  intro t W op num q n cap deep p hD hx hp hd
  have IH := Lib.hid ih
  clear ih
  obtain ⟨op', num', l⟩ := t
  obtain ⟨rfl, rfl, hn0⟩ := hD.top
  have HN : Hid (l.length = n) := hn0
  have hn9 : n ≤ 9223372036854775807 := by have := hD.len; omega
  have hpos := cntW_pos (.mk op num l)
  obtain ⟨PP, hPP⟩ : ∃ PP, RtPost W L T (.mk op num l) deep p = PP := ⟨_, rfl⟩
  rw [hPP]
  have HPP := Lib.hid hPP
  have hLl := (Array.getElem?_eq_some_iff.1 hx).1
  obtain ⟨X, hX⟩ : ∃ X, W.heap.size = X := ⟨_, rfl⟩
  have c0 : W.cell? ⟨L, 0, none⟩ = some (.int .i64 (p : Nat)) := by rw [cell_of_row _ _ _ _ _ _ hx]; rfl
  have f0 := frozen_of_row W L 0 _ _ hx
  have HD := Lib.hid hD
  have HX0 := Lib.hid hx
  -- the worlds that are passed
  obtain ⟨WA, hWA⟩ : ∃ WA, W.alloc (.cells #[.int .i64 op, .int .i64 num, .slice q n cap] 41) = WA := ⟨_, rfl⟩
  obtain ⟨WB, hWB⟩ : ∃ WB, WA.setCell ⟨L, 0, none⟩ (.int .i64 ((p : Int) + 1)) = WB := ⟨_, rfl⟩
  have hxa : WA.heap[L]? = some (.cells #[.int .i64 (p : Nat)] T (0, 0)) := by rw [← hWA]; exact (Below.heap_alloc _ _ _ hLl).trans hx
  have hza := aRow_ hWA hX
  have hxb : WB.heap[L]? = some (.cells #[.int .i64 ((p : Int) + 1)] T (0, 0)) := by rw [← hWB]; exact heap_setCell_same _ L 0 _ _ _ hxa
  have hzb : WB.heap[X]? = some (.cells #[.int .i64 op, .int .i64 num, .slice q n cap] 41 (0, 0)) := by rw [← hWB, heap_setCell_other _ ⟨L, 0, none⟩ X _ (by show X ≠ L; omega)]; exact hza
  have hgb : W.grownBy WB (some L) := by
   rw [← hWB, ← hWA]
   exact g_set (g_of ((Below.refl _ W).alloc (Nat.le_refl _) _)) _
  have ca : WA.cell? ⟨L, 0, none⟩ = some (.int .i64 (p : Nat)) := by rw [cell_of_row _ _ _ _ _ _ hxa]; rfl
  have fa := frozen_of_row WA L 0 _ _ hxa
  have cb : WB.cell? ⟨L, 0, none⟩ = some (.int .i64 ((p : Int) + 1)) := by rw [cell_of_row _ _ _ _ _ _ hxb]; rfl
  obtain ⟨z0, z1, z2⟩ := row3_ hzb
  have sa : WA.heap.size = X + 1 := by rw [← hWA, World.size_alloc, hX]
  have sb : WB.heap.size = X + 1 := by rw [← hWB]; simpa using sa
  have lb : L < WB.heap.size := by omega
  have la : L < WA.heap.size := by omega
  have xb : X < WB.heap.size := by omega
  have lLX : L < X := by omega
  have HX := Lib.hid hX
  have HWA := Lib.hid hWA
  have HWB := Lib.hid hWB
  have HXB := Lib.hid hxb
  have HZB := Lib.hid hzb
  have HGB := Lib.hid hgb
  clear hPP hD hX hx hWA hWB hxa hza hxb hzb hgb hn0
  go_enter Tryz.func104, Tryz.ntmps104
  go_upto_region 1 with fail
  rw [HX.out, HWA.out]
  go_upto_region 2 with fail
  rw [HWB.out]
  by_cases hp1 : 16384 ≤ p
  ·have q1 : (16384 : Int) < (p : Int) + 1 := by omega
   go_wp2_with fail
   rw [← HPP.out]
   exact rt_false (by rw [Bool.and_eq_false_iff]; right; exact decide_eq_false (by omega)) HGB.out
  have q1 : ¬ (16384 : Int) < (p : Int) + 1 := by omega
  by_cases hd1 : 32 < deep
  ·have q2 : (32 : Int) < (deep : Int) := by omega
   go_wp2_with fail
   rw [← HPP.out]
   exact rt_false (nopat (by rw [patW, decide_eq_false (by omega)]; rfl)) HGB.out
  have q2 : ¬ (32 : Int) < (deep : Int) := by omega
  have HD1 : Hid (decide (deep ≤ 32) = true) := decide_eq_true (show deep ≤ 32 by omega)

  by_cases o1 : op = 1
  ·subst o1
   by_cases hm : num = 0
   ·subst hm
    by_cases hn : n = 0
    ·subst hn
     have hl : l = [] := List.eq_nil_of_length_eq_zero HN.out
     go_wp2_with fail
     rw [← HPP.out]
     refine rt_true (by rw [patW, HD1.out]; simp [hl]) (by rw [cntW, hl, cntL]; omega) ?_ HGB.out
     rw [cntW, hl, cntL]
     exact HXB.out
    ·have hl : ¬ l = [] := fun e => hn (by rw [← HN.out, e]; rfl)
     have q3 : ((n : Nat) : Int) ≠ 0 := by omega
     obtain ⟨q4, q5⟩ := neI q3
     go_wp2_with fail
     rw [← HPP.out]
     exact rt_false (nopat (by rw [patW, HD1.out]; simp [hl])) HGB.out
   ·obtain ⟨q6, q7⟩ := neI hm
    go_wp2_with fail
    rw [← HPP.out]
    exact rt_false (nopat (by rw [patW, HD1.out]; simp [hm])) HGB.out
  obtain ⟨eo1, no1⟩ := neI o1
  by_cases o2 : op = 2
  ·subst o2
   by_cases hm0 : 0 ≤ num
   ·by_cases hm1 : num < 14
    ·skip
     by_cases hn : n = 0
     ·subst hn
      have hl : l = [] := List.eq_nil_of_length_eq_zero HN.out
      go_wp2_with fail
      rw [← HPP.out]
      refine rt_true (by rw [patW, HD1.out]; simp [hm0, hm1, hl]) (by rw [cntW, hl, cntL]; omega) ?_ HGB.out
      rw [cntW, hl, cntL]
      exact HXB.out
     ·have hl : ¬ l = [] := fun e => hn (by rw [← HN.out, e]; rfl)
      have q3 : ((n : Nat) : Int) ≠ 0 := by omega
      obtain ⟨q4, q5⟩ := neI q3
      go_wp2_with fail
      rw [← HPP.out]
      exact rt_false (nopat (by rw [patW, HD1.out]; simp [hm0, hm1, hl])) HGB.out
    ·skip
     go_wp2_with fail
     rw [← HPP.out]
     exact rt_false (nopat (by rw [patW, HD1.out]; simp; exact fun _ _ => by exfalso; omega)) HGB.out
   ·skip
    go_wp2_with fail
    rw [← HPP.out]
    exact rt_false (nopat (by rw [patW, HD1.out]; simp; exact fun _ _ => by exfalso; omega)) HGB.out
  obtain ⟨eo2, no2⟩ := neI o2
  by_cases o3 : op = 3
  ·subst o3
   by_cases hm0 : 0 ≤ num
   ·by_cases hm1 : num < 10
    ·skip
     by_cases hn : n = 0
     ·subst hn
      have hl : l = [] := List.eq_nil_of_length_eq_zero HN.out
      go_wp2_with fail
      rw [← HPP.out]
      refine rt_true (by rw [patW, HD1.out]; simp [hm0, hm1, hl]) (by rw [cntW, hl, cntL]; omega) ?_ HGB.out
      rw [cntW, hl, cntL]
      exact HXB.out
     ·have hl : ¬ l = [] := fun e => hn (by rw [← HN.out, e]; rfl)
      have q3 : ((n : Nat) : Int) ≠ 0 := by omega
      obtain ⟨q4, q5⟩ := neI q3
      go_wp2_with fail
      rw [← HPP.out]
      exact rt_false (nopat (by rw [patW, HD1.out]; simp [hm0, hm1, hl])) HGB.out
    ·skip
     go_wp2_with fail
     rw [← HPP.out]
     exact rt_false (nopat (by rw [patW, HD1.out]; simp; exact fun _ _ => by exfalso; omega)) HGB.out
   ·skip
    go_wp2_with fail
    rw [← HPP.out]
    exact rt_false (nopat (by rw [patW, HD1.out]; simp; exact fun _ _ => by exfalso; omega)) HGB.out
  obtain ⟨eo3, no3⟩ := neI o3
  by_cases o6 : op = 6
  ·subst o6
   by_cases hm : num = 0
   ·subst hm
    by_cases hn : n = 1
    ·subst hn
     have hl : l.length = 1 := HN.out
     have HW1 : Hid (patW (.mk 6 0 l) deep = true → patL 6 l (deep + 1) = true) := fun h => by simp [patW] at h; exact h.2.2
     have HW2 : Hid (patL 6 l (deep + 1) = true → patW (.mk 6 0 l) deep = true) := fun h => by rw [patW, HD1.out]; simp [hl, h]
     go_wp2_with fail
     go_loopw [9, 10, 93] (fun s9 s10 s93 wr => ∃ j : Nat, s93 = .int .i64 (j : Nat) ∧ j ≤ 1 ∧ Hid (patL 6 (l.take j) (deep + 1) = true) ∧ Hid (p + 1 + cntL (l.take j) ≤ 16384) ∧ Hid (wr.heap[L]? = some (.cells #[.int .i64 ((p + 1 + cntL (l.take j) : Nat) : Int)] T (0, 0))) ∧ Hid (wr.heap[X]? = some (.cells #[.int .i64 6, .int .i64 0, .slice q 1 cap] 41 (0, 0))) ∧ Hid (W.grownBy wr (some L))) (fun _ _ i _ => 1 - (intOf i).toNat)
     case atStart => exact ⟨0, rfl, Nat.zero_le _, by show patL 6 (l.take 0) _ = true; rw [List.take_zero, patL], by show p + 1 + cntL (l.take 0) ≤ 16384; rw [List.take_zero, cntL]; omega, by show _ = _; rw [List.take_zero, cntL]; exact HXB.out, HZB.out, HGB.out⟩
     case round =>
      obtain ⟨j, rfl, hj, HPL, HCN, HXR, HZR, HGR⟩ := hrel
      obtain ⟨r0, r1, r2⟩ := row3_ HZR.out
      have lr : L < wr.heap.size := (Array.getElem?_eq_some_iff.1 HXR.out).1
      have xr : X < wr.heap.size := (Array.getElem?_eq_some_iff.1 HZR.out).1
      by_cases hlt : j < 1
      ·obtain ⟨x, hx⟩ : ∃ x, l[j]? = some x := ⟨_, List.getElem?_eq_getElem (by rw [HN.out]; exact hlt)⟩
       obtain ⟨b, o, qq, _, c, hPb, rfl, hbl, d0, d1, d2, rfl, hPt⟩ := HD.out.part hx
       have hbr := HGR.out.block b hbl (fun e => hPb (Option.some.inj e))
       have y0 := cell_block hbr d0
       have y1 := cell_block hbr d1
       have y2 := cell_block hbr d2
       have hPr := hPt.kept (w' := wr) (Q := Off L) (fun b hb hl => ⟨HGR.out.block b hl (fun e => hb (Option.some.inj e)), hb⟩)
       have HPT := Lib.hid hPr
       have HXJ := Lib.hid hx
       have g0 : (j : Int) < (1 : Int) := by omega
       have g00 : (0 : Int) ≤ (j : Int) := by omega
       have CP := Lib.hid (fun (W : World) => paired_any 6 x.op (.int .i64 0) (.slice (some ⟨b, o, none⟩) 1 cap) (.int .i64 x.num) (.slice qq x.l.length c) W)
       obtain ⟨R, hR⟩ : ∃ R, wr.heap.size = R := ⟨_, rfl⟩
       obtain ⟨WX, hWX⟩ : ∃ WX, wr.alloc (.cells #[.int .i64 x.op, .int .i64 x.num, .slice qq x.l.length c] 41) = WX := ⟨_, rfl⟩
       have hrx := aRow_ hWX hR
       have hbx : Below wr.heap.size wr WX := by rw [← hWX]; exact (Below.refl _ wr).alloc (Nat.le_refl _) _
       have hsx : WX.heap.size = R + 1 := by rw [← hWX, ← hR]; simp
       have hzx : WX.heap[X]? = some (.cells #[.int .i64 6, .int .i64 0, .slice (some ⟨b, o, none⟩) 1 cap] 41 (0, 0)) := (hbx.block X xr).trans HZR.out
       have lLR : L < R := by omega
       have lXR : X < R := by omega
       obtain ⟨xx0, xx1, xx2⟩ := row3_ hzx
       obtain ⟨xr0, xr1, xr2⟩ := row3_ hrx
       have lx1 : X < WX.heap.size := by omega
       have lx2 : R < WX.heap.size := by omega
       have HR := Lib.hid hR
       have HWX := Lib.hid hWX
       have HRX := Lib.hid hrx
       have HBX := Lib.hid hbx
       clear hPb hbr hPt hPr hx d0 d1 d2 hbl hR hWX hrx hbx hzx
       go_upto_region 25 with fail
       rw [HR.out, HWX.out]
       go_wp2_with (go_at_call 144; refine (CP.out _).mono ?_)
       rintro e1 w1 ⟨rfl, hb1⟩
       have hr1 : w1.heap[R]? = some (.cells #[.int .i64 x.op, .int .i64 x.num, .slice qq x.l.length c] 41 (0, 0)) := (hb1.block R lx2).trans HRX.out
       have hs1 := hb1.size
       obtain ⟨xw0, xw1, xw2⟩ := row3_ hr1
       have HB1 : Hid (Below wr.heap.size wr w1) := HBX.out.trans (hb1.mono (by have := HBX.out.size; omega))
       have lw1 : R < w1.heap.size := by omega
       have HP1 := Lib.hid (HPT.out.kept (w' := w1) (Q := Off L) (fun b hb hl => ⟨HB1.out.block b hl, hb⟩))
       have HX1 : Hid (w1.heap[L]? = some (.cells #[.int .i64 ((p + 1 + cntL (l.take j) : Nat) : Int)] T (0, 0))) := (HB1.out.block L lr).trans HXR.out
       have HG1 : Hid (W.grownBy w1 (some L)) := g_below HGR.out HB1.out
       have hX1 : w1.heap[X]? = some (.cells #[.int .i64 6, .int .i64 0, .slice (some ⟨b, o, none⟩) 1 cap] 41 (0, 0)) := (HB1.out.block X xr).trans HZR.out
       have HZ1 := Lib.hid hX1
       have xl1 : X < w1.heap.size := by omega
       clear hb1 hr1 hX1
       by_cases hpar : parW 6 x.op = true
       ·rw [hpar]
        have HDD : Hid ((deep + 1 + if parW 6 x.op = true then 1 else 0) = deep + 1 + 1) := by show _ = _; rw [hpar]; rfl
        have C2 : Hid (Calls Tryz.prog 104 #[.pointer (some ⟨L, 0, none⟩), .agg #[.int .i64 x.op, .int .i64 x.num, .slice qq x.l.length c], .int .i64 ((deep : Int) + 1 + 1)] w1 (RtPost w1 L T x (deep + 1 + 1) (p + 1 + cntL (l.take j)))) := IH.out x w1 x.op x.num qq x.l.length c (deep + 1 + 1) (p + 1 + cntL (l.take j)) HP1.out HX1.out HCN.out (by omega)
        clear hpar
        go_wp2_with (go_at_call 104; refine C2.out.mono ?_)
        rintro e2 w2 ⟨rfl, hc2, hg2⟩
        have HGG := Lib.hid (g_trans HG1.out hg2)
        have HC2 := Lib.hid hc2
        have HZ2 : Hid (w2.heap[X]? = some (.cells #[.int .i64 6, .int .i64 0, .slice (some ⟨b, o, none⟩) 1 cap] 41 (0, 0))) := (hg2.block X xl1 (fun e => absurd (Option.some.inj e) (by omega))).trans HZ1.out
        clear hc2 hg2
        by_cases hq : (patW x (deep + 1 + 1) && decide (p + 1 + cntL (l.take j) + cntW x ≤ 16384)) = true
        ·rw [hq]
         rw [Bool.and_eq_true, decide_eq_true_eq] at hq
         have HQ := Lib.hid hq
         clear hq
         go_wp2_with fail
         go_roundw
         case rel => exact ⟨j + 1, by go_num, by omega, patL_step HXJ.out HPL.out (by rw [HDD.out]; exact HQ.out.1), by show p + 1 + cntL (l.take (j + 1)) ≤ 16384; rw [cntL_step HXJ.out]; have := HQ.out.2; omega, by show _ = _; rw [cntL_step HXJ.out, ← Nat.add_assoc]; exact HC2.out HQ.out.1 HQ.out.2, HZ2.out, HGG.out⟩
         case measure => simp [intOf]; omega
        ·rw [Bool.not_eq_true] at hq
         rw [hq]
         have HQ := Lib.hid hq
         clear hq
         go_wp2_with fail
         rw [← HPP.out]
         exact rt_false (rt_no HW1.out HXJ.out (by rw [HDD.out]; exact HQ.out)) HGG.out
       ·obtain hpf : parW 6 x.op = false := by simpa using hpar
        rw [hpf]
        have HDD : Hid ((deep + 1 + if parW 6 x.op = true then 1 else 0) = deep + 1) := by show _ = _; rw [hpf]; rfl
        have C2 : Hid (Calls Tryz.prog 104 #[.pointer (some ⟨L, 0, none⟩), .agg #[.int .i64 x.op, .int .i64 x.num, .slice qq x.l.length c], .int .i64 ((deep : Int) + 1)] w1 (RtPost w1 L T x (deep + 1) (p + 1 + cntL (l.take j)))) := IH.out x w1 x.op x.num qq x.l.length c (deep + 1) (p + 1 + cntL (l.take j)) HP1.out HX1.out HCN.out (by omega)
        clear hpar hpf
        go_wp2_with (go_at_call 104; refine C2.out.mono ?_)
        rintro e2 w2 ⟨rfl, hc2, hg2⟩
        have HGG := Lib.hid (g_trans HG1.out hg2)
        have HC2 := Lib.hid hc2
        have HZ2 : Hid (w2.heap[X]? = some (.cells #[.int .i64 6, .int .i64 0, .slice (some ⟨b, o, none⟩) 1 cap] 41 (0, 0))) := (hg2.block X xl1 (fun e => absurd (Option.some.inj e) (by omega))).trans HZ1.out
        clear hc2 hg2
        by_cases hq : (patW x (deep + 1) && decide (p + 1 + cntL (l.take j) + cntW x ≤ 16384)) = true
        ·rw [hq]
         rw [Bool.and_eq_true, decide_eq_true_eq] at hq
         have HQ := Lib.hid hq
         clear hq
         go_wp2_with fail
         go_roundw
         case rel => exact ⟨j + 1, by go_num, by omega, patL_step HXJ.out HPL.out (by rw [HDD.out]; exact HQ.out.1), by show p + 1 + cntL (l.take (j + 1)) ≤ 16384; rw [cntL_step HXJ.out]; have := HQ.out.2; omega, by show _ = _; rw [cntL_step HXJ.out, ← Nat.add_assoc]; exact HC2.out HQ.out.1 HQ.out.2, HZ2.out, HGG.out⟩
         case measure => simp [intOf]; omega
        ·rw [Bool.not_eq_true] at hq
         rw [hq]
         have HQ := Lib.hid hq
         clear hq
         go_wp2_with fail
         rw [← HPP.out]
         exact rt_false (rt_no HW1.out HXJ.out (by rw [HDD.out]; exact HQ.out)) HGG.out
      ·obtain rfl : j = 1 := by omega
       have hjj : ¬ ((1 : Nat) : Int) < 1 := by omega
       have hta : l.take 1 = l := List.take_of_length_le (by rw [HN.out]; exact Nat.le_refl _)
       have HTA := Lib.hid hta
       clear hta
       go_wp2_with fail
       rw [← HPP.out]
       refine rt_true (HW2.out (by have := HPL.out; rwa [HTA.out] at this)) (by have := HCN.out; rw [HTA.out] at this; rw [cntW]; omega) ?_ HGR.out
       have := HXR.out
       rw [HTA.out] at this
       rw [cntW, ← Nat.add_assoc]
       exact this
    ·have hl : ¬ l.length = 1 := fun e => hn (by rw [← HN.out, e])
     have q3 : ((n : Nat) : Int) ≠ 1 := by omega
     obtain ⟨q4, q5⟩ := neI q3
     go_wp2_with fail
     rw [← HPP.out]
     exact rt_false (nopat (by rw [patW, HD1.out]; simp [hl])) HGB.out
   ·obtain ⟨q6, q7⟩ := neI hm
    go_wp2_with fail
    rw [← HPP.out]
    exact rt_false (nopat (by rw [patW, HD1.out]; simp [hm])) HGB.out
  obtain ⟨eo6, no6⟩ := neI o6
  by_cases o4 : op = 4
  ·subst o4
   by_cases hm : num = 0
   ·subst hm
    by_cases hn : 2 ≤ n
    ·have hl : 2 ≤ l.length := by rw [HN.out]; exact hn
     have q3 : ¬ ((n : Nat) : Int) < 2 := by omega
     have HW1 : Hid (patW (.mk 4 0 l) deep = true → patL 4 l (deep) = true) := fun h => by simp [patW] at h; exact h.2.2
     have HW2 : Hid (patL 4 l (deep) = true → patW (.mk 4 0 l) deep = true) := fun h => by rw [patW, HD1.out]; simp [hl, h]
     go_wp2_with fail
     go_loopw [9, 10, 93] (fun s9 s10 s93 wr => ∃ j : Nat, s93 = .int .i64 (j : Nat) ∧ j ≤ n ∧ Hid (patL 4 (l.take j) (deep) = true) ∧ Hid (p + 1 + cntL (l.take j) ≤ 16384) ∧ Hid (wr.heap[L]? = some (.cells #[.int .i64 ((p + 1 + cntL (l.take j) : Nat) : Int)] T (0, 0))) ∧ Hid (wr.heap[X]? = some (.cells #[.int .i64 4, .int .i64 0, .slice q n cap] 41 (0, 0))) ∧ Hid (W.grownBy wr (some L))) (fun _ _ i _ => n - (intOf i).toNat)
     case atStart => exact ⟨0, rfl, Nat.zero_le _, by show patL 4 (l.take 0) _ = true; rw [List.take_zero, patL], by show p + 1 + cntL (l.take 0) ≤ 16384; rw [List.take_zero, cntL]; omega, by show _ = _; rw [List.take_zero, cntL]; exact HXB.out, HZB.out, HGB.out⟩
     case round =>
      obtain ⟨j, rfl, hj, HPL, HCN, HXR, HZR, HGR⟩ := hrel
      obtain ⟨r0, r1, r2⟩ := row3_ HZR.out
      have lr : L < wr.heap.size := (Array.getElem?_eq_some_iff.1 HXR.out).1
      have xr : X < wr.heap.size := (Array.getElem?_eq_some_iff.1 HZR.out).1
      by_cases hlt : j < n
      ·obtain ⟨x, hx⟩ : ∃ x, l[j]? = some x := ⟨_, List.getElem?_eq_getElem (by rw [HN.out]; exact hlt)⟩
       obtain ⟨b, o, qq, _, c, hPb, rfl, hbl, d0, d1, d2, rfl, hPt⟩ := HD.out.part hx
       have hbr := HGR.out.block b hbl (fun e => hPb (Option.some.inj e))
       have y0 := cell_block hbr d0
       have y1 := cell_block hbr d1
       have y2 := cell_block hbr d2
       have hPr := hPt.kept (w' := wr) (Q := Off L) (fun b hb hl => ⟨HGR.out.block b hl (fun e => hb (Option.some.inj e)), hb⟩)
       have HPT := Lib.hid hPr
       have HXJ := Lib.hid hx
       have g0 : (j : Int) < ((n : Nat) : Int) := by omega
       have g00 : (0 : Int) ≤ (j : Int) := by omega
       have CP := Lib.hid (fun (W : World) => paired_any 4 x.op (.int .i64 0) (.slice (some ⟨b, o, none⟩) n cap) (.int .i64 x.num) (.slice qq x.l.length c) W)
       obtain ⟨R, hR⟩ : ∃ R, wr.heap.size = R := ⟨_, rfl⟩
       obtain ⟨WX, hWX⟩ : ∃ WX, wr.alloc (.cells #[.int .i64 x.op, .int .i64 x.num, .slice qq x.l.length c] 41) = WX := ⟨_, rfl⟩
       have hrx := aRow_ hWX hR
       have hbx : Below wr.heap.size wr WX := by rw [← hWX]; exact (Below.refl _ wr).alloc (Nat.le_refl _) _
       have hsx : WX.heap.size = R + 1 := by rw [← hWX, ← hR]; simp
       have hzx : WX.heap[X]? = some (.cells #[.int .i64 4, .int .i64 0, .slice (some ⟨b, o, none⟩) n cap] 41 (0, 0)) := (hbx.block X xr).trans HZR.out
       have lLR : L < R := by omega
       have lXR : X < R := by omega
       obtain ⟨xx0, xx1, xx2⟩ := row3_ hzx
       obtain ⟨xr0, xr1, xr2⟩ := row3_ hrx
       have lx1 : X < WX.heap.size := by omega
       have lx2 : R < WX.heap.size := by omega
       have HR := Lib.hid hR
       have HWX := Lib.hid hWX
       have HRX := Lib.hid hrx
       have HBX := Lib.hid hbx
       clear hPb hbr hPt hPr hx d0 d1 d2 hbl hR hWX hrx hbx hzx
       go_upto_region 25 with fail
       rw [HR.out, HWX.out]
       go_wp2_with (go_at_call 144; refine (CP.out _).mono ?_)
       rintro e1 w1 ⟨rfl, hb1⟩
       have hr1 : w1.heap[R]? = some (.cells #[.int .i64 x.op, .int .i64 x.num, .slice qq x.l.length c] 41 (0, 0)) := (hb1.block R lx2).trans HRX.out
       have hs1 := hb1.size
       obtain ⟨xw0, xw1, xw2⟩ := row3_ hr1
       have HB1 : Hid (Below wr.heap.size wr w1) := HBX.out.trans (hb1.mono (by have := HBX.out.size; omega))
       have lw1 : R < w1.heap.size := by omega
       have HP1 := Lib.hid (HPT.out.kept (w' := w1) (Q := Off L) (fun b hb hl => ⟨HB1.out.block b hl, hb⟩))
       have HX1 : Hid (w1.heap[L]? = some (.cells #[.int .i64 ((p + 1 + cntL (l.take j) : Nat) : Int)] T (0, 0))) := (HB1.out.block L lr).trans HXR.out
       have HG1 : Hid (W.grownBy w1 (some L)) := g_below HGR.out HB1.out
       have hX1 : w1.heap[X]? = some (.cells #[.int .i64 4, .int .i64 0, .slice (some ⟨b, o, none⟩) n cap] 41 (0, 0)) := (HB1.out.block X xr).trans HZR.out
       have HZ1 := Lib.hid hX1
       have xl1 : X < w1.heap.size := by omega
       clear hb1 hr1 hX1
       by_cases hpar : parW 4 x.op = true
       ·rw [hpar]
        have HDD : Hid ((deep + if parW 4 x.op = true then 1 else 0) = deep + 1) := by show _ = _; rw [hpar]; rfl
        have C2 : Hid (Calls Tryz.prog 104 #[.pointer (some ⟨L, 0, none⟩), .agg #[.int .i64 x.op, .int .i64 x.num, .slice qq x.l.length c], .int .i64 ((deep : Int) + 1)] w1 (RtPost w1 L T x (deep + 1) (p + 1 + cntL (l.take j)))) := IH.out x w1 x.op x.num qq x.l.length c (deep + 1) (p + 1 + cntL (l.take j)) HP1.out HX1.out HCN.out (by omega)
        clear hpar
        go_wp2_with (go_at_call 104; refine C2.out.mono ?_)
        rintro e2 w2 ⟨rfl, hc2, hg2⟩
        have HGG := Lib.hid (g_trans HG1.out hg2)
        have HC2 := Lib.hid hc2
        have HZ2 : Hid (w2.heap[X]? = some (.cells #[.int .i64 4, .int .i64 0, .slice (some ⟨b, o, none⟩) n cap] 41 (0, 0))) := (hg2.block X xl1 (fun e => absurd (Option.some.inj e) (by omega))).trans HZ1.out
        clear hc2 hg2
        by_cases hq : (patW x (deep + 1) && decide (p + 1 + cntL (l.take j) + cntW x ≤ 16384)) = true
        ·rw [hq]
         rw [Bool.and_eq_true, decide_eq_true_eq] at hq
         have HQ := Lib.hid hq
         clear hq
         go_wp2_with fail
         go_roundw
         case rel => exact ⟨j + 1, by go_num, by omega, patL_step HXJ.out HPL.out (by rw [HDD.out]; exact HQ.out.1), by show p + 1 + cntL (l.take (j + 1)) ≤ 16384; rw [cntL_step HXJ.out]; have := HQ.out.2; omega, by show _ = _; rw [cntL_step HXJ.out, ← Nat.add_assoc]; exact HC2.out HQ.out.1 HQ.out.2, HZ2.out, HGG.out⟩
         case measure => simp [intOf]; omega
        ·rw [Bool.not_eq_true] at hq
         rw [hq]
         have HQ := Lib.hid hq
         clear hq
         go_wp2_with fail
         rw [← HPP.out]
         exact rt_false (rt_no HW1.out HXJ.out (by rw [HDD.out]; exact HQ.out)) HGG.out
       ·obtain hpf : parW 4 x.op = false := by simpa using hpar
        rw [hpf]
        have HDD : Hid ((deep + if parW 4 x.op = true then 1 else 0) = deep) := by show _ = _; rw [hpf]; rfl
        have C2 : Hid (Calls Tryz.prog 104 #[.pointer (some ⟨L, 0, none⟩), .agg #[.int .i64 x.op, .int .i64 x.num, .slice qq x.l.length c], .int .i64 ((deep : Int))] w1 (RtPost w1 L T x (deep) (p + 1 + cntL (l.take j)))) := IH.out x w1 x.op x.num qq x.l.length c (deep) (p + 1 + cntL (l.take j)) HP1.out HX1.out HCN.out (by omega)
        clear hpar hpf
        go_wp2_with (go_at_call 104; refine C2.out.mono ?_)
        rintro e2 w2 ⟨rfl, hc2, hg2⟩
        have HGG := Lib.hid (g_trans HG1.out hg2)
        have HC2 := Lib.hid hc2
        have HZ2 : Hid (w2.heap[X]? = some (.cells #[.int .i64 4, .int .i64 0, .slice (some ⟨b, o, none⟩) n cap] 41 (0, 0))) := (hg2.block X xl1 (fun e => absurd (Option.some.inj e) (by omega))).trans HZ1.out
        clear hc2 hg2
        by_cases hq : (patW x (deep) && decide (p + 1 + cntL (l.take j) + cntW x ≤ 16384)) = true
        ·rw [hq]
         rw [Bool.and_eq_true, decide_eq_true_eq] at hq
         have HQ := Lib.hid hq
         clear hq
         go_wp2_with fail
         go_roundw
         case rel => exact ⟨j + 1, by go_num, by omega, patL_step HXJ.out HPL.out (by rw [HDD.out]; exact HQ.out.1), by show p + 1 + cntL (l.take (j + 1)) ≤ 16384; rw [cntL_step HXJ.out]; have := HQ.out.2; omega, by show _ = _; rw [cntL_step HXJ.out, ← Nat.add_assoc]; exact HC2.out HQ.out.1 HQ.out.2, HZ2.out, HGG.out⟩
         case measure => simp [intOf]; omega
        ·rw [Bool.not_eq_true] at hq
         rw [hq]
         have HQ := Lib.hid hq
         clear hq
         go_wp2_with fail
         rw [← HPP.out]
         exact rt_false (rt_no HW1.out HXJ.out (by rw [HDD.out]; exact HQ.out)) HGG.out
      ·obtain rfl : j = n := by omega
       have hjj : ¬ (j : Int) < (j : Int) := by omega
       have hta : l.take j = l := List.take_of_length_le (by rw [HN.out]; exact Nat.le_refl _)
       have HTA := Lib.hid hta
       clear hta
       go_wp2_with fail
       rw [← HPP.out]
       refine rt_true (HW2.out (by have := HPL.out; rwa [HTA.out] at this)) (by have := HCN.out; rw [HTA.out] at this; rw [cntW]; omega) ?_ HGR.out
       have := HXR.out
       rw [HTA.out] at this
       rw [cntW, ← Nat.add_assoc]
       exact this
    ·have hl : ¬ 2 ≤ l.length := by rw [HN.out]; exact hn
     have q3 : ((n : Nat) : Int) < 2 := by omega
     go_wp2_with fail
     rw [← HPP.out]
     exact rt_false (nopat (by rw [patW, HD1.out]; simp [hl])) HGB.out
   ·obtain ⟨q6, q7⟩ := neI hm
    go_wp2_with fail
    rw [← HPP.out]
    exact rt_false (nopat (by rw [patW, HD1.out]; simp [hm])) HGB.out
  obtain ⟨eo4, no4⟩ := neI o4
  by_cases o5 : op = 5
  ·subst o5
   by_cases hm : num = 0
   ·subst hm
    by_cases hn : 2 ≤ n
    ·have hl : 2 ≤ l.length := by rw [HN.out]; exact hn
     have q3 : ¬ ((n : Nat) : Int) < 2 := by omega
     have HW1 : Hid (patW (.mk 5 0 l) deep = true → patL 5 l (deep) = true) := fun h => by simp [patW] at h; exact h.2.2
     have HW2 : Hid (patL 5 l (deep) = true → patW (.mk 5 0 l) deep = true) := fun h => by rw [patW, HD1.out]; simp [hl, h]
     go_wp2_with fail
     go_loopw [9, 10, 93] (fun s9 s10 s93 wr => ∃ j : Nat, s93 = .int .i64 (j : Nat) ∧ j ≤ n ∧ Hid (patL 5 (l.take j) (deep) = true) ∧ Hid (p + 1 + cntL (l.take j) ≤ 16384) ∧ Hid (wr.heap[L]? = some (.cells #[.int .i64 ((p + 1 + cntL (l.take j) : Nat) : Int)] T (0, 0))) ∧ Hid (wr.heap[X]? = some (.cells #[.int .i64 5, .int .i64 0, .slice q n cap] 41 (0, 0))) ∧ Hid (W.grownBy wr (some L))) (fun _ _ i _ => n - (intOf i).toNat)
     case atStart => exact ⟨0, rfl, Nat.zero_le _, by show patL 5 (l.take 0) _ = true; rw [List.take_zero, patL], by show p + 1 + cntL (l.take 0) ≤ 16384; rw [List.take_zero, cntL]; omega, by show _ = _; rw [List.take_zero, cntL]; exact HXB.out, HZB.out, HGB.out⟩
     case round =>
      obtain ⟨j, rfl, hj, HPL, HCN, HXR, HZR, HGR⟩ := hrel
      obtain ⟨r0, r1, r2⟩ := row3_ HZR.out
      have lr : L < wr.heap.size := (Array.getElem?_eq_some_iff.1 HXR.out).1
      have xr : X < wr.heap.size := (Array.getElem?_eq_some_iff.1 HZR.out).1
      by_cases hlt : j < n
      ·obtain ⟨x, hx⟩ : ∃ x, l[j]? = some x := ⟨_, List.getElem?_eq_getElem (by rw [HN.out]; exact hlt)⟩
       obtain ⟨b, o, qq, _, c, hPb, rfl, hbl, d0, d1, d2, rfl, hPt⟩ := HD.out.part hx
       have hbr := HGR.out.block b hbl (fun e => hPb (Option.some.inj e))
       have y0 := cell_block hbr d0
       have y1 := cell_block hbr d1
       have y2 := cell_block hbr d2
       have hPr := hPt.kept (w' := wr) (Q := Off L) (fun b hb hl => ⟨HGR.out.block b hl (fun e => hb (Option.some.inj e)), hb⟩)
       have HPT := Lib.hid hPr
       have HXJ := Lib.hid hx
       have g0 : (j : Int) < ((n : Nat) : Int) := by omega
       have g00 : (0 : Int) ≤ (j : Int) := by omega
       have CP := Lib.hid (fun (W : World) => paired_any 5 x.op (.int .i64 0) (.slice (some ⟨b, o, none⟩) n cap) (.int .i64 x.num) (.slice qq x.l.length c) W)
       obtain ⟨R, hR⟩ : ∃ R, wr.heap.size = R := ⟨_, rfl⟩
       obtain ⟨WX, hWX⟩ : ∃ WX, wr.alloc (.cells #[.int .i64 x.op, .int .i64 x.num, .slice qq x.l.length c] 41) = WX := ⟨_, rfl⟩
       have hrx := aRow_ hWX hR
       have hbx : Below wr.heap.size wr WX := by rw [← hWX]; exact (Below.refl _ wr).alloc (Nat.le_refl _) _
       have hsx : WX.heap.size = R + 1 := by rw [← hWX, ← hR]; simp
       have hzx : WX.heap[X]? = some (.cells #[.int .i64 5, .int .i64 0, .slice (some ⟨b, o, none⟩) n cap] 41 (0, 0)) := (hbx.block X xr).trans HZR.out
       have lLR : L < R := by omega
       have lXR : X < R := by omega
       obtain ⟨xx0, xx1, xx2⟩ := row3_ hzx
       obtain ⟨xr0, xr1, xr2⟩ := row3_ hrx
       have lx1 : X < WX.heap.size := by omega
       have lx2 : R < WX.heap.size := by omega
       have HR := Lib.hid hR
       have HWX := Lib.hid hWX
       have HRX := Lib.hid hrx
       have HBX := Lib.hid hbx
       clear hPb hbr hPt hPr hx d0 d1 d2 hbl hR hWX hrx hbx hzx
       go_upto_region 25 with fail
       rw [HR.out, HWX.out]
       go_wp2_with (go_at_call 144; refine (CP.out _).mono ?_)
       rintro e1 w1 ⟨rfl, hb1⟩
       have hr1 : w1.heap[R]? = some (.cells #[.int .i64 x.op, .int .i64 x.num, .slice qq x.l.length c] 41 (0, 0)) := (hb1.block R lx2).trans HRX.out
       have hs1 := hb1.size
       obtain ⟨xw0, xw1, xw2⟩ := row3_ hr1
       have HB1 : Hid (Below wr.heap.size wr w1) := HBX.out.trans (hb1.mono (by have := HBX.out.size; omega))
       have lw1 : R < w1.heap.size := by omega
       have HP1 := Lib.hid (HPT.out.kept (w' := w1) (Q := Off L) (fun b hb hl => ⟨HB1.out.block b hl, hb⟩))
       have HX1 : Hid (w1.heap[L]? = some (.cells #[.int .i64 ((p + 1 + cntL (l.take j) : Nat) : Int)] T (0, 0))) := (HB1.out.block L lr).trans HXR.out
       have HG1 : Hid (W.grownBy w1 (some L)) := g_below HGR.out HB1.out
       have hX1 : w1.heap[X]? = some (.cells #[.int .i64 5, .int .i64 0, .slice (some ⟨b, o, none⟩) n cap] 41 (0, 0)) := (HB1.out.block X xr).trans HZR.out
       have HZ1 := Lib.hid hX1
       have xl1 : X < w1.heap.size := by omega
       clear hb1 hr1 hX1
       by_cases hpar : parW 5 x.op = true
       ·rw [hpar]
        have HDD : Hid ((deep + if parW 5 x.op = true then 1 else 0) = deep + 1) := by show _ = _; rw [hpar]; rfl
        have C2 : Hid (Calls Tryz.prog 104 #[.pointer (some ⟨L, 0, none⟩), .agg #[.int .i64 x.op, .int .i64 x.num, .slice qq x.l.length c], .int .i64 ((deep : Int) + 1)] w1 (RtPost w1 L T x (deep + 1) (p + 1 + cntL (l.take j)))) := IH.out x w1 x.op x.num qq x.l.length c (deep + 1) (p + 1 + cntL (l.take j)) HP1.out HX1.out HCN.out (by omega)
        clear hpar
        go_wp2_with (go_at_call 104; refine C2.out.mono ?_)
        rintro e2 w2 ⟨rfl, hc2, hg2⟩
        have HGG := Lib.hid (g_trans HG1.out hg2)
        have HC2 := Lib.hid hc2
        have HZ2 : Hid (w2.heap[X]? = some (.cells #[.int .i64 5, .int .i64 0, .slice (some ⟨b, o, none⟩) n cap] 41 (0, 0))) := (hg2.block X xl1 (fun e => absurd (Option.some.inj e) (by omega))).trans HZ1.out
        clear hc2 hg2
        by_cases hq : (patW x (deep + 1) && decide (p + 1 + cntL (l.take j) + cntW x ≤ 16384)) = true
        ·rw [hq]
         rw [Bool.and_eq_true, decide_eq_true_eq] at hq
         have HQ := Lib.hid hq
         clear hq
         go_wp2_with fail
         go_roundw
         case rel => exact ⟨j + 1, by go_num, by omega, patL_step HXJ.out HPL.out (by rw [HDD.out]; exact HQ.out.1), by show p + 1 + cntL (l.take (j + 1)) ≤ 16384; rw [cntL_step HXJ.out]; have := HQ.out.2; omega, by show _ = _; rw [cntL_step HXJ.out, ← Nat.add_assoc]; exact HC2.out HQ.out.1 HQ.out.2, HZ2.out, HGG.out⟩
         case measure => simp [intOf]; omega
        ·rw [Bool.not_eq_true] at hq
         rw [hq]
         have HQ := Lib.hid hq
         clear hq
         go_wp2_with fail
         rw [← HPP.out]
         exact rt_false (rt_no HW1.out HXJ.out (by rw [HDD.out]; exact HQ.out)) HGG.out
       ·obtain hpf : parW 5 x.op = false := by simpa using hpar
        rw [hpf]
        have HDD : Hid ((deep + if parW 5 x.op = true then 1 else 0) = deep) := by show _ = _; rw [hpf]; rfl
        have C2 : Hid (Calls Tryz.prog 104 #[.pointer (some ⟨L, 0, none⟩), .agg #[.int .i64 x.op, .int .i64 x.num, .slice qq x.l.length c], .int .i64 ((deep : Int))] w1 (RtPost w1 L T x (deep) (p + 1 + cntL (l.take j)))) := IH.out x w1 x.op x.num qq x.l.length c (deep) (p + 1 + cntL (l.take j)) HP1.out HX1.out HCN.out (by omega)
        clear hpar hpf
        go_wp2_with (go_at_call 104; refine C2.out.mono ?_)
        rintro e2 w2 ⟨rfl, hc2, hg2⟩
        have HGG := Lib.hid (g_trans HG1.out hg2)
        have HC2 := Lib.hid hc2
        have HZ2 : Hid (w2.heap[X]? = some (.cells #[.int .i64 5, .int .i64 0, .slice (some ⟨b, o, none⟩) n cap] 41 (0, 0))) := (hg2.block X xl1 (fun e => absurd (Option.some.inj e) (by omega))).trans HZ1.out
        clear hc2 hg2
        by_cases hq : (patW x (deep) && decide (p + 1 + cntL (l.take j) + cntW x ≤ 16384)) = true
        ·rw [hq]
         rw [Bool.and_eq_true, decide_eq_true_eq] at hq
         have HQ := Lib.hid hq
         clear hq
         go_wp2_with fail
         go_roundw
         case rel => exact ⟨j + 1, by go_num, by omega, patL_step HXJ.out HPL.out (by rw [HDD.out]; exact HQ.out.1), by show p + 1 + cntL (l.take (j + 1)) ≤ 16384; rw [cntL_step HXJ.out]; have := HQ.out.2; omega, by show _ = _; rw [cntL_step HXJ.out, ← Nat.add_assoc]; exact HC2.out HQ.out.1 HQ.out.2, HZ2.out, HGG.out⟩
         case measure => simp [intOf]; omega
        ·rw [Bool.not_eq_true] at hq
         rw [hq]
         have HQ := Lib.hid hq
         clear hq
         go_wp2_with fail
         rw [← HPP.out]
         exact rt_false (rt_no HW1.out HXJ.out (by rw [HDD.out]; exact HQ.out)) HGG.out
      ·obtain rfl : j = n := by omega
       have hjj : ¬ (j : Int) < (j : Int) := by omega
       have hta : l.take j = l := List.take_of_length_le (by rw [HN.out]; exact Nat.le_refl _)
       have HTA := Lib.hid hta
       clear hta
       go_wp2_with fail
       rw [← HPP.out]
       refine rt_true (HW2.out (by have := HPL.out; rwa [HTA.out] at this)) (by have := HCN.out; rw [HTA.out] at this; rw [cntW]; omega) ?_ HGR.out
       have := HXR.out
       rw [HTA.out] at this
       rw [cntW, ← Nat.add_assoc]
       exact this
    ·have hl : ¬ 2 ≤ l.length := by rw [HN.out]; exact hn
     have q3 : ((n : Nat) : Int) < 2 := by omega
     go_wp2_with fail
     rw [← HPP.out]
     exact rt_false (nopat (by rw [patW, HD1.out]; simp [hl])) HGB.out
   ·obtain ⟨q6, q7⟩ := neI hm
    go_wp2_with fail
    rw [← HPP.out]
    exact rt_false (nopat (by rw [patW, HD1.out]; simp [hm])) HGB.out
  obtain ⟨eo5, no5⟩ := neI o5
  go_wp2_with fail
  rw [← HPP.out]
  exact rt_false (nopat (by rw [patW, HD1.out]; simp [o1, o2, o3, o4, o5, o6])) HGB.out
end Go.Proofs.YtbdllefnghddcaaGreatDoor
