/- PARSE: Same (the program's): handlers put together, trees. -/
import Derived.Deep.MidRow
import Derived.Test.YtbdllefnghddcaaGreatDoorParseSameH1
import Derived.Test.YtbdllefnghddcaaGreatDoorParseSameH2
import Derived.Test.YtbdllefnghddcaaGreatDoorParseSameH3
import Derived.Test.YtbdllefnghddcaaGreatDoorPMem
namespace Go.Proofs.YtbdllefnghddcaaGreatDoor
set_option linter.unusedSimpArgs false
set_option maxHeartbeats 8000000
set_option maxRecDepth 100000
open Go Go.RowKit
attribute [local go_sem ↓] Go.wp_at_zero Go.wp_at_succ

theorem samehand_any (x y : HandT) (W : World) (k k' : Nat) {cs cs' : List Value} (hRa : HandP All W k cs x) (hRb : HandP All W k' cs' y) :
  Calls Tryz.prog 60 #[.agg cs.toArray, .agg cs'.toArray] W (PatPost W (.bool (sameH x y))) := by
 by_cases h1 : x.name = y.name ∧ x.of_.name = y.of_.name ∧ x.core.word = y.core.word
 ·by_cases h2 : x.core.has = y.core.has ∧ x.core.minus = y.core.minus ∧ x.core.num = y.core.num
  ·exact samehand_3 x y W k k' hRa hRb h1.1 h1.2.1 h1.2.2 h2.1 h2.2.1 h2.2.2
  ·exact samehand_2 x y W k k' hRa hRb h1.1 h1.2.1 h1.2.2 h2
 ·exact samehand_1 x y W k k' hRa hRb h1
theorem load_hand (w : World) (b o : Nat) (cs : List Value) (hc : ∀ (i : Nat) (v : Value), cs[i]? = some v → w.cell? ⟨b, o + i, none⟩ = some v) (hl : cs.length = 16) :
  (Instr.loadAt 81 (.pointer (some ⟨b, o, none⟩))).run Tryz.prog w = .ok (.agg cs.toArray) w := by
 have hq : (match Tryz.prog.underlying 81 with | some d => d.isRow | none => false) = true := by kernel_rfl
 cases hu : Tryz.prog.underlying 81 with
 | none => rw [hu] at hq; cases hq
 | some d => rw [hu] at hq; exact run_loadAt_mid w b o _ cs d hc hu hq (by rw [hl]; kernel_rfl)
attribute [-go_sem] Go.Instr.loadAt in
theorem eqhand_any {k k' : Nat} {W : World} {v v' : Value} {xs ys : List HandT} (hV : ListP All W 16 (HandP All W k) v xs) (hV' : ListP All W 16 (HandP All W k') v' ys) :
  Calls Tryz.prog 59 #[v, v', .func (.func 60) #[] #[]] W (PatPost W (.bool (eqL sameH xs ys))) := by
 obtain ⟨PP, hPP⟩ : ∃ PP, PatPost W (.bool (eqL sameH xs ys)) = PP := ⟨_, rfl⟩
 rw [hPP]
 have HPP := Lib.hid hPP
 obtain ⟨q, cap, rfl, hn9⟩ := hV.shape
 obtain ⟨q', cap', rfl, hm9⟩ := hV'.shape
 have HV := Lib.hid hV
 have HV' := Lib.hid hV'
 clear hPP hV hV'
 by_cases hl : xs.length = ys.length
 ·have HL := Lib.hid hl
  rw [← hl] at HV' ⊢
  skip
  clear hl
  go_enter Tryz.func59, Tryz.ntmps59
  go_wp2_with fail
  go_loopw [7, 8, 9, 17] (fun s7 s8 s9 s17 wr => ∃ j : Nat, s17 = .int .i64 (j : Nat) ∧ j ≤ xs.length ∧ Hid (eqTo sameH xs ys j = true) ∧ Hid (Below W.heap.size W wr)) (fun _ _ _ i _ => xs.length - (intOf i).toNat)
  case atStart => exact ⟨0, rfl, Nat.zero_le _, eqTo_zero _ _ _, Below.refl _ _⟩
  case round =>
   obtain ⟨j, rfl, hj, HAL, HB⟩ := hrel
   by_cases hlt : j < xs.length
   ·obtain ⟨x, hx⟩ : ∃ x, xs[j]? = some x := ⟨_, List.getElem?_eq_getElem hlt⟩
    obtain ⟨y, hy⟩ : ∃ y, ys[j]? = some y := ⟨_, List.getElem?_eq_getElem (by have := HL.out; omega)⟩
    obtain ⟨ba, oa, capa, csa, e, -, hbla, -, hRa, hc⟩ := HV.out.at hx
    injection e with e e2 e3
    subst e; subst e3; clear e2
    have hR0a := hRa
    obtain ⟨c0a, c1a, c2a, c3a, c4a, c5a, va, ua, rfl, hcorea, hwsa, hafa⟩ := hR0a
    have hcore2a := hcorea
    obtain ⟨cva, eca, hcapsa⟩ := hcorea
    simp only [List.cons.injEq, and_true] at eca
    obtain ⟨rfl, rfl, rfl, rfl, rfl, rfl⟩ := eca
    obtain ⟨cqa, cca, rfl, -⟩ := UsP.shape hcapsa
    obtain ⟨vqa, vka, rfl, hn8a⟩ := hwsa.shape
    obtain ⟨aqa, aca, rfl, -⟩ := UsP.shape hafa
    have hld := load_hand wr ba (oa + j * 16) _ (fun i v h => (HB.out.cell (p := ⟨ba, _, none⟩) hbla).trans (hc i v h)) rfl
    clear hc
    obtain ⟨X, hX⟩ : ∃ X, wr.heap.size = X := ⟨_, rfl⟩
    obtain ⟨v1, hv1⟩ : ∃ v1, wr.alloc (.cells #[.string x.name, .string x.of_.name, .int .i64 x.of_.pos, .string x.core.word, .bool x.core.has, .bool x.core.minus, .int .u64 x.core.num, .slice cqa x.core.caps.length cca, .int .i64 x.core.pos, .slice vqa x.wraps.length vka, .bool x.room, .int .u64 x.inbox, .string x.drop.name, .int .i64 x.drop.pos, .slice aqa x.after.length aca, .int .i64 x.pos] 81) = v1 := ⟨_, rfl⟩
    have hszX := hX
    have hsv1 : v1.heap.size = X + 1 := by rw [← hv1, ← hszX]; simp
    have hbv1 : Below wr.heap.size wr v1 := by rw [← hv1]; exact (Below.refl _ wr).alloc (Nat.le_refl _) _
    have hxv1 := aRow_ hv1 hszX
    have HBv1 := Lib.hid (HB.out.trans (hbv1.mono HB.out.size))
    have HXe := Lib.hid hX
    have Hv1e := Lib.hid hv1
    have HSX := Lib.hid hsv1
    have HXv1 := Lib.hid hxv1
    clear hX hv1 hszX hsv1 hbv1 hxv1
    have g0 : (j : Int) < ((xs.length : Nat) : Int) := by omega
    have g00 : (0 : Int) ≤ (j : Int) := by omega
    have HXJ := Lib.hid hx
    clear hx hbla
    go_upto_region 6 with fail
    simp only [HXe.out, Hv1e.out]
    clear hld
    obtain ⟨bb, ob, capb, csb, e, -, hblb, -, hRb, hc⟩ := HV'.out.at hy
    injection e with e e2 e3
    subst e; subst e3; clear e2
    have hR0b := hRb
    obtain ⟨c0b, c1b, c2b, c3b, c4b, c5b, vb, ub, rfl, hcoreb, hwsb, hafb⟩ := hR0b
    have hcore2b := hcoreb
    obtain ⟨cvb, ecb, hcapsb⟩ := hcoreb
    simp only [List.cons.injEq, and_true] at ecb
    obtain ⟨rfl, rfl, rfl, rfl, rfl, rfl⟩ := ecb
    obtain ⟨cqb, ccb, rfl, -⟩ := UsP.shape hcapsb
    obtain ⟨vqb, vkb, rfl, hn8b⟩ := hwsb.shape
    obtain ⟨aqb, acb, rfl, -⟩ := UsP.shape hafb
    have hld := load_hand v1 bb (ob + j * 16) _ (fun i v h => (HBv1.out.cell (p := ⟨bb, _, none⟩) hblb).trans (hc i v h)) rfl
    clear hc
    obtain ⟨Y, hY⟩ : ∃ Y, X + 1 = Y := ⟨_, rfl⟩
    obtain ⟨v2, hv2⟩ : ∃ v2, v1.alloc (.cells #[.string y.name, .string y.of_.name, .int .i64 y.of_.pos, .string y.core.word, .bool y.core.has, .bool y.core.minus, .int .u64 y.core.num, .slice cqb y.core.caps.length ccb, .int .i64 y.core.pos, .slice vqb y.wraps.length vkb, .bool y.room, .int .u64 y.inbox, .string y.drop.name, .int .i64 y.drop.pos, .slice aqb y.after.length acb, .int .i64 y.pos] 81) = v2 := ⟨_, rfl⟩
    have hszY : v1.heap.size = Y := by rw [← hY]; exact HSX.out
    have hsv2 : v2.heap.size = Y + 1 := by rw [← hv2, ← hszY]; simp
    have hbv2 : Below v1.heap.size v1 v2 := by rw [← hv2]; exact (Below.refl _ v1).alloc (Nat.le_refl _) _
    have hxv2 := aRow_ hv2 hszY
    have HB0 := Lib.hid (HBv1.out.trans (hbv2.mono HBv1.out.size))
    have HYe := Lib.hid hY
    have Hv2e := Lib.hid hv2
    have HSY := Lib.hid hsv2
    have HYv2 := Lib.hid hxv2
    have HX0 : Hid (v2.heap[X]? = v1.heap[X]?) := hbv2.block X (by have := HSX.out; omega)
    clear hY hv2 hszY hsv2 hbv2 hxv2
    have HX0 := Lib.hid (HX0.out.trans HXv1.out)
    have HY0 := HYv2
    have C := Lib.hid (samehand_any x y v2 _ _ (hRa.kept (All.kept HB0.out)) (hRb.kept (All.kept HB0.out)))
    have HYJ := Lib.hid hy
    clear hy hblb
    go_upto_region 7 with fail
    simp only [HSX.out, HYe.out, Hv2e.out]
    clear hld
    have hlX := load_hand v2 X 0 _ (fun i v h => by rw [Nat.zero_add, cell_of_row _ _ _ _ _ _ HX0.out]; simpa using h) rfl
    have hlY := load_hand v2 Y 0 _ (fun i v h => by rw [Nat.zero_add, cell_of_row _ _ _ _ _ _ HY0.out]; simpa using h) rfl
    cases hp : sameH x y with
    | false =>
     have HP := Lib.hid hp
     rw [hp] at C
     clear hp
     go_wp2_with (go_at_call 60; refine C.out.mono ?_; rintro e1 w1' ⟨rfl, hb1⟩)
     rw [← HPP.out]
     exact ⟨by rw [eqL_at HXJ.out HYJ.out HP.out] <;> rfl, HB0.out.trans (hb1.mono HB0.out.size)⟩
    | true =>
     have HP := Lib.hid hp
     rw [hp] at C
     clear hp
     go_wp2_with (go_at_call 60; refine C.out.mono ?_; rintro e1 w1' ⟨rfl, hb1⟩)
     go_roundw
     case rel => exact ⟨j + 1, by go_num, by omega, eqTo_step HXJ.out HYJ.out HAL.out HP.out, HB0.out.trans (hb1.mono HB0.out.size)⟩
     case measure => simp [intOf]; omega
   ·obtain rfl : j = xs.length := by omega
    have hjj : ¬ ((xs.length : Nat) : Int) < ((xs.length : Nat) : Int) := by omega
    have HT : Hid (eqL sameH xs ys = true) := eqTo_all HL.out HAL.out
    go_wp2_with fail
    rw [← HPP.out]
    exact ⟨by rw [HT.out] <;> rfl, HB.out⟩
 ·have HT : Hid (eqL sameH xs ys = false) := eqL_len hl
  have hli : ¬ ((xs.length : Nat) : Int) = ((ys.length : Nat) : Int) := by omega
  obtain ⟨l1, l2⟩ := neI hli
  go_enter Tryz.func59, Tryz.ntmps59
  go_wp2_with fail
  rw [← HPP.out]
  exact ⟨by rw [HT.out] <;> rfl, Below.refl _ _⟩
theorem same_any (x y : TreeT) (W : World) (k k' : Nat) (vh vr vh' vr' : Value) (hR : TreeP All W k vh vr x) (hR' : TreeP All W k' vh' vr' y) :
  Calls Tryz.prog 23 #[.agg #[vh, vr], .agg #[vh', vr']] W (PatPost W (.bool (sameT x y))) := by
 obtain ⟨PP, hPP⟩ : ∃ PP, PatPost W (.bool (sameT x y)) = PP := ⟨_, rfl⟩
 rw [hPP]
 have HPP := Lib.hid hPP
 obtain ⟨hH, hRo⟩ := hR
 obtain ⟨hH', hRo'⟩ := hR'
 obtain ⟨hqa, hka, rfl, -⟩ := hH.shape
 obtain ⟨rqa, rka, rfl, -⟩ := hRo.shape
 obtain ⟨hqb, hkb, rfl, -⟩ := hH'.shape
 obtain ⟨rqb, rkb, rfl, -⟩ := hRo'.shape
 obtain ⟨X, hX⟩ : ∃ X, W.heap.size = X := ⟨_, rfl⟩
 obtain ⟨v1, hv1⟩ : ∃ v1, W.alloc (.cells #[.slice hqa x.hands.length hka, .slice rqa x.routes.length rka] 26) = v1 := ⟨_, rfl⟩
 have hszX := hX
 have hsv1 : v1.heap.size = X + 1 := by rw [← hv1, ← hszX]; simp
 have hbv1 : Below W.heap.size W v1 := by rw [← hv1]; exact (Below.refl _ W).alloc (Nat.le_refl _) _
 have hxv1 := aRow_ hv1 hszX
 have HBv1 : Hid (Below W.heap.size W v1) := hbv1
 have HXe := Lib.hid hX
 have Hv1e := Lib.hid hv1
 have HSX := Lib.hid hsv1
 have HXv1 := Lib.hid hxv1
 clear hX hv1 hszX hsv1 hbv1 hxv1
 obtain ⟨Y, hY⟩ : ∃ Y, X + 1 = Y := ⟨_, rfl⟩
 obtain ⟨v2, hv2⟩ : ∃ v2, v1.alloc (.cells #[.slice hqb y.hands.length hkb, .slice rqb y.routes.length rkb] 26) = v2 := ⟨_, rfl⟩
 have hszY : v1.heap.size = Y := by rw [← hY]; exact HSX.out
 have hsv2 : v2.heap.size = Y + 1 := by rw [← hv2, ← hszY]; simp
 have hbv2 : Below v1.heap.size v1 v2 := by rw [← hv2]; exact (Below.refl _ v1).alloc (Nat.le_refl _) _
 have hxv2 := aRow_ hv2 hszY
 have HB0 := Lib.hid (HBv1.out.trans (hbv2.mono HBv1.out.size))
 have HYe := Lib.hid hY
 have Hv2e := Lib.hid hv2
 have HSY := Lib.hid hsv2
 have HYv2 := Lib.hid hxv2
 have HX0 : Hid (v2.heap[X]? = v1.heap[X]?) := hbv2.block X (by have := HSX.out; omega)
 clear hY hv2 hszY hsv2 hbv2 hxv2
 have HX0 := Lib.hid (HX0.out.trans HXv1.out)
 have HY0 := HYv2
 have HHa := Lib.hid hH
 have HHb := Lib.hid hH'
 have HOa := Lib.hid hRo
 have HOb := Lib.hid hRo'
 clear hPP hH hH' hRo hRo'
 go_enter Tryz.func23, Tryz.ntmps23
 go_upto_region 1 with fail
 simp only [HXe.out, Hv1e.out, HSX.out, Hv2e.out, HYe.out]
 obtain ⟨cX0, cX1⟩ := row2_ HX0.out
 have ltX : X < v2.heap.size := (Array.getElem?_eq_some_iff.1 HX0.out).1
 obtain ⟨cY0, cY1⟩ := row2_ HY0.out
 have ltY : Y < v2.heap.size := (Array.getElem?_eq_some_iff.1 HY0.out).1
 have C1 := Lib.hid (eqhand_any (HHa.out.kept (All.kept HB0.out) fun _ _ h => h.kept (All.kept HB0.out)) (HHb.out.kept (All.kept HB0.out) fun _ _ h => h.kept (All.kept HB0.out)))
 cases hq0 : eqL sameH x.hands y.hands with
 | false =>
  have HQ0 := Lib.hid hq0
  rw [hq0] at C1
  clear hq0
  go_wp2_with (go_at_call 59; refine C1.out.mono ?_)
  clear cX0 cX1 ltX cY0 cY1 ltY
  rintro e1 w1 ⟨rfl, hb1⟩
  have HB1 := Lib.hid (HB0.out.trans (hb1.mono HB0.out.size))
  have hX1 := (hb1.block X (Array.getElem?_eq_some_iff.1 HX0.out).1).trans HX0.out
  obtain ⟨cX0, cX1⟩ := row2_ hX1
  have ltX : X < w1.heap.size := (Array.getElem?_eq_some_iff.1 hX1).1
  have HX1 := Lib.hid hX1
  clear hX1
  have hY1 := (hb1.block Y (Array.getElem?_eq_some_iff.1 HY0.out).1).trans HY0.out
  obtain ⟨cY0, cY1⟩ := row2_ hY1
  have ltY : Y < w1.heap.size := (Array.getElem?_eq_some_iff.1 hY1).1
  have HY1 := Lib.hid hY1
  clear hY1
  clear hb1 C1
  have HR : Hid (sameT x y = false) := by show _ = _; unfold sameT; simp [HQ0.out]
  go_wp2_with fail
  rw [← HPP.out]
  exact ⟨by rw [HR.out] <;> rfl, HB1.out⟩
 | true =>
  have HQ0 := Lib.hid hq0
  rw [hq0] at C1
  clear hq0
  go_wp2_with (go_at_call 59; refine C1.out.mono ?_)
  clear cX0 cX1 ltX cY0 cY1 ltY
  rintro e1 w1 ⟨rfl, hb1⟩
  have HB1 := Lib.hid (HB0.out.trans (hb1.mono HB0.out.size))
  have hX1 := (hb1.block X (Array.getElem?_eq_some_iff.1 HX0.out).1).trans HX0.out
  obtain ⟨cX0, cX1⟩ := row2_ hX1
  have ltX : X < w1.heap.size := (Array.getElem?_eq_some_iff.1 hX1).1
  have HX1 := Lib.hid hX1
  clear hX1
  have hY1 := (hb1.block Y (Array.getElem?_eq_some_iff.1 HY0.out).1).trans HY0.out
  obtain ⟨cY0, cY1⟩ := row2_ hY1
  have ltY : Y < w1.heap.size := (Array.getElem?_eq_some_iff.1 hY1).1
  have HY1 := Lib.hid hY1
  clear hY1
  clear hb1 C1
  have C2 := Lib.hid (eqroute_any (HOa.out.kept (All.kept HB1.out) fun _ _ h => h.kept (All.kept HB1.out)) (HOb.out.kept (All.kept HB1.out) fun _ _ h => h.kept (All.kept HB1.out)))
  cases hq1 : eqL sameR x.routes y.routes with
  | false =>
   have HQ1 := Lib.hid hq1
   rw [hq1] at C2
   clear hq1
   go_wp2_with (go_at_call 61; refine C2.out.mono ?_)
   clear cX0 cX1 ltX cY0 cY1 ltY
   rintro e2 w2 ⟨rfl, hb2⟩
   have HB2 := Lib.hid (HB1.out.trans (hb2.mono HB1.out.size))
   have hX2 := (hb2.block X (Array.getElem?_eq_some_iff.1 HX1.out).1).trans HX1.out
   obtain ⟨cX0, cX1⟩ := row2_ hX2
   have ltX : X < w2.heap.size := (Array.getElem?_eq_some_iff.1 hX2).1
   have HX2 := Lib.hid hX2
   clear hX2
   have hY2 := (hb2.block Y (Array.getElem?_eq_some_iff.1 HY1.out).1).trans HY1.out
   obtain ⟨cY0, cY1⟩ := row2_ hY2
   have ltY : Y < w2.heap.size := (Array.getElem?_eq_some_iff.1 hY2).1
   have HY2 := Lib.hid hY2
   clear hY2
   clear hb2 C2
   have HR : Hid (sameT x y = false) := by show _ = _; unfold sameT; simp [HQ0.out, HQ1.out]
   go_wp2_with fail
   rw [← HPP.out]
   exact ⟨by rw [HR.out] <;> rfl, HB2.out⟩
  | true =>
   have HQ1 := Lib.hid hq1
   rw [hq1] at C2
   clear hq1
   go_wp2_with (go_at_call 61; refine C2.out.mono ?_)
   clear cX0 cX1 ltX cY0 cY1 ltY
   rintro e2 w2 ⟨rfl, hb2⟩
   have HB2 := Lib.hid (HB1.out.trans (hb2.mono HB1.out.size))
   have hX2 := (hb2.block X (Array.getElem?_eq_some_iff.1 HX1.out).1).trans HX1.out
   obtain ⟨cX0, cX1⟩ := row2_ hX2
   have ltX : X < w2.heap.size := (Array.getElem?_eq_some_iff.1 hX2).1
   have HX2 := Lib.hid hX2
   clear hX2
   have hY2 := (hb2.block Y (Array.getElem?_eq_some_iff.1 HY1.out).1).trans HY1.out
   obtain ⟨cY0, cY1⟩ := row2_ hY2
   have ltY : Y < w2.heap.size := (Array.getElem?_eq_some_iff.1 hY2).1
   have HY2 := Lib.hid hY2
   clear hY2
   clear hb2 C2
   have HR : Hid (sameT x y = true) := by show _ = _; unfold sameT; simp [HQ0.out, HQ1.out]
   go_wp2_with fail
   rw [← HPP.out]
   exact ⟨by rw [HR.out] <;> rfl, HB2.out⟩
end Go.Proofs.YtbdllefnghddcaaGreatDoor
