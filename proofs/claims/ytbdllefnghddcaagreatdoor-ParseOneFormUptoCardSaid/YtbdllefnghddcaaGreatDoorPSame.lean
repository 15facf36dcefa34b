/- PARSE: when two trees are the same, places aside, in plain Lean. ROWS: two boxes made in one region. PARSE: Same (the program's), its smaller parts. PARSE: Same (the program's): wraps and routes. -/
import Derived.Test.YtbdllefnghddcaaGreatDoorPFitP
import Derived.WalkKit
import Derived.ProofKit
import Derived.Test.YtbdllefnghddcaaGreatDoorProg
import Derived.Test.YtbdllefnghddcaaGreatDoorParseFitH
import Derived.Test.YtbdllefnghddcaaGreatDoorPMem
namespace Go.Proofs.YtbdllefnghddcaaGreatDoor
section
open Go

def eqL {α β : Type} (p : α → β → Bool) (xs : List α) (ys : List β) : Bool := decide (xs.length = ys.length) && (xs.zip ys).all fun z => p z.1 z.2
mutual
def sameW : Wt → Wt → Bool
 | .mk op num l, .mk op2 num2 l2 => decide (op = op2) && (decide (num = num2) && (decide (l.length = l2.length) && sameWL l l2))
def sameWL : List Wt → List Wt → Bool
 | x :: xs, y :: ys => sameW x y && sameWL xs ys
 | [], _ => true
 | _ :: _, [] => true
end
theorem sameWL_zip : ∀ xs ys : List Wt, sameWL xs ys = (xs.zip ys).all fun z => sameW z.1 z.2
 | [], ys => by rw [sameWL]; rfl
 | x :: xs, [] => by rw [sameWL]; rfl
 | x :: xs, y :: ys => by rw [sameWL, sameWL_zip xs ys]; rfl
theorem sameW_eq (a b : Wt) : sameW a b = (decide (a.op = b.op) && (decide (a.num = b.num) && eqL sameW a.l b.l)) := by
 obtain ⟨op, num, l⟩ := a
 obtain ⟨op2, num2, l2⟩ := b
 rw [sameW, sameWL_zip]
 rfl
def sameU (a b : List Us) : Bool := eqL (fun u v => decide (u.name = v.name)) a b
def sameNum (a b : List Int) : Bool := eqL (fun u v => decide (u = v)) a b
def sameC (a b : CoreT) : Bool := decide (a.word = b.word) && (decide (a.has = b.has) && (decide (a.minus = b.minus) && (decide (a.num = b.num) && sameU a.caps b.caps)))
def sameX (a b : WrapT) : Bool := decide (a.opn = b.opn) && (decide (a.word = b.word) && (decide (a.sub = b.sub) && (sameNum a.nums b.nums && (sameU a.caps b.caps && (decide (a.when_ = b.when_) && sameW a.want b.want)))))
def sameH (a b : HandT) : Bool := decide (a.name = b.name) && (decide (a.of_.name = b.of_.name) && (sameC a.core b.core && (eqL sameX a.wraps b.wraps && (decide (a.room = b.room) && (decide (a.inbox = b.inbox) && (decide (a.drop.name = b.drop.name) && sameU a.after b.after))))))
def sameR (a b : RouteT) : Bool := decide (a.filter.name = b.filter.name) && (decide (a.when_ = b.when_) && (decide (a.els = b.els) && (sameW a.want b.want && decide (a.to.name = b.to.name))))
def sameT (a b : TreeT) : Bool := eqL sameH a.hands b.hands && eqL sameR a.routes b.routes
theorem eqL_refl {α : Type} {p : α → α → Bool} : ∀ l : List α, (∀ x ∈ l, p x x = true) → eqL p l l = true := by
 intro l h
 unfold eqL
 rw [decide_eq_true rfl, Bool.true_and, List.all_eq_true]
 intro z hz
 obtain ⟨i, hi⟩ := List.getElem?_of_mem hz
 rw [List.getElem?_zip_eq_some] at hi
 have e := hi.1.symm.trans hi.2
 injection e with e
 rw [← e]
 exact h _ (List.mem_of_getElem? hi.1)
theorem sameU_refl (l : List Us) : sameU l l = true := eqL_refl l fun _ _ => decide_eq_true rfl
theorem sameNum_refl (l : List Int) : sameNum l l = true := eqL_refl l fun _ _ => decide_eq_true rfl
mutual
theorem sameW_refl : ∀ a : Wt, sameW a a = true
 | .mk op num l => by rw [sameW, decide_eq_true rfl, decide_eq_true rfl, decide_eq_true rfl, sameWL_refl l]; rfl
theorem sameWL_refl : ∀ l : List Wt, sameWL l l = true
 | [] => by rw [sameWL]
 | x :: xs => by rw [sameWL, sameW_refl x, sameWL_refl xs]; rfl
end
theorem sameX_refl (a : WrapT) : sameX a a = true := by
 simp only [sameX, decide_true, Bool.true_and, sameU_refl, sameW_refl, sameNum_refl]
theorem sameT_refl (t : TreeT) : sameT t t = true := by
 unfold sameT
 rw [eqL_refl, eqL_refl]
 ·rfl
 ·intro x _
  simp only [sameR, decide_true, sameW_refl, Bool.and_self]
 ·intro x _
  simp only [sameH, sameC, decide_true, sameU_refl, eqL_refl x.wraps fun x _ => sameX_refl x, Bool.and_self]
theorem eqL_len {α β : Type} {p : α → β → Bool} {xs : List α} {ys : List β} (h : ¬ xs.length = ys.length) : eqL p xs ys = false := by
 unfold eqL; rw [decide_eq_false h]; rfl
theorem eqL_at {α β : Type} {p : α → β → Bool} {xs : List α} {ys : List β} {j : Nat} {x : α} {y : β} (hx : xs[j]? = some x) (hy : ys[j]? = some y) (h : p x y = false) : eqL p xs ys = false := by
 unfold eqL
 have h2 : (xs.zip ys).all (fun z => p z.1 z.2) = false := by
  cases hc : (xs.zip ys).all (fun z => p z.1 z.2) with
  | false => rfl
  | true =>
   have h3 := (List.all_eq_true.1 hc) (x, y) (List.mem_of_getElem? (List.getElem?_zip_eq_some.2 ⟨hx, hy⟩ : (xs.zip ys)[j]? = some (x, y)))
   simp only [h] at h3
   cases h3
 rw [h2, Bool.and_false]
def eqTo {α β : Type} (p : α → β → Bool) (xs : List α) (ys : List β) (j : Nat) : Bool := ((xs.take j).zip (ys.take j)).all fun z => p z.1 z.2
theorem eqTo_zero {α β : Type} (p : α → β → Bool) (xs : List α) (ys : List β) : eqTo p xs ys 0 = true := rfl
theorem eqTo_step {α β : Type} {p : α → β → Bool} {xs : List α} {ys : List β} {j : Nat} {x : α} {y : β} (hx : xs[j]? = some x) (hy : ys[j]? = some y) (h0 : eqTo p xs ys j = true) (h : p x y = true) : eqTo p xs ys (j + 1) = true := by
 unfold eqTo at h0 ⊢
 have hxl := (List.getElem?_eq_some_iff.1 hx).1
 have hyl := (List.getElem?_eq_some_iff.1 hy).1
 rw [List.take_add_one, List.take_add_one, hx, hy, List.zip_append (by simp; omega), List.all_append, h0]
 simp [h]
theorem eqTo_all {α β : Type} {p : α → β → Bool} {xs : List α} {ys : List β} (hl : xs.length = ys.length) (h : eqTo p xs ys xs.length = true) : eqL p xs ys = true := by
 unfold eqTo at h
 rw [List.take_length, hl, List.take_length] at h
 unfold eqL
 rw [decide_eq_true hl, h]
 rfl
end
section
open Go Go.RowKit
theorem two_al (w : World) {t : TypeId} (c d : Array Value) : ((w.alloc (.cells c t)).alloc (.cells d t)).drew.heap[w.heap.size]? = some (.cells c t (0, 0)) ∧ ((w.alloc (.cells c t)).alloc (.cells d t)).drew.heap[w.heap.size + 1]? = some (.cells d t (0, 0)) ∧
  (∀ (b : Nat) {r : Option Obj}, b < w.heap.size → w.heap[b]? = r → ((w.alloc (.cells c t)).alloc (.cells d t)).drew.heap[b]? = r) ∧ Below w.heap.size w ((w.alloc (.cells c t)).alloc (.cells d t)).drew := by
 have hb : Below w.heap.size w ((w.alloc (.cells c t)).alloc (.cells d t)) := ((Below.refl _ w).alloc (Nat.le_refl _) _).alloc (by simp) _
 refine ⟨?_, ?_, fun b r hl h => (hb.block b hl).trans h, hb.drew⟩
 ·show ((w.alloc (.cells c t)).alloc (.cells d t)).heap[w.heap.size]? = _
  rw [Below.heap_alloc _ _ _ (by simp)]
  exact heap_alloc_new w _
 ·have h := heap_alloc_new (w.alloc (.cells c t)) (.cells d t)
  rw [World.size_alloc] at h
  exact h
end
section
set_option linter.unusedSimpArgs false
set_option maxHeartbeats 8000000
set_option maxRecDepth 100000
open Go Go.RowKit
attribute [local go_sem ↓] Go.wp_at_zero Go.wp_at_succ

theorem neB {a b : ByteArray} (h : ¬ a = b) : (a.toList == b.toList) = false ∧ (a.toList != b.toList) = true := by
 have h2 : a.data ≠ b.data := fun e => h (by cases a; cases b; simp at e; subst e; rfl)
 have h1 : (a.toList == b.toList) = false := by
  rw [ByteArray.toList_eq, ByteArray.toList_eq, beq_eq_false_iff_ne]
  exact fun e => h2 (Array.toList_inj.1 e)
 exact ⟨h1, by simp [bne, h1]⟩
theorem neO {a b : Bool} (h : ¬ a = b) : (a == b) = false ∧ (a != b) = true := by cases a <;> cases b <;> simp at h ⊢
theorem NumsP.at' {P : Nat → Prop} {w : World} {v : Value} {us : List Int} (h : NumsP P w v us) {j : Nat} {u : Int} (hu : us[j]? = some u) :
  ∃ b o cap, v = .slice (some ⟨b, o, none⟩) us.length cap ∧ P b ∧ b < w.heap.size ∧ w.cell? ⟨b, o + j, none⟩ = some (.int .u64 u) := by
 obtain ⟨h2, p, cap, rfl, h3, h4, h5⟩ := h
 have hj := (List.getElem?_eq_some_iff.1 hu).1
 obtain ⟨b, o, hP, hb, rfl, hc⟩ := h5 (by omega)
 exact ⟨b, o, cap, rfl, hP, hb, hc _ _ (by rw [List.getElem?_map, hu]; rfl)⟩

def nmB (u v : Us) : Bool := decide (u.name = v.name)
theorem sameU_eq (a b : List Us) : sameU a b = eqL nmB a b := rfl
def nuB (u v : Int) : Bool := decide (u = v)
theorem sameNum_eq (a b : List Int) : sameNum a b = eqL nuB a b := rfl
theorem sameuse_any (x y : Us) (W : World)  :
  Calls Tryz.prog 146 #[.agg #[.string x.name, .int .i64 x.pos], .agg #[.string y.name, .int .i64 y.pos]] W (PatPost W (.bool (nmB x y))) := by
 obtain ⟨PP, hPP⟩ : ∃ PP, PatPost W (.bool (nmB x y)) = PP := ⟨_, rfl⟩
 rw [hPP]
 have HPP := Lib.hid hPP
 obtain ⟨X, hX⟩ : ∃ X, W.heap.size = X := ⟨_, rfl⟩
 obtain ⟨v1, hv1⟩ : ∃ v1, W.alloc (.cells #[.string x.name, .int .i64 x.pos] 74) = v1 := ⟨_, rfl⟩
 have hszX := hX
 have hsv1 : v1.heap.size = X + 1 := by rw [← hv1, ← hszX]; simp
 have hbv1 : Below W.heap.size W v1 := by rw [← hv1]; exact (Below.refl _ W).alloc (Nat.le_refl _) _
 have hxv1 := aRow_ hv1 hszX
 have HBv1 : Hid (Below W.heap.size W v1) := hbv1
 have HXe := Lib.hid hX
 have Hv1e := Lib.hid hv1
 have HSX := Lib.hid hsv1
 have HXv1 := Lib.hid hxv1
 clear hX hv1 hszX hsv1 hbv1 hxv1
 obtain ⟨Y, hY⟩ : ∃ Y, X + 1 = Y := ⟨_, rfl⟩
 obtain ⟨v2, hv2⟩ : ∃ v2, v1.alloc (.cells #[.string y.name, .int .i64 y.pos] 74) = v2 := ⟨_, rfl⟩
 have hszY : v1.heap.size = Y := by rw [← hY]; exact HSX.out
 have hsv2 : v2.heap.size = Y + 1 := by rw [← hv2, ← hszY]; simp
 have hbv2 : Below v1.heap.size v1 v2 := by rw [← hv2]; exact (Below.refl _ v1).alloc (Nat.le_refl _) _
 have hxv2 := aRow_ hv2 hszY
 have HB0 := Lib.hid (HBv1.out.trans (hbv2.mono HBv1.out.size))
 have HYe := Lib.hid hY
 have Hv2e := Lib.hid hv2
 have HSY := Lib.hid hsv2
 have HYv2 := Lib.hid hxv2
 have HX0 : Hid (v2.heap[X]? = v1.heap[X]?) := hbv2.block X (by have := HSX.out; omega)
 clear hY hv2 hszY hsv2 hbv2 hxv2
 have HX0 := Lib.hid (HX0.out.trans HXv1.out)
 have HY0 := HYv2
 clear hPP
 go_enter Tryz.func146, Tryz.ntmps146
 go_upto_region 1 with fail
 simp only [HXe.out, Hv1e.out, HSX.out, Hv2e.out, HYe.out]
 obtain ⟨cX0, cX1⟩ := row2_ HX0.out
 have ltX : X < v2.heap.size := (Array.getElem?_eq_some_iff.1 HX0.out).1
 obtain ⟨cY0, cY1⟩ := row2_ HY0.out
 have ltY : Y < v2.heap.size := (Array.getElem?_eq_some_iff.1 HY0.out).1
 by_cases hq0 : x.name = y.name
 ·have HQ0 := Lib.hid (decide_eq_true hq0)
  rw [hq0] at cX0
  clear hq0
  have HR : Hid (nmB x y = true) := by show _ = _; unfold nmB; simp [HQ0.out]
  go_wp2_with fail
  rw [← HPP.out]
  exact ⟨by rw [HR.out] <;> rfl, HB0.out⟩
 ·obtain ⟨n10, n20⟩ := neB hq0
  have HQ0 := Lib.hid (decide_eq_false hq0)
  clear hq0
  have HR : Hid (nmB x y = false) := by show _ = _; unfold nmB; simp [HQ0.out]
  go_wp2_with fail
  rw [← HPP.out]
  exact ⟨by rw [HR.out] <;> rfl, HB0.out⟩
theorem equse_any {W : World} {v v' : Value} {xs ys : List Us} (hV : UsP All W v xs) (hV' : UsP All W v' ys) :
  Calls Tryz.prog 145 #[v, v', .func (.func 146) #[] #[]] W (PatPost W (.bool (eqL nmB xs ys))) := by
 obtain ⟨PP, hPP⟩ : ∃ PP, PatPost W (.bool (eqL nmB xs ys)) = PP := ⟨_, rfl⟩
 rw [hPP]
 have HPP := Lib.hid hPP
 obtain ⟨q, cap, rfl, hn9⟩ := hV.shape
 obtain ⟨q', cap', rfl, hm9⟩ := hV'.shape
 have HV := Lib.hid hV
 have HV' := Lib.hid hV'
 clear hPP hV hV'
 by_cases hl : xs.length = ys.length
 ·have HL := Lib.hid hl
  rw [← hl] at HV' ⊢
  skip
  clear hl
  go_enter Tryz.func145, Tryz.ntmps145
  go_wp2_with fail
  go_loopw [7, 8, 9, 17] (fun s7 s8 s9 s17 wr => ∃ j : Nat, s17 = .int .i64 (j : Nat) ∧ j ≤ xs.length ∧ Hid (eqTo nmB xs ys j = true) ∧ Hid (Below W.heap.size W wr)) (fun _ _ _ i _ => xs.length - (intOf i).toNat)
  case atStart => exact ⟨0, rfl, Nat.zero_le _, eqTo_zero _ _ _, Below.refl _ _⟩
  case round =>
   obtain ⟨j, rfl, hj, HAL, HB⟩ := hrel
   by_cases hlt : j < xs.length
   ·obtain ⟨x, hx⟩ : ∃ x, xs[j]? = some x := ⟨_, List.getElem?_eq_getElem hlt⟩
    obtain ⟨y, hy⟩ : ∃ y, ys[j]? = some y := ⟨_, List.getElem?_eq_getElem (by have := HL.out; omega)⟩
    obtain ⟨ba, oa, capa, e, -, hbla, d0, d1⟩ := HV.out.at hx
    injection e with e e2 e3
    subst e; subst e3; clear e2
    have ya0 := (HB.out.cell (p := ⟨ba, _, none⟩) hbla).trans d0
    have ya1 := (HB.out.cell (p := ⟨ba, _, none⟩) hbla).trans d1
    clear d0 d1
    obtain ⟨X, hX⟩ : ∃ X, wr.heap.size = X := ⟨_, rfl⟩
    obtain ⟨v1, hv1⟩ : ∃ v1, wr.alloc (.cells #[.string x.name, .int .i64 x.pos] 74) = v1 := ⟨_, rfl⟩
    have hszX := hX
    have hsv1 : v1.heap.size = X + 1 := by rw [← hv1, ← hszX]; simp
    have hbv1 : Below wr.heap.size wr v1 := by rw [← hv1]; exact (Below.refl _ wr).alloc (Nat.le_refl _) _
    have hxv1 := aRow_ hv1 hszX
    have HBv1 := Lib.hid (HB.out.trans (hbv1.mono HB.out.size))
    have HXe := Lib.hid hX
    have Hv1e := Lib.hid hv1
    have HSX := Lib.hid hsv1
    have HXv1 := Lib.hid hxv1
    clear hX hv1 hszX hsv1 hbv1 hxv1
    have g0 : (j : Int) < ((xs.length : Nat) : Int) := by omega
    have g00 : (0 : Int) ≤ (j : Int) := by omega
    have HXJ := Lib.hid hx
    clear hx hbla
    go_upto_region 6 with fail
    simp only [HXe.out, Hv1e.out]
    clear ya0 ya1
    obtain ⟨bb, ob, capb, e, -, hblb, d0, d1⟩ := HV'.out.at hy
    injection e with e e2 e3
    subst e; subst e3; clear e2
    have yb0 := (HBv1.out.cell (p := ⟨bb, _, none⟩) hblb).trans d0
    have yb1 := (HBv1.out.cell (p := ⟨bb, _, none⟩) hblb).trans d1
    clear d0 d1
    obtain ⟨Y, hY⟩ : ∃ Y, X + 1 = Y := ⟨_, rfl⟩
    obtain ⟨v2, hv2⟩ : ∃ v2, v1.alloc (.cells #[.string y.name, .int .i64 y.pos] 74) = v2 := ⟨_, rfl⟩
    have hszY : v1.heap.size = Y := by rw [← hY]; exact HSX.out
    have hsv2 : v2.heap.size = Y + 1 := by rw [← hv2, ← hszY]; simp
    have hbv2 : Below v1.heap.size v1 v2 := by rw [← hv2]; exact (Below.refl _ v1).alloc (Nat.le_refl _) _
    have hxv2 := aRow_ hv2 hszY
    have HB0 := Lib.hid (HBv1.out.trans (hbv2.mono HBv1.out.size))
    have HYe := Lib.hid hY
    have Hv2e := Lib.hid hv2
    have HSY := Lib.hid hsv2
    have HYv2 := Lib.hid hxv2
    have HX0 : Hid (v2.heap[X]? = v1.heap[X]?) := hbv2.block X (by have := HSX.out; omega)
    clear hY hv2 hszY hsv2 hbv2 hxv2
    have HX0 := Lib.hid (HX0.out.trans HXv1.out)
    have HY0 := HYv2
    have C := Lib.hid (sameuse_any x y v2)
    have HYJ := Lib.hid hy
    clear hy hblb
    go_upto_region 7 with fail
    simp only [HSX.out, HYe.out, Hv2e.out]
    clear yb0 yb1
    obtain ⟨cX0, cX1⟩ := row2_ HX0.out
    have ltX : X < v2.heap.size := (Array.getElem?_eq_some_iff.1 HX0.out).1
    obtain ⟨cY0, cY1⟩ := row2_ HY0.out
    have ltY : Y < v2.heap.size := (Array.getElem?_eq_some_iff.1 HY0.out).1
    cases hp : nmB x y with
    | false =>
     have HP := Lib.hid hp
     rw [hp] at C
     clear hp
     go_wp2_with (go_at_call 146; refine C.out.mono ?_; rintro e1 w1' ⟨rfl, hb1⟩)
     rw [← HPP.out]
     exact ⟨by rw [eqL_at HXJ.out HYJ.out HP.out] <;> rfl, HB0.out.trans (hb1.mono HB0.out.size)⟩
    | true =>
     have HP := Lib.hid hp
     rw [hp] at C
     clear hp
     go_wp2_with (go_at_call 146; refine C.out.mono ?_; rintro e1 w1' ⟨rfl, hb1⟩)
     go_roundw
     case rel => exact ⟨j + 1, by go_num, by omega, eqTo_step HXJ.out HYJ.out HAL.out HP.out, HB0.out.trans (hb1.mono HB0.out.size)⟩
     case measure => simp [intOf]; omega
   ·obtain rfl : j = xs.length := by omega
    have hjj : ¬ ((xs.length : Nat) : Int) < ((xs.length : Nat) : Int) := by omega
    have HT : Hid (eqL nmB xs ys = true) := eqTo_all HL.out HAL.out
    go_wp2_with fail
    rw [← HPP.out]
    exact ⟨by rw [HT.out] <;> rfl, HB.out⟩
 ·have HT : Hid (eqL nmB xs ys = false) := eqL_len hl
  have hli : ¬ ((xs.length : Nat) : Int) = ((ys.length : Nat) : Int) := by omega
  obtain ⟨l1, l2⟩ := neI hli
  go_enter Tryz.func145, Tryz.ntmps145
  go_wp2_with fail
  rw [← HPP.out]
  exact ⟨by rw [HT.out] <;> rfl, Below.refl _ _⟩
theorem sameuses_any {W : World} {v v' : Value} {xs ys : List Us} (hV : UsP All W v xs) (hV' : UsP All W v' ys) :
  Calls Tryz.prog 106 #[v, v'] W (PatPost W (.bool (sameU xs ys))) := by
 obtain ⟨PP, hPP⟩ : ∃ PP, PatPost W (.bool (sameU xs ys)) = PP := ⟨_, rfl⟩
 rw [hPP]
 have HPP := Lib.hid hPP
 have C := Lib.hid (equse_any hV hV')
 clear hPP hV hV'
 go_enter Tryz.func106, Tryz.ntmps106
 go_wp2_with (go_at_call 145; refine C.out.mono ?_; rintro e1 w1 ⟨rfl, hb1⟩)
 rw [← HPP.out]
 exact ⟨rfl, hb1⟩
theorem eqnum_any {W : World} {v v' : Value} {xs ys : List Int} (hV : NumsP All W v xs) (hV' : NumsP All W v' ys) :
  Calls Tryz.prog 147 #[v, v'] W (PatPost W (.bool (sameNum xs ys))) := by
 rw [sameNum_eq]
 obtain ⟨PP, hPP⟩ : ∃ PP, PatPost W (.bool (eqL nuB xs ys)) = PP := ⟨_, rfl⟩
 rw [hPP]
 have HPP := Lib.hid hPP
 obtain ⟨q, cap, rfl, hn9⟩ := hV.shape
 obtain ⟨q', cap', rfl, hm9⟩ := hV'.shape
 have HV := Lib.hid hV
 have HV' := Lib.hid hV'
 clear hPP hV hV'
 by_cases hl : xs.length = ys.length
 ·have HL := Lib.hid hl
  rw [← hl] at HV' ⊢
  clear hl
  go_enter Tryz.func147, Tryz.ntmps147
  go_wp2_with fail
  go_loopw [5, 13] (fun s5 s13 wr => ∃ j : Nat, s13 = .int .i64 (j : Nat) ∧ j ≤ xs.length ∧ Hid (eqTo nuB xs ys j = true) ∧ Hid (Below W.heap.size W wr)) (fun _ i _ => xs.length - (intOf i).toNat)
  case atStart => exact ⟨0, rfl, Nat.zero_le _, eqTo_zero _ _ _, Below.refl _ _⟩
  case round =>
   obtain ⟨j, rfl, hj, HAL, HB⟩ := hrel
   by_cases hlt : j < xs.length
   ·obtain ⟨x, hx⟩ : ∃ x, xs[j]? = some x := ⟨_, List.getElem?_eq_getElem hlt⟩
    obtain ⟨y, hy⟩ : ∃ y, ys[j]? = some y := ⟨_, List.getElem?_eq_getElem (by have := HL.out; omega)⟩
    obtain ⟨ba, oa, capa, e, -, hbla, d0⟩ := HV.out.at' hx
    injection e with e e2 e3
    subst e; subst e3; clear e2
    have ya0 := (HB.out.cell (p := ⟨ba, _, none⟩) hbla).trans d0
    clear d0
    obtain ⟨bb, ob, capb, e, -, hblb, d0⟩ := HV'.out.at' hy
    injection e with e e2 e3
    subst e; subst e3; clear e2
    have yb0 := (HB.out.cell (p := ⟨bb, _, none⟩) hblb).trans d0
    clear d0
    have g0 : (j : Int) < ((xs.length : Nat) : Int) := by omega
    have g00 : (0 : Int) ≤ (j : Int) := by omega
    have HXJ := Lib.hid hx
    have HYJ := Lib.hid hy
    clear hx hy hbla hblb
    by_cases hp : x = y
    ·have HP : Hid (nuB x y = true) := decide_eq_true hp
     rw [hp] at ya0
     clear hp
     go_wp2
     go_quiet (fail)
     go_wp2
     go_roundw
     case rel => exact ⟨j + 1, by go_num, by omega, eqTo_step HXJ.out HYJ.out HAL.out HP.out, below_drewN HB.out _⟩
     case measure => simp [intOf]; omega
    ·have HP : Hid (nuB x y = false) := decide_eq_false hp
     obtain ⟨n1, n2⟩ := neI hp
     clear hp
     go_wp2
     go_quiet (fail)
     go_wp2
     rw [← HPP.out]
     exact ⟨by rw [eqL_at HXJ.out HYJ.out HP.out] <;> rfl, below_drewN HB.out _⟩
   ·obtain rfl : j = xs.length := by omega
    have hjj : ¬ ((xs.length : Nat) : Int) < ((xs.length : Nat) : Int) := by omega
    have HT : Hid (eqL nuB xs ys = true) := eqTo_all HL.out HAL.out
    go_wp2_with fail
    rw [← HPP.out]
    exact ⟨by rw [HT.out] <;> rfl, HB.out⟩
 ·have HT : Hid (eqL nuB xs ys = false) := eqL_len hl
  have hli : ¬ ((xs.length : Nat) : Int) = ((ys.length : Nat) : Int) := by omega
  obtain ⟨l1, l2⟩ := neI hli
  go_enter Tryz.func147, Tryz.ntmps147
  go_wp2_with fail
  rw [← HPP.out]
  exact ⟨by rw [HT.out] <;> rfl, Below.refl _ _⟩
theorem WtP.le {P : Nat → Prop} {w : World} {k : Nat} {a0 a1 : Value} {p : Option Addr} {n cap : Nat} {t : Wt} (h : WtP P w (k + 1) [a0, a1, .slice p n cap] t) : t.l.length ≤ 9223372036854775807 := by
 obtain ⟨op, num, l⟩ := t
 obtain ⟨p', cap', -, h2, h3, -⟩ := h
 exact (show l.length ≤ _ by omega)
theorem eqwant_of (k k' : Nat) (ih : ∀ (x y : Wt) (W : World) (qa qb : Option Addr) (ma mb : Nat), WtP All W k [.int .i64 x.op, .int .i64 x.num, .slice qa x.l.length ma] x → WtP All W k' [.int .i64 y.op, .int .i64 y.num, .slice qb y.l.length mb] y → Calls Tryz.prog 109 #[.agg #[.int .i64 x.op, .int .i64 x.num, .slice qa x.l.length ma], .agg #[.int .i64 y.op, .int .i64 y.num, .slice qb y.l.length mb]] W (PatPost W (.bool (sameW x y)))) (s t : Wt) (W : World) {a0 a1 a0' a1' : Value} {q q' : Option Addr} {cap cap' : Nat} (hV : WtP All W (k + 1) [a0, a1, .slice q s.l.length cap] s) (hV' : WtP All W (k' + 1) [a0', a1', .slice q' t.l.length cap'] t) :
  Calls Tryz.prog 148 #[.slice q s.l.length cap, .slice q' t.l.length cap', .func (.func 109) #[] #[]] W (PatPost W (.bool (eqL sameW s.l t.l))) := by
 obtain ⟨PP, hPP⟩ : ∃ PP, PatPost W (.bool (eqL sameW s.l t.l)) = PP := ⟨_, rfl⟩
 rw [hPP]
 have HPP := Lib.hid hPP
 have hn9 := hV.le
 have hm9 := hV'.le
 have IH := Lib.hid ih
 clear ih
 have HV := Lib.hid hV
 have HV' := Lib.hid hV'
 clear hPP hV hV'
 by_cases hl : s.l.length = t.l.length
 ·have HL := Lib.hid hl
  rw [← hl] at HV' ⊢
  skip
  clear hl
  go_enter Tryz.func148, Tryz.ntmps148
  go_wp2_with fail
  go_loopw [7, 8, 9, 17] (fun s7 s8 s9 s17 wr => ∃ j : Nat, s17 = .int .i64 (j : Nat) ∧ j ≤ s.l.length ∧ Hid (eqTo sameW s.l t.l j = true) ∧ Hid (Below W.heap.size W wr)) (fun _ _ _ i _ => s.l.length - (intOf i).toNat)
  case atStart => exact ⟨0, rfl, Nat.zero_le _, eqTo_zero _ _ _, Below.refl _ _⟩
  case round =>
   obtain ⟨j, rfl, hj, HAL, HB⟩ := hrel
   by_cases hlt : j < s.l.length
   ·obtain ⟨x, hx⟩ : ∃ x, s.l[j]? = some x := ⟨_, List.getElem?_eq_getElem hlt⟩
    obtain ⟨y, hy⟩ : ∃ y, t.l[j]? = some y := ⟨_, List.getElem?_eq_getElem (by have := HL.out; omega)⟩
    obtain ⟨ba, oa, q1a, mma, m1a, -, e, hbla, d0, d1, d2, rfl, hRa⟩ := HV.out.part hx
    subst e
    have ya0 := (HB.out.cell (p := ⟨ba, _, none⟩) hbla).trans d0
    have ya1 := (HB.out.cell (p := ⟨ba, _, none⟩) hbla).trans d1
    have ya2 := (HB.out.cell (p := ⟨ba, _, none⟩) hbla).trans d2
    clear d0 d1 d2
    obtain ⟨X, hX⟩ : ∃ X, wr.heap.size = X := ⟨_, rfl⟩
    obtain ⟨v1, hv1⟩ : ∃ v1, wr.alloc (.cells #[.int .i64 x.op, .int .i64 x.num, .slice q1a x.l.length m1a] 41) = v1 := ⟨_, rfl⟩
    have hszX := hX
    have hsv1 : v1.heap.size = X + 1 := by rw [← hv1, ← hszX]; simp
    have hbv1 : Below wr.heap.size wr v1 := by rw [← hv1]; exact (Below.refl _ wr).alloc (Nat.le_refl _) _
    have hxv1 := aRow_ hv1 hszX
    have HBv1 := Lib.hid (HB.out.trans (hbv1.mono HB.out.size))
    have HXe := Lib.hid hX
    have Hv1e := Lib.hid hv1
    have HSX := Lib.hid hsv1
    have HXv1 := Lib.hid hxv1
    clear hX hv1 hszX hsv1 hbv1 hxv1
    have g0 : (j : Int) < ((s.l.length : Nat) : Int) := by omega
    have g00 : (0 : Int) ≤ (j : Int) := by omega
    have HXJ := Lib.hid hx
    clear hx hbla
    go_upto_region 6 with fail
    simp only [HXe.out, Hv1e.out]
    clear ya0 ya1 ya2
    obtain ⟨bb, ob, q1b, mmb, m1b, -, e, hblb, d0, d1, d2, rfl, hRb⟩ := HV'.out.part hy
    subst e
    have yb0 := (HBv1.out.cell (p := ⟨bb, _, none⟩) hblb).trans d0
    have yb1 := (HBv1.out.cell (p := ⟨bb, _, none⟩) hblb).trans d1
    have yb2 := (HBv1.out.cell (p := ⟨bb, _, none⟩) hblb).trans d2
    clear d0 d1 d2
    obtain ⟨Y, hY⟩ : ∃ Y, X + 1 = Y := ⟨_, rfl⟩
    obtain ⟨v2, hv2⟩ : ∃ v2, v1.alloc (.cells #[.int .i64 y.op, .int .i64 y.num, .slice q1b y.l.length m1b] 41) = v2 := ⟨_, rfl⟩
    have hszY : v1.heap.size = Y := by rw [← hY]; exact HSX.out
    have hsv2 : v2.heap.size = Y + 1 := by rw [← hv2, ← hszY]; simp
    have hbv2 : Below v1.heap.size v1 v2 := by rw [← hv2]; exact (Below.refl _ v1).alloc (Nat.le_refl _) _
    have hxv2 := aRow_ hv2 hszY
    have HB0 := Lib.hid (HBv1.out.trans (hbv2.mono HBv1.out.size))
    have HYe := Lib.hid hY
    have Hv2e := Lib.hid hv2
    have HSY := Lib.hid hsv2
    have HYv2 := Lib.hid hxv2
    have HX0 : Hid (v2.heap[X]? = v1.heap[X]?) := hbv2.block X (by have := HSX.out; omega)
    clear hY hv2 hszY hsv2 hbv2 hxv2
    have HX0 := Lib.hid (HX0.out.trans HXv1.out)
    have HY0 := HYv2
    have C := Lib.hid (IH.out x y v2 _ _ _ _ (hRa.kept (All.kept HB0.out)) (hRb.kept (All.kept HB0.out)))
    have HYJ := Lib.hid hy
    clear hy hblb
    go_upto_region 7 with fail
    simp only [HSX.out, HYe.out, Hv2e.out]
    clear yb0 yb1 yb2
    obtain ⟨cX0, cX1, cX2⟩ := row3_ HX0.out
    have ltX : X < v2.heap.size := (Array.getElem?_eq_some_iff.1 HX0.out).1
    obtain ⟨cY0, cY1, cY2⟩ := row3_ HY0.out
    have ltY : Y < v2.heap.size := (Array.getElem?_eq_some_iff.1 HY0.out).1
    cases hp : sameW x y with
    | false =>
     have HP := Lib.hid hp
     rw [hp] at C
     clear hp
     go_wp2_with (go_at_call 109; refine C.out.mono ?_; rintro e1 w1' ⟨rfl, hb1⟩)
     rw [← HPP.out]
     exact ⟨by rw [eqL_at HXJ.out HYJ.out HP.out] <;> rfl, HB0.out.trans (hb1.mono HB0.out.size)⟩
    | true =>
     have HP := Lib.hid hp
     rw [hp] at C
     clear hp
     go_wp2_with (go_at_call 109; refine C.out.mono ?_; rintro e1 w1' ⟨rfl, hb1⟩)
     go_roundw
     case rel => exact ⟨j + 1, by go_num, by omega, eqTo_step HXJ.out HYJ.out HAL.out HP.out, HB0.out.trans (hb1.mono HB0.out.size)⟩
     case measure => simp [intOf]; omega
   ·obtain rfl : j = s.l.length := by omega
    have hjj : ¬ ((s.l.length : Nat) : Int) < ((s.l.length : Nat) : Int) := by omega
    have HT : Hid (eqL sameW s.l t.l = true) := eqTo_all HL.out HAL.out
    go_wp2_with fail
    rw [← HPP.out]
    exact ⟨by rw [HT.out] <;> rfl, HB.out⟩
 ·have HT : Hid (eqL sameW s.l t.l = false) := eqL_len hl
  have hli : ¬ ((s.l.length : Nat) : Int) = ((t.l.length : Nat) : Int) := by omega
  obtain ⟨l1, l2⟩ := neI hli
  go_enter Tryz.func148, Tryz.ntmps148
  go_wp2_with fail
  rw [← HPP.out]
  exact ⟨by rw [HT.out] <;> rfl, Below.refl _ _⟩
theorem samewant_any : ∀ (k k' : Nat), ∀ (x y : Wt) (W : World) (qa qb : Option Addr) (ma mb : Nat), WtP All W k [.int .i64 x.op, .int .i64 x.num, .slice qa x.l.length ma] x → WtP All W k' [.int .i64 y.op, .int .i64 y.num, .slice qb y.l.length mb] y → Calls Tryz.prog 109 #[.agg #[.int .i64 x.op, .int .i64 x.num, .slice qa x.l.length ma], .agg #[.int .i64 y.op, .int .i64 y.num, .slice qb y.l.length mb]] W (PatPost W (.bool (sameW x y)))
 | 0, _, x, y, W, qa, qb, ma, mb, h, _ => h.elim
 | _ + 1, 0, x, y, W, qa, qb, ma, mb, _, h => h.elim
 | k + 1, k' + 1, x, y, W, qa, qb, ma, mb, hD, hD' => by
  obtain ⟨PP, hPP⟩ : ∃ PP, PatPost W (.bool (sameW x y)) = PP := ⟨_, rfl⟩
  rw [hPP]
  have HPP := Lib.hid hPP
  obtain ⟨X, hX⟩ : ∃ X, W.heap.size = X := ⟨_, rfl⟩
  obtain ⟨v1, hv1⟩ : ∃ v1, W.alloc (.cells #[.int .i64 x.op, .int .i64 x.num, .slice qa x.l.length ma] 41) = v1 := ⟨_, rfl⟩
  have hszX := hX
  have hsv1 : v1.heap.size = X + 1 := by rw [← hv1, ← hszX]; simp
  have hbv1 : Below W.heap.size W v1 := by rw [← hv1]; exact (Below.refl _ W).alloc (Nat.le_refl _) _
  have hxv1 := aRow_ hv1 hszX
  have HBv1 : Hid (Below W.heap.size W v1) := hbv1
  have HXe := Lib.hid hX
  have Hv1e := Lib.hid hv1
  have HSX := Lib.hid hsv1
  have HXv1 := Lib.hid hxv1
  clear hX hv1 hszX hsv1 hbv1 hxv1
  obtain ⟨Y, hY⟩ : ∃ Y, X + 1 = Y := ⟨_, rfl⟩
  obtain ⟨v2, hv2⟩ : ∃ v2, v1.alloc (.cells #[.int .i64 y.op, .int .i64 y.num, .slice qb y.l.length mb] 41) = v2 := ⟨_, rfl⟩
  have hszY : v1.heap.size = Y := by rw [← hY]; exact HSX.out
  have hsv2 : v2.heap.size = Y + 1 := by rw [← hv2, ← hszY]; simp
  have hbv2 : Below v1.heap.size v1 v2 := by rw [← hv2]; exact (Below.refl _ v1).alloc (Nat.le_refl _) _
  have hxv2 := aRow_ hv2 hszY
  have HB0 := Lib.hid (HBv1.out.trans (hbv2.mono HBv1.out.size))
  have HYe := Lib.hid hY
  have Hv2e := Lib.hid hv2
  have HSY := Lib.hid hsv2
  have HYv2 := Lib.hid hxv2
  have HX0 : Hid (v2.heap[X]? = v1.heap[X]?) := hbv2.block X (by have := HSX.out; omega)
  clear hY hv2 hszY hsv2 hbv2 hxv2
  have HX0 := Lib.hid (HX0.out.trans HXv1.out)
  have HY0 := HYv2
  have HDA := Lib.hid hD
  have HDB := Lib.hid hD'
  clear hPP hD hD'
  go_enter Tryz.func109, Tryz.ntmps109
  go_upto_region 1 with fail
  simp only [HXe.out, Hv1e.out, HSX.out, Hv2e.out, HYe.out]
  obtain ⟨cX0, cX1, cX2⟩ := row3_ HX0.out
  have ltX : X < v2.heap.size := (Array.getElem?_eq_some_iff.1 HX0.out).1
  obtain ⟨cY0, cY1, cY2⟩ := row3_ HY0.out
  have ltY : Y < v2.heap.size := (Array.getElem?_eq_some_iff.1 HY0.out).1
  by_cases hq0 : x.op = y.op
  ·have HQ0 := Lib.hid (decide_eq_true hq0)
   rw [hq0] at cX0
   clear hq0
   by_cases hq1 : x.num = y.num
   ·have HQ1 := Lib.hid (decide_eq_true hq1)
    rw [hq1] at cX1
    clear hq1
    have C1 := Lib.hid (eqwant_of k k' (samewant_any k k') x y v2 (HDA.out.kept (All.kept HB0.out)) (HDB.out.kept (All.kept HB0.out)))
    cases hq2 : eqL sameW x.l y.l with
    | false =>
     have HQ2 := Lib.hid hq2
     rw [hq2] at C1
     clear hq2
     go_wp2_with (go_at_call 148; refine C1.out.mono ?_)
     clear cX0 cX1 cX2 ltX cY0 cY1 cY2 ltY
     rintro e1 w1 ⟨rfl, hb1⟩
     have HB1 := Lib.hid (HB0.out.trans (hb1.mono HB0.out.size))
     have hX1 := (hb1.block X (Array.getElem?_eq_some_iff.1 HX0.out).1).trans HX0.out
     obtain ⟨cX0, cX1, cX2⟩ := row3_ hX1
     have ltX : X < w1.heap.size := (Array.getElem?_eq_some_iff.1 hX1).1
     have HX1 := Lib.hid hX1
     clear hX1
     have hY1 := (hb1.block Y (Array.getElem?_eq_some_iff.1 HY0.out).1).trans HY0.out
     obtain ⟨cY0, cY1, cY2⟩ := row3_ hY1
     have ltY : Y < w1.heap.size := (Array.getElem?_eq_some_iff.1 hY1).1
     have HY1 := Lib.hid hY1
     clear hY1
     clear hb1 C1
     have HR : Hid (sameW x y = false) := by show _ = _; rw [sameW_eq]; simp [HQ0.out, HQ1.out, HQ2.out]
     go_wp2_with fail
     rw [← HPP.out]
     exact ⟨by rw [HR.out] <;> rfl, HB1.out⟩
    | true =>
     have HQ2 := Lib.hid hq2
     rw [hq2] at C1
     clear hq2
     go_wp2_with (go_at_call 148; refine C1.out.mono ?_)
     clear cX0 cX1 cX2 ltX cY0 cY1 cY2 ltY
     rintro e1 w1 ⟨rfl, hb1⟩
     have HB1 := Lib.hid (HB0.out.trans (hb1.mono HB0.out.size))
     have hX1 := (hb1.block X (Array.getElem?_eq_some_iff.1 HX0.out).1).trans HX0.out
     obtain ⟨cX0, cX1, cX2⟩ := row3_ hX1
     have ltX : X < w1.heap.size := (Array.getElem?_eq_some_iff.1 hX1).1
     have HX1 := Lib.hid hX1
     clear hX1
     have hY1 := (hb1.block Y (Array.getElem?_eq_some_iff.1 HY0.out).1).trans HY0.out
     obtain ⟨cY0, cY1, cY2⟩ := row3_ hY1
     have ltY : Y < w1.heap.size := (Array.getElem?_eq_some_iff.1 hY1).1
     have HY1 := Lib.hid hY1
     clear hY1
     clear hb1 C1
     have HR : Hid (sameW x y = true) := by show _ = _; rw [sameW_eq]; simp [HQ0.out, HQ1.out, HQ2.out]
     go_wp2_with fail
     rw [← HPP.out]
     exact ⟨by rw [HR.out] <;> rfl, HB1.out⟩
   ·obtain ⟨n11, n21⟩ := neI hq1
    have HQ1 := Lib.hid (decide_eq_false hq1)
    clear hq1
    have HR : Hid (sameW x y = false) := by show _ = _; rw [sameW_eq]; simp [HQ0.out, HQ1.out]
    go_wp2_with fail
    rw [← HPP.out]
    exact ⟨by rw [HR.out] <;> rfl, HB0.out⟩
  ·obtain ⟨n10, n20⟩ := neI hq0
   have HQ0 := Lib.hid (decide_eq_false hq0)
   clear hq0
   have HR : Hid (sameW x y = false) := by show _ = _; rw [sameW_eq]; simp [HQ0.out]
   go_wp2_with fail
   rw [← HPP.out]
   exact ⟨by rw [HR.out] <;> rfl, HB0.out⟩
end
section
set_option linter.unusedSimpArgs false
set_option maxHeartbeats 8000000
set_option maxRecDepth 100000
open Go Go.RowKit
attribute [local go_sem ↓] Go.wp_at_zero Go.wp_at_succ

theorem samewrap_any (x y : WrapT) (W : World) (k k' : Nat) {cs cs' : List Value} (hRa : WrapP All W k cs x) (hRb : WrapP All W k' cs' y) :
  Calls Tryz.prog 108 #[.agg cs.toArray, .agg cs'.toArray] W (PatPost W (.bool (sameX x y))) := by
 obtain ⟨PP, hPP⟩ : ∃ PP, PatPost W (.bool (sameX x y)) = PP := ⟨_, rfl⟩
 rw [hPP]
 have HPP := Lib.hid hPP
 have hR0a := hRa
 obtain ⟨v1a, u1a, w0a, w1a, w2a, rfl, hnumsa, hcapsa, hwanta⟩ := hR0a
 obtain ⟨k1a, q1a, m1a, -, ewa⟩ := hwanta.form
 injection ewa with ew0a ewa
 injection ewa with ew1a ewa
 injection ewa with ew2a
 subst ew0a; subst ew1a; subst ew2a
 obtain ⟨nqa, nca, rfl, -⟩ := NumsP.shape hnumsa
 obtain ⟨uqa, uca, rfl, -⟩ := UsP.shape hcapsa
 have hR0b := hRb
 obtain ⟨v1b, u1b, w0b, w1b, w2b, rfl, hnumsb, hcapsb, hwantb⟩ := hR0b
 obtain ⟨k1b, q1b, m1b, -, ewb⟩ := hwantb.form
 injection ewb with ew0b ewb
 injection ewb with ew1b ewb
 injection ewb with ew2b
 subst ew0b; subst ew1b; subst ew2b
 obtain ⟨nqb, ncb, rfl, -⟩ := NumsP.shape hnumsb
 obtain ⟨uqb, ucb, rfl, -⟩ := UsP.shape hcapsb
 obtain ⟨X, hX⟩ : ∃ X, W.heap.size = X := ⟨_, rfl⟩
 obtain ⟨v1, hv1⟩ : ∃ v1, W.alloc (.cells #[.bool x.opn, .string x.word, .string x.sub, .slice nqa x.nums.length nca, .slice uqa x.caps.length uca, .bool x.when_, .int .i64 x.want.op, .int .i64 x.want.num, .slice q1a x.want.l.length m1a, .int .i64 x.pos] 90) = v1 := ⟨_, rfl⟩
 have hszX := hX
 have hsv1 : v1.heap.size = X + 1 := by rw [← hv1, ← hszX]; simp
 have hbv1 : Below W.heap.size W v1 := by rw [← hv1]; exact (Below.refl _ W).alloc (Nat.le_refl _) _
 have hxv1 := aRow_ hv1 hszX
 have HBv1 : Hid (Below W.heap.size W v1) := hbv1
 have HXe := Lib.hid hX
 have Hv1e := Lib.hid hv1
 have HSX := Lib.hid hsv1
 have HXv1 := Lib.hid hxv1
 clear hX hv1 hszX hsv1 hbv1 hxv1
 obtain ⟨Y, hY⟩ : ∃ Y, X + 1 = Y := ⟨_, rfl⟩
 obtain ⟨v2, hv2⟩ : ∃ v2, v1.alloc (.cells #[.bool y.opn, .string y.word, .string y.sub, .slice nqb y.nums.length ncb, .slice uqb y.caps.length ucb, .bool y.when_, .int .i64 y.want.op, .int .i64 y.want.num, .slice q1b y.want.l.length m1b, .int .i64 y.pos] 90) = v2 := ⟨_, rfl⟩
 have hszY : v1.heap.size = Y := by rw [← hY]; exact HSX.out
 have hsv2 : v2.heap.size = Y + 1 := by rw [← hv2, ← hszY]; simp
 have hbv2 : Below v1.heap.size v1 v2 := by rw [← hv2]; exact (Below.refl _ v1).alloc (Nat.le_refl _) _
 have hxv2 := aRow_ hv2 hszY
 have HB0 := Lib.hid (HBv1.out.trans (hbv2.mono HBv1.out.size))
 have HYe := Lib.hid hY
 have Hv2e := Lib.hid hv2
 have HSY := Lib.hid hsv2
 have HYv2 := Lib.hid hxv2
 have HX0 : Hid (v2.heap[X]? = v1.heap[X]?) := hbv2.block X (by have := HSX.out; omega)
 clear hY hv2 hszY hsv2 hbv2 hxv2
 have HX0 := Lib.hid (HX0.out.trans HXv1.out)
 have HY0 := HYv2
 have HNUa := Lib.hid hnumsa
 have HNUb := Lib.hid hnumsb
 have HCAa := Lib.hid hcapsa
 have HCAb := Lib.hid hcapsb
 have HWTa := Lib.hid hwanta
 have HWTb := Lib.hid hwantb
 clear hPP hRa hRb hnumsa hnumsb hcapsa hcapsb hwanta hwantb
 go_enter Tryz.func108, Tryz.ntmps108
 go_upto_region 1 with fail
 simp only [HXe.out, Hv1e.out, HSX.out, Hv2e.out, HYe.out]
 obtain ⟨cX0, cX1, cX2, cX3, cX4, cX5, cX6, cX7, cX8, cX9⟩ := row10_ HX0.out
 have ltX : X < v2.heap.size := (Array.getElem?_eq_some_iff.1 HX0.out).1
 obtain ⟨cY0, cY1, cY2, cY3, cY4, cY5, cY6, cY7, cY8, cY9⟩ := row10_ HY0.out
 have ltY : Y < v2.heap.size := (Array.getElem?_eq_some_iff.1 HY0.out).1
 by_cases hq0 : x.opn = y.opn
 ·have HQ0 := Lib.hid (decide_eq_true hq0)
  rw [hq0] at cX0
  clear hq0
  by_cases hq1 : x.word = y.word
  ·have HQ1 := Lib.hid (decide_eq_true hq1)
   rw [hq1] at cX1
   clear hq1
   by_cases hq2 : x.sub = y.sub
   ·have HQ2 := Lib.hid (decide_eq_true hq2)
    rw [hq2] at cX2
    clear hq2
    have C1 := Lib.hid (eqnum_any (FlP.kept HNUa.out (All.kept HB0.out)) (FlP.kept HNUb.out (All.kept HB0.out)))
    cases hq3 : sameNum x.nums y.nums with
    | false =>
     have HQ3 := Lib.hid hq3
     rw [hq3] at C1
     clear hq3
     go_wp2_with (go_at_call 147; refine C1.out.mono ?_)
     clear cX0 cX1 cX2 cX3 cX4 cX5 cX6 cX7 cX8 cX9 ltX cY0 cY1 cY2 cY3 cY4 cY5 cY6 cY7 cY8 cY9 ltY
     rintro e1 w1 ⟨rfl, hb1⟩
     have HB1 := Lib.hid (HB0.out.trans (hb1.mono HB0.out.size))
     have hX1 := (hb1.block X (Array.getElem?_eq_some_iff.1 HX0.out).1).trans HX0.out
     obtain ⟨cX0, cX1, cX2, cX3, cX4, cX5, cX6, cX7, cX8, cX9⟩ := row10_ hX1
     have ltX : X < w1.heap.size := (Array.getElem?_eq_some_iff.1 hX1).1
     have HX1 := Lib.hid hX1
     clear hX1
     have hY1 := (hb1.block Y (Array.getElem?_eq_some_iff.1 HY0.out).1).trans HY0.out
     obtain ⟨cY0, cY1, cY2, cY3, cY4, cY5, cY6, cY7, cY8, cY9⟩ := row10_ hY1
     have ltY : Y < w1.heap.size := (Array.getElem?_eq_some_iff.1 hY1).1
     have HY1 := Lib.hid hY1
     clear hY1
     clear hb1 C1
     have HR : Hid (sameX x y = false) := by show _ = _; unfold sameX; simp [HQ0.out, HQ1.out, HQ2.out, HQ3.out]
     go_wp2_with fail
     rw [← HPP.out]
     exact ⟨by rw [HR.out] <;> rfl, HB1.out⟩
    | true =>
     have HQ3 := Lib.hid hq3
     rw [hq3] at C1
     clear hq3
     go_wp2_with (go_at_call 147; refine C1.out.mono ?_)
     clear cX0 cX1 cX2 cX3 cX4 cX5 cX6 cX7 cX8 cX9 ltX cY0 cY1 cY2 cY3 cY4 cY5 cY6 cY7 cY8 cY9 ltY
     rintro e1 w1 ⟨rfl, hb1⟩
     have HB1 := Lib.hid (HB0.out.trans (hb1.mono HB0.out.size))
     have hX1 := (hb1.block X (Array.getElem?_eq_some_iff.1 HX0.out).1).trans HX0.out
     obtain ⟨cX0, cX1, cX2, cX3, cX4, cX5, cX6, cX7, cX8, cX9⟩ := row10_ hX1
     have ltX : X < w1.heap.size := (Array.getElem?_eq_some_iff.1 hX1).1
     have HX1 := Lib.hid hX1
     clear hX1
     have hY1 := (hb1.block Y (Array.getElem?_eq_some_iff.1 HY0.out).1).trans HY0.out
     obtain ⟨cY0, cY1, cY2, cY3, cY4, cY5, cY6, cY7, cY8, cY9⟩ := row10_ hY1
     have ltY : Y < w1.heap.size := (Array.getElem?_eq_some_iff.1 hY1).1
     have HY1 := Lib.hid hY1
     clear hY1
     clear hb1 C1
     have C2 := Lib.hid (sameuses_any (FlP.kept HCAa.out (All.kept HB1.out)) (FlP.kept HCAb.out (All.kept HB1.out)))
     cases hq4 : sameU x.caps y.caps with
     | false =>
      have HQ4 := Lib.hid hq4
      rw [hq4] at C2
      clear hq4
      go_wp2_with (go_at_call 106; refine C2.out.mono ?_)
      clear cX0 cX1 cX2 cX3 cX4 cX5 cX6 cX7 cX8 cX9 ltX cY0 cY1 cY2 cY3 cY4 cY5 cY6 cY7 cY8 cY9 ltY
      rintro e2 w2 ⟨rfl, hb2⟩
      have HB2 := Lib.hid (HB1.out.trans (hb2.mono HB1.out.size))
      have hX2 := (hb2.block X (Array.getElem?_eq_some_iff.1 HX1.out).1).trans HX1.out
      obtain ⟨cX0, cX1, cX2, cX3, cX4, cX5, cX6, cX7, cX8, cX9⟩ := row10_ hX2
      have ltX : X < w2.heap.size := (Array.getElem?_eq_some_iff.1 hX2).1
      have HX2 := Lib.hid hX2
      clear hX2
      have hY2 := (hb2.block Y (Array.getElem?_eq_some_iff.1 HY1.out).1).trans HY1.out
      obtain ⟨cY0, cY1, cY2, cY3, cY4, cY5, cY6, cY7, cY8, cY9⟩ := row10_ hY2
      have ltY : Y < w2.heap.size := (Array.getElem?_eq_some_iff.1 hY2).1
      have HY2 := Lib.hid hY2
      clear hY2
      clear hb2 C2
      have HR : Hid (sameX x y = false) := by show _ = _; unfold sameX; simp [HQ0.out, HQ1.out, HQ2.out, HQ3.out, HQ4.out]
      go_wp2_with fail
      rw [← HPP.out]
      exact ⟨by rw [HR.out] <;> rfl, HB2.out⟩
     | true =>
      have HQ4 := Lib.hid hq4
      rw [hq4] at C2
      clear hq4
      go_wp2_with (go_at_call 106; refine C2.out.mono ?_)
      clear cX0 cX1 cX2 cX3 cX4 cX5 cX6 cX7 cX8 cX9 ltX cY0 cY1 cY2 cY3 cY4 cY5 cY6 cY7 cY8 cY9 ltY
      rintro e2 w2 ⟨rfl, hb2⟩
      have HB2 := Lib.hid (HB1.out.trans (hb2.mono HB1.out.size))
      have hX2 := (hb2.block X (Array.getElem?_eq_some_iff.1 HX1.out).1).trans HX1.out
      obtain ⟨cX0, cX1, cX2, cX3, cX4, cX5, cX6, cX7, cX8, cX9⟩ := row10_ hX2
      have ltX : X < w2.heap.size := (Array.getElem?_eq_some_iff.1 hX2).1
      have HX2 := Lib.hid hX2
      clear hX2
      have hY2 := (hb2.block Y (Array.getElem?_eq_some_iff.1 HY1.out).1).trans HY1.out
      obtain ⟨cY0, cY1, cY2, cY3, cY4, cY5, cY6, cY7, cY8, cY9⟩ := row10_ hY2
      have ltY : Y < w2.heap.size := (Array.getElem?_eq_some_iff.1 hY2).1
      have HY2 := Lib.hid hY2
      clear hY2
      clear hb2 C2
      by_cases hq5 : x.when_ = y.when_
      ·have HQ5 := Lib.hid (decide_eq_true hq5)
       rw [hq5] at cX5
       clear hq5
       have C3 := Lib.hid (samewant_any _ _ x.want y.want w2 _ _ _ _ (HWTa.out.kept (All.kept HB2.out)) (HWTb.out.kept (All.kept HB2.out)))
       cases hq6 : sameW x.want y.want with
       | false =>
        have HQ6 := Lib.hid hq6
        rw [hq6] at C3
        clear hq6
        go_wp2_with (go_at_call 109; refine C3.out.mono ?_)
        clear cX0 cX1 cX2 cX3 cX4 cX5 cX6 cX7 cX8 cX9 ltX cY0 cY1 cY2 cY3 cY4 cY5 cY6 cY7 cY8 cY9 ltY
        rintro e3 w3 ⟨rfl, hb3⟩
        have HB3 := Lib.hid (HB2.out.trans (hb3.mono HB2.out.size))
        have hX3 := (hb3.block X (Array.getElem?_eq_some_iff.1 HX2.out).1).trans HX2.out
        obtain ⟨cX0, cX1, cX2, cX3, cX4, cX5, cX6, cX7, cX8, cX9⟩ := row10_ hX3
        have ltX : X < w3.heap.size := (Array.getElem?_eq_some_iff.1 hX3).1
        have HX3 := Lib.hid hX3
        clear hX3
        have hY3 := (hb3.block Y (Array.getElem?_eq_some_iff.1 HY2.out).1).trans HY2.out
        obtain ⟨cY0, cY1, cY2, cY3, cY4, cY5, cY6, cY7, cY8, cY9⟩ := row10_ hY3
        have ltY : Y < w3.heap.size := (Array.getElem?_eq_some_iff.1 hY3).1
        have HY3 := Lib.hid hY3
        clear hY3
        clear hb3 C3
        have HR : Hid (sameX x y = false) := by show _ = _; unfold sameX; simp [HQ0.out, HQ1.out, HQ2.out, HQ3.out, HQ4.out, HQ5.out, HQ6.out]
        go_wp2_with fail
        rw [← HPP.out]
        exact ⟨by rw [HR.out] <;> rfl, HB3.out⟩
       | true =>
        have HQ6 := Lib.hid hq6
        rw [hq6] at C3
        clear hq6
        go_wp2_with (go_at_call 109; refine C3.out.mono ?_)
        clear cX0 cX1 cX2 cX3 cX4 cX5 cX6 cX7 cX8 cX9 ltX cY0 cY1 cY2 cY3 cY4 cY5 cY6 cY7 cY8 cY9 ltY
        rintro e3 w3 ⟨rfl, hb3⟩
        have HB3 := Lib.hid (HB2.out.trans (hb3.mono HB2.out.size))
        have hX3 := (hb3.block X (Array.getElem?_eq_some_iff.1 HX2.out).1).trans HX2.out
        obtain ⟨cX0, cX1, cX2, cX3, cX4, cX5, cX6, cX7, cX8, cX9⟩ := row10_ hX3
        have ltX : X < w3.heap.size := (Array.getElem?_eq_some_iff.1 hX3).1
        have HX3 := Lib.hid hX3
        clear hX3
        have hY3 := (hb3.block Y (Array.getElem?_eq_some_iff.1 HY2.out).1).trans HY2.out
        obtain ⟨cY0, cY1, cY2, cY3, cY4, cY5, cY6, cY7, cY8, cY9⟩ := row10_ hY3
        have ltY : Y < w3.heap.size := (Array.getElem?_eq_some_iff.1 hY3).1
        have HY3 := Lib.hid hY3
        clear hY3
        clear hb3 C3
        have HR : Hid (sameX x y = true) := by show _ = _; unfold sameX; simp [HQ0.out, HQ1.out, HQ2.out, HQ3.out, HQ4.out, HQ5.out, HQ6.out]
        go_wp2_with fail
        rw [← HPP.out]
        exact ⟨by rw [HR.out] <;> rfl, HB3.out⟩
      ·have HQ5 := Lib.hid (decide_eq_false hq5)
       obtain ⟨n15, n25⟩ := neO hq5
       clear hq5
       have HR : Hid (sameX x y = false) := by show _ = _; unfold sameX; simp [HQ0.out, HQ1.out, HQ2.out, HQ3.out, HQ4.out, HQ5.out]
       go_wp2_with fail
       rw [← HPP.out]
       exact ⟨by rw [HR.out] <;> rfl, HB2.out⟩
   ·obtain ⟨n12, n22⟩ := neB hq2
    have HQ2 := Lib.hid (decide_eq_false hq2)
    clear hq2
    have HR : Hid (sameX x y = false) := by show _ = _; unfold sameX; simp [HQ0.out, HQ1.out, HQ2.out]
    go_wp2_with fail
    rw [← HPP.out]
    exact ⟨by rw [HR.out] <;> rfl, HB0.out⟩
  ·obtain ⟨n11, n21⟩ := neB hq1
   have HQ1 := Lib.hid (decide_eq_false hq1)
   clear hq1
   have HR : Hid (sameX x y = false) := by show _ = _; unfold sameX; simp [HQ0.out, HQ1.out]
   go_wp2_with fail
   rw [← HPP.out]
   exact ⟨by rw [HR.out] <;> rfl, HB0.out⟩
 ·have HQ0 := Lib.hid (decide_eq_false hq0)
  obtain ⟨n10, n20⟩ := neO hq0
  clear hq0
  have HR : Hid (sameX x y = false) := by show _ = _; unfold sameX; simp [HQ0.out]
  go_wp2_with fail
  rw [← HPP.out]
  exact ⟨by rw [HR.out] <;> rfl, HB0.out⟩
theorem eqwrap_any {k k' : Nat} {W : World} {v v' : Value} {xs ys : List WrapT} (hV : ListP All W 10 (WrapP All W k) v xs) (hV' : ListP All W 10 (WrapP All W k') v' ys) :
  Calls Tryz.prog 107 #[v, v', .func (.func 108) #[] #[]] W (PatPost W (.bool (eqL sameX xs ys))) := by
 obtain ⟨PP, hPP⟩ : ∃ PP, PatPost W (.bool (eqL sameX xs ys)) = PP := ⟨_, rfl⟩
 rw [hPP]
 have HPP := Lib.hid hPP
 obtain ⟨q, cap, rfl, hn9⟩ := hV.shape
 obtain ⟨q', cap', rfl, hm9⟩ := hV'.shape
 have HV := Lib.hid hV
 have HV' := Lib.hid hV'
 clear hPP hV hV'
 by_cases hl : xs.length = ys.length
 ·have HL := Lib.hid hl
  rw [← hl] at HV' ⊢
  skip
  clear hl
  go_enter Tryz.func107, Tryz.ntmps107
  go_wp2_with fail
  go_loopw [7, 8, 9, 17] (fun s7 s8 s9 s17 wr => ∃ j : Nat, s17 = .int .i64 (j : Nat) ∧ j ≤ xs.length ∧ Hid (eqTo sameX xs ys j = true) ∧ Hid (Below W.heap.size W wr)) (fun _ _ _ i _ => xs.length - (intOf i).toNat)
  case atStart => exact ⟨0, rfl, Nat.zero_le _, eqTo_zero _ _ _, Below.refl _ _⟩
  case round =>
   obtain ⟨j, rfl, hj, HAL, HB⟩ := hrel
   by_cases hlt : j < xs.length
   ·obtain ⟨x, hx⟩ : ∃ x, xs[j]? = some x := ⟨_, List.getElem?_eq_getElem hlt⟩
    obtain ⟨y, hy⟩ : ∃ y, ys[j]? = some y := ⟨_, List.getElem?_eq_getElem (by have := HL.out; omega)⟩
    obtain ⟨ba, oa, capa, csa, e, -, hbla, -, hRa, hc⟩ := HV.out.at hx
    injection e with e e2 e3
    subst e; subst e3; clear e2
    have hR0a := hRa
    obtain ⟨v1a, u1a, w0a, w1a, w2a, rfl, hnumsa, hcapsa, hwanta⟩ := hR0a
    obtain ⟨k1a, q1a, m1a, -, ewa⟩ := hwanta.form
    injection ewa with ew0a ewa
    injection ewa with ew1a ewa
    injection ewa with ew2a
    subst ew0a; subst ew1a; subst ew2a
    obtain ⟨nqa, nca, rfl, -⟩ := NumsP.shape hnumsa
    obtain ⟨uqa, uca, rfl, -⟩ := UsP.shape hcapsa
    have ya0 : wr.cell? ⟨ba, oa + j * 10, none⟩ = some (.bool x.opn) := (HB.out.cell (p := ⟨ba, _, none⟩) hbla).trans (hc 0 _ rfl)
    have ya1 : wr.cell? ⟨ba, oa + j * 10 + 1, none⟩ = some (.string x.word) := (HB.out.cell (p := ⟨ba, _, none⟩) hbla).trans (hc 1 _ rfl)
    have ya2 : wr.cell? ⟨ba, oa + j * 10 + 2, none⟩ = some (.string x.sub) := (HB.out.cell (p := ⟨ba, _, none⟩) hbla).trans (hc 2 _ rfl)
    have ya3 : wr.cell? ⟨ba, oa + j * 10 + 3, none⟩ = some (.slice nqa x.nums.length nca) := (HB.out.cell (p := ⟨ba, _, none⟩) hbla).trans (hc 3 _ rfl)
    have ya4 : wr.cell? ⟨ba, oa + j * 10 + 4, none⟩ = some (.slice uqa x.caps.length uca) := (HB.out.cell (p := ⟨ba, _, none⟩) hbla).trans (hc 4 _ rfl)
    have ya5 : wr.cell? ⟨ba, oa + j * 10 + 5, none⟩ = some (.bool x.when_) := (HB.out.cell (p := ⟨ba, _, none⟩) hbla).trans (hc 5 _ rfl)
    have ya6 : wr.cell? ⟨ba, oa + j * 10 + 6, none⟩ = some (.int .i64 x.want.op) := (HB.out.cell (p := ⟨ba, _, none⟩) hbla).trans (hc 6 _ rfl)
    have ya7 : wr.cell? ⟨ba, oa + j * 10 + 7, none⟩ = some (.int .i64 x.want.num) := (HB.out.cell (p := ⟨ba, _, none⟩) hbla).trans (hc 7 _ rfl)
    have ya8 : wr.cell? ⟨ba, oa + j * 10 + 8, none⟩ = some (.slice q1a x.want.l.length m1a) := (HB.out.cell (p := ⟨ba, _, none⟩) hbla).trans (hc 8 _ rfl)
    have ya9 : wr.cell? ⟨ba, oa + j * 10 + 9, none⟩ = some (.int .i64 x.pos) := (HB.out.cell (p := ⟨ba, _, none⟩) hbla).trans (hc 9 _ rfl)
    clear hc
    obtain ⟨X, hX⟩ : ∃ X, wr.heap.size = X := ⟨_, rfl⟩
    obtain ⟨v1, hv1⟩ : ∃ v1, wr.alloc (.cells #[.bool x.opn, .string x.word, .string x.sub, .slice nqa x.nums.length nca, .slice uqa x.caps.length uca, .bool x.when_, .int .i64 x.want.op, .int .i64 x.want.num, .slice q1a x.want.l.length m1a, .int .i64 x.pos] 90) = v1 := ⟨_, rfl⟩
    have hszX := hX
    have hsv1 : v1.heap.size = X + 1 := by rw [← hv1, ← hszX]; simp
    have hbv1 : Below wr.heap.size wr v1 := by rw [← hv1]; exact (Below.refl _ wr).alloc (Nat.le_refl _) _
    have hxv1 := aRow_ hv1 hszX
    have HBv1 := Lib.hid (HB.out.trans (hbv1.mono HB.out.size))
    have HXe := Lib.hid hX
    have Hv1e := Lib.hid hv1
    have HSX := Lib.hid hsv1
    have HXv1 := Lib.hid hxv1
    clear hX hv1 hszX hsv1 hbv1 hxv1
    have g0 : (j : Int) < ((xs.length : Nat) : Int) := by omega
    have g00 : (0 : Int) ≤ (j : Int) := by omega
    have HXJ := Lib.hid hx
    clear hx hbla
    go_upto_region 6 with fail
    simp only [HXe.out, Hv1e.out]
    clear ya0 ya1 ya2 ya3 ya4 ya5 ya6 ya7 ya8 ya9
    obtain ⟨bb, ob, capb, csb, e, -, hblb, -, hRb, hc⟩ := HV'.out.at hy
    injection e with e e2 e3
    subst e; subst e3; clear e2
    have hR0b := hRb
    obtain ⟨v1b, u1b, w0b, w1b, w2b, rfl, hnumsb, hcapsb, hwantb⟩ := hR0b
    obtain ⟨k1b, q1b, m1b, -, ewb⟩ := hwantb.form
    injection ewb with ew0b ewb
    injection ewb with ew1b ewb
    injection ewb with ew2b
    subst ew0b; subst ew1b; subst ew2b
    obtain ⟨nqb, ncb, rfl, -⟩ := NumsP.shape hnumsb
    obtain ⟨uqb, ucb, rfl, -⟩ := UsP.shape hcapsb
    have yb0 : v1.cell? ⟨bb, ob + j * 10, none⟩ = some (.bool y.opn) := (HBv1.out.cell (p := ⟨bb, _, none⟩) hblb).trans (hc 0 _ rfl)
    have yb1 : v1.cell? ⟨bb, ob + j * 10 + 1, none⟩ = some (.string y.word) := (HBv1.out.cell (p := ⟨bb, _, none⟩) hblb).trans (hc 1 _ rfl)
    have yb2 : v1.cell? ⟨bb, ob + j * 10 + 2, none⟩ = some (.string y.sub) := (HBv1.out.cell (p := ⟨bb, _, none⟩) hblb).trans (hc 2 _ rfl)
    have yb3 : v1.cell? ⟨bb, ob + j * 10 + 3, none⟩ = some (.slice nqb y.nums.length ncb) := (HBv1.out.cell (p := ⟨bb, _, none⟩) hblb).trans (hc 3 _ rfl)
    have yb4 : v1.cell? ⟨bb, ob + j * 10 + 4, none⟩ = some (.slice uqb y.caps.length ucb) := (HBv1.out.cell (p := ⟨bb, _, none⟩) hblb).trans (hc 4 _ rfl)
    have yb5 : v1.cell? ⟨bb, ob + j * 10 + 5, none⟩ = some (.bool y.when_) := (HBv1.out.cell (p := ⟨bb, _, none⟩) hblb).trans (hc 5 _ rfl)
    have yb6 : v1.cell? ⟨bb, ob + j * 10 + 6, none⟩ = some (.int .i64 y.want.op) := (HBv1.out.cell (p := ⟨bb, _, none⟩) hblb).trans (hc 6 _ rfl)
    have yb7 : v1.cell? ⟨bb, ob + j * 10 + 7, none⟩ = some (.int .i64 y.want.num) := (HBv1.out.cell (p := ⟨bb, _, none⟩) hblb).trans (hc 7 _ rfl)
    have yb8 : v1.cell? ⟨bb, ob + j * 10 + 8, none⟩ = some (.slice q1b y.want.l.length m1b) := (HBv1.out.cell (p := ⟨bb, _, none⟩) hblb).trans (hc 8 _ rfl)
    have yb9 : v1.cell? ⟨bb, ob + j * 10 + 9, none⟩ = some (.int .i64 y.pos) := (HBv1.out.cell (p := ⟨bb, _, none⟩) hblb).trans (hc 9 _ rfl)
    clear hc
    obtain ⟨Y, hY⟩ : ∃ Y, X + 1 = Y := ⟨_, rfl⟩
    obtain ⟨v2, hv2⟩ : ∃ v2, v1.alloc (.cells #[.bool y.opn, .string y.word, .string y.sub, .slice nqb y.nums.length ncb, .slice uqb y.caps.length ucb, .bool y.when_, .int .i64 y.want.op, .int .i64 y.want.num, .slice q1b y.want.l.length m1b, .int .i64 y.pos] 90) = v2 := ⟨_, rfl⟩
    have hszY : v1.heap.size = Y := by rw [← hY]; exact HSX.out
    have hsv2 : v2.heap.size = Y + 1 := by rw [← hv2, ← hszY]; simp
    have hbv2 : Below v1.heap.size v1 v2 := by rw [← hv2]; exact (Below.refl _ v1).alloc (Nat.le_refl _) _
    have hxv2 := aRow_ hv2 hszY
    have HB0 := Lib.hid (HBv1.out.trans (hbv2.mono HBv1.out.size))
    have HYe := Lib.hid hY
    have Hv2e := Lib.hid hv2
    have HSY := Lib.hid hsv2
    have HYv2 := Lib.hid hxv2
    have HX0 : Hid (v2.heap[X]? = v1.heap[X]?) := hbv2.block X (by have := HSX.out; omega)
    clear hY hv2 hszY hsv2 hbv2 hxv2
    have HX0 := Lib.hid (HX0.out.trans HXv1.out)
    have HY0 := HYv2
    have C := Lib.hid (samewrap_any x y v2 _ _ (hRa.kept (All.kept HB0.out)) (hRb.kept (All.kept HB0.out)))
    have HYJ := Lib.hid hy
    clear hy hblb
    go_upto_region 7 with fail
    simp only [HSX.out, HYe.out, Hv2e.out]
    clear yb0 yb1 yb2 yb3 yb4 yb5 yb6 yb7 yb8 yb9
    obtain ⟨cX0, cX1, cX2, cX3, cX4, cX5, cX6, cX7, cX8, cX9⟩ := row10_ HX0.out
    have ltX : X < v2.heap.size := (Array.getElem?_eq_some_iff.1 HX0.out).1
    obtain ⟨cY0, cY1, cY2, cY3, cY4, cY5, cY6, cY7, cY8, cY9⟩ := row10_ HY0.out
    have ltY : Y < v2.heap.size := (Array.getElem?_eq_some_iff.1 HY0.out).1
    cases hp : sameX x y with
    | false =>
     have HP := Lib.hid hp
     rw [hp] at C
     clear hp
     go_wp2_with (go_at_call 108; refine C.out.mono ?_; rintro e1 w1' ⟨rfl, hb1⟩)
     rw [← HPP.out]
     exact ⟨by rw [eqL_at HXJ.out HYJ.out HP.out] <;> rfl, HB0.out.trans (hb1.mono HB0.out.size)⟩
    | true =>
     have HP := Lib.hid hp
     rw [hp] at C
     clear hp
     go_wp2_with (go_at_call 108; refine C.out.mono ?_; rintro e1 w1' ⟨rfl, hb1⟩)
     go_roundw
     case rel => exact ⟨j + 1, by go_num, by omega, eqTo_step HXJ.out HYJ.out HAL.out HP.out, HB0.out.trans (hb1.mono HB0.out.size)⟩
     case measure => simp [intOf]; omega
   ·obtain rfl : j = xs.length := by omega
    have hjj : ¬ ((xs.length : Nat) : Int) < ((xs.length : Nat) : Int) := by omega
    have HT : Hid (eqL sameX xs ys = true) := eqTo_all HL.out HAL.out
    go_wp2_with fail
    rw [← HPP.out]
    exact ⟨by rw [HT.out] <;> rfl, HB.out⟩
 ·have HT : Hid (eqL sameX xs ys = false) := eqL_len hl
  have hli : ¬ ((xs.length : Nat) : Int) = ((ys.length : Nat) : Int) := by omega
  obtain ⟨l1, l2⟩ := neI hli
  go_enter Tryz.func107, Tryz.ntmps107
  go_wp2_with fail
  rw [← HPP.out]
  exact ⟨by rw [HT.out] <;> rfl, Below.refl _ _⟩
theorem sameroute_any (x y : RouteT) (W : World) (k k' : Nat) {cs cs' : List Value} (hRa : RouteP All W k cs x) (hRb : RouteP All W k' cs' y) :
  Calls Tryz.prog 62 #[.agg cs.toArray, .agg cs'.toArray] W (PatPost W (.bool (sameR x y))) := by
 obtain ⟨PP, hPP⟩ : ∃ PP, PatPost W (.bool (sameR x y)) = PP := ⟨_, rfl⟩
 rw [hPP]
 have HPP := Lib.hid hPP
 have hR0a := hRa
 obtain ⟨w0a, w1a, w2a, rfl, hwanta⟩ := hR0a
 obtain ⟨k1a, q1a, m1a, -, ewa⟩ := hwanta.form
 injection ewa with ew0a ewa
 injection ewa with ew1a ewa
 injection ewa with ew2a
 subst ew0a; subst ew1a; subst ew2a
 have hR0b := hRb
 obtain ⟨w0b, w1b, w2b, rfl, hwantb⟩ := hR0b
 obtain ⟨k1b, q1b, m1b, -, ewb⟩ := hwantb.form
 injection ewb with ew0b ewb
 injection ewb with ew1b ewb
 injection ewb with ew2b
 subst ew0b; subst ew1b; subst ew2b
 obtain ⟨X, hX⟩ : ∃ X, W.heap.size = X := ⟨_, rfl⟩
 obtain ⟨v1, hv1⟩ : ∃ v1, W.alloc (.cells #[.string x.filter.name, .int .i64 x.filter.pos, .bool x.when_, .int .i64 x.want.op, .int .i64 x.want.num, .slice q1a x.want.l.length m1a, .bool x.els, .string x.to.name, .int .i64 x.to.pos, .int .i64 x.pos] 84) = v1 := ⟨_, rfl⟩
 have hszX := hX
 have hsv1 : v1.heap.size = X + 1 := by rw [← hv1, ← hszX]; simp
 have hbv1 : Below W.heap.size W v1 := by rw [← hv1]; exact (Below.refl _ W).alloc (Nat.le_refl _) _
 have hxv1 := aRow_ hv1 hszX
 have HBv1 : Hid (Below W.heap.size W v1) := hbv1
 have HXe := Lib.hid hX
 have Hv1e := Lib.hid hv1
 have HSX := Lib.hid hsv1
 have HXv1 := Lib.hid hxv1
 clear hX hv1 hszX hsv1 hbv1 hxv1
 obtain ⟨Y, hY⟩ : ∃ Y, X + 1 = Y := ⟨_, rfl⟩
 obtain ⟨v2, hv2⟩ : ∃ v2, v1.alloc (.cells #[.string y.filter.name, .int .i64 y.filter.pos, .bool y.when_, .int .i64 y.want.op, .int .i64 y.want.num, .slice q1b y.want.l.length m1b, .bool y.els, .string y.to.name, .int .i64 y.to.pos, .int .i64 y.pos] 84) = v2 := ⟨_, rfl⟩
 have hszY : v1.heap.size = Y := by rw [← hY]; exact HSX.out
 have hsv2 : v2.heap.size = Y + 1 := by rw [← hv2, ← hszY]; simp
 have hbv2 : Below v1.heap.size v1 v2 := by rw [← hv2]; exact (Below.refl _ v1).alloc (Nat.le_refl _) _
 have hxv2 := aRow_ hv2 hszY
 have HB0 := Lib.hid (HBv1.out.trans (hbv2.mono HBv1.out.size))
 have HYe := Lib.hid hY
 have Hv2e := Lib.hid hv2
 have HSY := Lib.hid hsv2
 have HYv2 := Lib.hid hxv2
 have HX0 : Hid (v2.heap[X]? = v1.heap[X]?) := hbv2.block X (by have := HSX.out; omega)
 clear hY hv2 hszY hsv2 hbv2 hxv2
 have HX0 := Lib.hid (HX0.out.trans HXv1.out)
 have HY0 := HYv2
 have HWTa := Lib.hid hwanta
 have HWTb := Lib.hid hwantb
 clear hPP hRa hRb hwanta hwantb
 go_enter Tryz.func62, Tryz.ntmps62
 go_upto_region 1 with fail
 simp only [HXe.out, Hv1e.out, HSX.out, Hv2e.out, HYe.out]
 obtain ⟨cX0, cX1, cX2, cX3, cX4, cX5, cX6, cX7, cX8, cX9⟩ := row10_ HX0.out
 have ltX : X < v2.heap.size := (Array.getElem?_eq_some_iff.1 HX0.out).1
 obtain ⟨cY0, cY1, cY2, cY3, cY4, cY5, cY6, cY7, cY8, cY9⟩ := row10_ HY0.out
 have ltY : Y < v2.heap.size := (Array.getElem?_eq_some_iff.1 HY0.out).1
 by_cases hq0 : x.filter.name = y.filter.name
 ·have HQ0 := Lib.hid (decide_eq_true hq0)
  rw [hq0] at cX0
  clear hq0
  by_cases hq1 : x.when_ = y.when_
  ·have HQ1 := Lib.hid (decide_eq_true hq1)
   rw [hq1] at cX2
   clear hq1
   by_cases hq2 : x.els = y.els
   ·have HQ2 := Lib.hid (decide_eq_true hq2)
    rw [hq2] at cX6
    clear hq2
    have C1 := Lib.hid (samewant_any _ _ x.want y.want v2 _ _ _ _ (HWTa.out.kept (All.kept HB0.out)) (HWTb.out.kept (All.kept HB0.out)))
    cases hq3 : sameW x.want y.want with
    | false =>
     have HQ3 := Lib.hid hq3
     rw [hq3] at C1
     clear hq3
     go_wp2_with (go_at_call 109; refine C1.out.mono ?_)
     clear cX0 cX1 cX2 cX3 cX4 cX5 cX6 cX7 cX8 cX9 ltX cY0 cY1 cY2 cY3 cY4 cY5 cY6 cY7 cY8 cY9 ltY
     rintro e1 w1 ⟨rfl, hb1⟩
     have HB1 := Lib.hid (HB0.out.trans (hb1.mono HB0.out.size))
     have hX1 := (hb1.block X (Array.getElem?_eq_some_iff.1 HX0.out).1).trans HX0.out
     obtain ⟨cX0, cX1, cX2, cX3, cX4, cX5, cX6, cX7, cX8, cX9⟩ := row10_ hX1
     have ltX : X < w1.heap.size := (Array.getElem?_eq_some_iff.1 hX1).1
     have HX1 := Lib.hid hX1
     clear hX1
     have hY1 := (hb1.block Y (Array.getElem?_eq_some_iff.1 HY0.out).1).trans HY0.out
     obtain ⟨cY0, cY1, cY2, cY3, cY4, cY5, cY6, cY7, cY8, cY9⟩ := row10_ hY1
     have ltY : Y < w1.heap.size := (Array.getElem?_eq_some_iff.1 hY1).1
     have HY1 := Lib.hid hY1
     clear hY1
     clear hb1 C1
     have HR : Hid (sameR x y = false) := by show _ = _; unfold sameR; simp [HQ0.out, HQ1.out, HQ2.out, HQ3.out]
     go_wp2_with fail
     rw [← HPP.out]
     exact ⟨by rw [HR.out] <;> rfl, HB1.out⟩
    | true =>
     have HQ3 := Lib.hid hq3
     rw [hq3] at C1
     clear hq3
     go_wp2_with (go_at_call 109; refine C1.out.mono ?_)
     clear cX0 cX1 cX2 cX3 cX4 cX5 cX6 cX7 cX8 cX9 ltX cY0 cY1 cY2 cY3 cY4 cY5 cY6 cY7 cY8 cY9 ltY
     rintro e1 w1 ⟨rfl, hb1⟩
     have HB1 := Lib.hid (HB0.out.trans (hb1.mono HB0.out.size))
     have hX1 := (hb1.block X (Array.getElem?_eq_some_iff.1 HX0.out).1).trans HX0.out
     obtain ⟨cX0, cX1, cX2, cX3, cX4, cX5, cX6, cX7, cX8, cX9⟩ := row10_ hX1
     have ltX : X < w1.heap.size := (Array.getElem?_eq_some_iff.1 hX1).1
     have HX1 := Lib.hid hX1
     clear hX1
     have hY1 := (hb1.block Y (Array.getElem?_eq_some_iff.1 HY0.out).1).trans HY0.out
     obtain ⟨cY0, cY1, cY2, cY3, cY4, cY5, cY6, cY7, cY8, cY9⟩ := row10_ hY1
     have ltY : Y < w1.heap.size := (Array.getElem?_eq_some_iff.1 hY1).1
     have HY1 := Lib.hid hY1
     clear hY1
     clear hb1 C1
     by_cases hq4 : x.to.name = y.to.name
     ·have HQ4 := Lib.hid (decide_eq_true hq4)
      rw [hq4] at cX7
      clear hq4
      have HR : Hid (sameR x y = true) := by show _ = _; unfold sameR; simp [HQ0.out, HQ1.out, HQ2.out, HQ3.out, HQ4.out]
      go_wp2_with fail
      rw [← HPP.out]
      exact ⟨by rw [HR.out] <;> rfl, HB1.out⟩
     ·obtain ⟨n14, n24⟩ := neB hq4
      have HQ4 := Lib.hid (decide_eq_false hq4)
      clear hq4
      have HR : Hid (sameR x y = false) := by show _ = _; unfold sameR; simp [HQ0.out, HQ1.out, HQ2.out, HQ3.out, HQ4.out]
      go_wp2_with fail
      rw [← HPP.out]
      exact ⟨by rw [HR.out] <;> rfl, HB1.out⟩
   ·have HQ2 := Lib.hid (decide_eq_false hq2)
    obtain ⟨n12, n22⟩ := neO hq2
    clear hq2
    have HR : Hid (sameR x y = false) := by show _ = _; unfold sameR; simp [HQ0.out, HQ1.out, HQ2.out]
    go_wp2_with fail
    rw [← HPP.out]
    exact ⟨by rw [HR.out] <;> rfl, HB0.out⟩
  ·have HQ1 := Lib.hid (decide_eq_false hq1)
   obtain ⟨n11, n21⟩ := neO hq1
   clear hq1
   have HR : Hid (sameR x y = false) := by show _ = _; unfold sameR; simp [HQ0.out, HQ1.out]
   go_wp2_with fail
   rw [← HPP.out]
   exact ⟨by rw [HR.out] <;> rfl, HB0.out⟩
 ·obtain ⟨n10, n20⟩ := neB hq0
  have HQ0 := Lib.hid (decide_eq_false hq0)
  clear hq0
  have HR : Hid (sameR x y = false) := by show _ = _; unfold sameR; simp [HQ0.out]
  go_wp2_with fail
  rw [← HPP.out]
  exact ⟨by rw [HR.out] <;> rfl, HB0.out⟩
theorem eqroute_any {k k' : Nat} {W : World} {v v' : Value} {xs ys : List RouteT} (hV : ListP All W 10 (RouteP All W k) v xs) (hV' : ListP All W 10 (RouteP All W k') v' ys) :
  Calls Tryz.prog 61 #[v, v', .func (.func 62) #[] #[]] W (PatPost W (.bool (eqL sameR xs ys))) := by
 obtain ⟨PP, hPP⟩ : ∃ PP, PatPost W (.bool (eqL sameR xs ys)) = PP := ⟨_, rfl⟩
 rw [hPP]
 have HPP := Lib.hid hPP
 obtain ⟨q, cap, rfl, hn9⟩ := hV.shape
 obtain ⟨q', cap', rfl, hm9⟩ := hV'.shape
 have HV := Lib.hid hV
 have HV' := Lib.hid hV'
 clear hPP hV hV'
 by_cases hl : xs.length = ys.length
 ·have HL := Lib.hid hl
  rw [← hl] at HV' ⊢
  skip
  clear hl
  go_enter Tryz.func61, Tryz.ntmps61
  go_wp2_with fail
  go_loopw [7, 8, 9, 17] (fun s7 s8 s9 s17 wr => ∃ j : Nat, s17 = .int .i64 (j : Nat) ∧ j ≤ xs.length ∧ Hid (eqTo sameR xs ys j = true) ∧ Hid (Below W.heap.size W wr)) (fun _ _ _ i _ => xs.length - (intOf i).toNat)
  case atStart => exact ⟨0, rfl, Nat.zero_le _, eqTo_zero _ _ _, Below.refl _ _⟩
  case round =>
   obtain ⟨j, rfl, hj, HAL, HB⟩ := hrel
   by_cases hlt : j < xs.length
   ·obtain ⟨x, hx⟩ : ∃ x, xs[j]? = some x := ⟨_, List.getElem?_eq_getElem hlt⟩
    obtain ⟨y, hy⟩ : ∃ y, ys[j]? = some y := ⟨_, List.getElem?_eq_getElem (by have := HL.out; omega)⟩
    obtain ⟨ba, oa, capa, csa, e, -, hbla, -, hRa, hc⟩ := HV.out.at hx
    injection e with e e2 e3
    subst e; subst e3; clear e2
    have hR0a := hRa
    obtain ⟨w0a, w1a, w2a, rfl, hwanta⟩ := hR0a
    obtain ⟨k1a, q1a, m1a, -, ewa⟩ := hwanta.form
    injection ewa with ew0a ewa
    injection ewa with ew1a ewa
    injection ewa with ew2a
    subst ew0a; subst ew1a; subst ew2a
    have ya0 : wr.cell? ⟨ba, oa + j * 10, none⟩ = some (.string x.filter.name) := (HB.out.cell (p := ⟨ba, _, none⟩) hbla).trans (hc 0 _ rfl)
    have ya1 : wr.cell? ⟨ba, oa + j * 10 + 1, none⟩ = some (.int .i64 x.filter.pos) := (HB.out.cell (p := ⟨ba, _, none⟩) hbla).trans (hc 1 _ rfl)
    have ya2 : wr.cell? ⟨ba, oa + j * 10 + 2, none⟩ = some (.bool x.when_) := (HB.out.cell (p := ⟨ba, _, none⟩) hbla).trans (hc 2 _ rfl)
    have ya3 : wr.cell? ⟨ba, oa + j * 10 + 3, none⟩ = some (.int .i64 x.want.op) := (HB.out.cell (p := ⟨ba, _, none⟩) hbla).trans (hc 3 _ rfl)
    have ya4 : wr.cell? ⟨ba, oa + j * 10 + 4, none⟩ = some (.int .i64 x.want.num) := (HB.out.cell (p := ⟨ba, _, none⟩) hbla).trans (hc 4 _ rfl)
    have ya5 : wr.cell? ⟨ba, oa + j * 10 + 5, none⟩ = some (.slice q1a x.want.l.length m1a) := (HB.out.cell (p := ⟨ba, _, none⟩) hbla).trans (hc 5 _ rfl)
    have ya6 : wr.cell? ⟨ba, oa + j * 10 + 6, none⟩ = some (.bool x.els) := (HB.out.cell (p := ⟨ba, _, none⟩) hbla).trans (hc 6 _ rfl)
    have ya7 : wr.cell? ⟨ba, oa + j * 10 + 7, none⟩ = some (.string x.to.name) := (HB.out.cell (p := ⟨ba, _, none⟩) hbla).trans (hc 7 _ rfl)
    have ya8 : wr.cell? ⟨ba, oa + j * 10 + 8, none⟩ = some (.int .i64 x.to.pos) := (HB.out.cell (p := ⟨ba, _, none⟩) hbla).trans (hc 8 _ rfl)
    have ya9 : wr.cell? ⟨ba, oa + j * 10 + 9, none⟩ = some (.int .i64 x.pos) := (HB.out.cell (p := ⟨ba, _, none⟩) hbla).trans (hc 9 _ rfl)
    clear hc
    obtain ⟨X, hX⟩ : ∃ X, wr.heap.size = X := ⟨_, rfl⟩
    obtain ⟨v1, hv1⟩ : ∃ v1, wr.alloc (.cells #[.string x.filter.name, .int .i64 x.filter.pos, .bool x.when_, .int .i64 x.want.op, .int .i64 x.want.num, .slice q1a x.want.l.length m1a, .bool x.els, .string x.to.name, .int .i64 x.to.pos, .int .i64 x.pos] 84) = v1 := ⟨_, rfl⟩
    have hszX := hX
    have hsv1 : v1.heap.size = X + 1 := by rw [← hv1, ← hszX]; simp
    have hbv1 : Below wr.heap.size wr v1 := by rw [← hv1]; exact (Below.refl _ wr).alloc (Nat.le_refl _) _
    have hxv1 := aRow_ hv1 hszX
    have HBv1 := Lib.hid (HB.out.trans (hbv1.mono HB.out.size))
    have HXe := Lib.hid hX
    have Hv1e := Lib.hid hv1
    have HSX := Lib.hid hsv1
    have HXv1 := Lib.hid hxv1
    clear hX hv1 hszX hsv1 hbv1 hxv1
    have g0 : (j : Int) < ((xs.length : Nat) : Int) := by omega
    have g00 : (0 : Int) ≤ (j : Int) := by omega
    have HXJ := Lib.hid hx
    clear hx hbla
    go_upto_region 6 with fail
    simp only [HXe.out, Hv1e.out]
    clear ya0 ya1 ya2 ya3 ya4 ya5 ya6 ya7 ya8 ya9
    obtain ⟨bb, ob, capb, csb, e, -, hblb, -, hRb, hc⟩ := HV'.out.at hy
    injection e with e e2 e3
    subst e; subst e3; clear e2
    have hR0b := hRb
    obtain ⟨w0b, w1b, w2b, rfl, hwantb⟩ := hR0b
    obtain ⟨k1b, q1b, m1b, -, ewb⟩ := hwantb.form
    injection ewb with ew0b ewb
    injection ewb with ew1b ewb
    injection ewb with ew2b
    subst ew0b; subst ew1b; subst ew2b
    have yb0 : v1.cell? ⟨bb, ob + j * 10, none⟩ = some (.string y.filter.name) := (HBv1.out.cell (p := ⟨bb, _, none⟩) hblb).trans (hc 0 _ rfl)
    have yb1 : v1.cell? ⟨bb, ob + j * 10 + 1, none⟩ = some (.int .i64 y.filter.pos) := (HBv1.out.cell (p := ⟨bb, _, none⟩) hblb).trans (hc 1 _ rfl)
    have yb2 : v1.cell? ⟨bb, ob + j * 10 + 2, none⟩ = some (.bool y.when_) := (HBv1.out.cell (p := ⟨bb, _, none⟩) hblb).trans (hc 2 _ rfl)
    have yb3 : v1.cell? ⟨bb, ob + j * 10 + 3, none⟩ = some (.int .i64 y.want.op) := (HBv1.out.cell (p := ⟨bb, _, none⟩) hblb).trans (hc 3 _ rfl)
    have yb4 : v1.cell? ⟨bb, ob + j * 10 + 4, none⟩ = some (.int .i64 y.want.num) := (HBv1.out.cell (p := ⟨bb, _, none⟩) hblb).trans (hc 4 _ rfl)
    have yb5 : v1.cell? ⟨bb, ob + j * 10 + 5, none⟩ = some (.slice q1b y.want.l.length m1b) := (HBv1.out.cell (p := ⟨bb, _, none⟩) hblb).trans (hc 5 _ rfl)
    have yb6 : v1.cell? ⟨bb, ob + j * 10 + 6, none⟩ = some (.bool y.els) := (HBv1.out.cell (p := ⟨bb, _, none⟩) hblb).trans (hc 6 _ rfl)
    have yb7 : v1.cell? ⟨bb, ob + j * 10 + 7, none⟩ = some (.string y.to.name) := (HBv1.out.cell (p := ⟨bb, _, none⟩) hblb).trans (hc 7 _ rfl)
    have yb8 : v1.cell? ⟨bb, ob + j * 10 + 8, none⟩ = some (.int .i64 y.to.pos) := (HBv1.out.cell (p := ⟨bb, _, none⟩) hblb).trans (hc 8 _ rfl)
    have yb9 : v1.cell? ⟨bb, ob + j * 10 + 9, none⟩ = some (.int .i64 y.pos) := (HBv1.out.cell (p := ⟨bb, _, none⟩) hblb).trans (hc 9 _ rfl)
    clear hc
    obtain ⟨Y, hY⟩ : ∃ Y, X + 1 = Y := ⟨_, rfl⟩
    obtain ⟨v2, hv2⟩ : ∃ v2, v1.alloc (.cells #[.string y.filter.name, .int .i64 y.filter.pos, .bool y.when_, .int .i64 y.want.op, .int .i64 y.want.num, .slice q1b y.want.l.length m1b, .bool y.els, .string y.to.name, .int .i64 y.to.pos, .int .i64 y.pos] 84) = v2 := ⟨_, rfl⟩
    have hszY : v1.heap.size = Y := by rw [← hY]; exact HSX.out
    have hsv2 : v2.heap.size = Y + 1 := by rw [← hv2, ← hszY]; simp
    have hbv2 : Below v1.heap.size v1 v2 := by rw [← hv2]; exact (Below.refl _ v1).alloc (Nat.le_refl _) _
    have hxv2 := aRow_ hv2 hszY
    have HB0 := Lib.hid (HBv1.out.trans (hbv2.mono HBv1.out.size))
    have HYe := Lib.hid hY
    have Hv2e := Lib.hid hv2
    have HSY := Lib.hid hsv2
    have HYv2 := Lib.hid hxv2
    have HX0 : Hid (v2.heap[X]? = v1.heap[X]?) := hbv2.block X (by have := HSX.out; omega)
    clear hY hv2 hszY hsv2 hbv2 hxv2
    have HX0 := Lib.hid (HX0.out.trans HXv1.out)
    have HY0 := HYv2
    have C := Lib.hid (sameroute_any x y v2 _ _ (hRa.kept (All.kept HB0.out)) (hRb.kept (All.kept HB0.out)))
    have HYJ := Lib.hid hy
    clear hy hblb
    go_upto_region 7 with fail
    simp only [HSX.out, HYe.out, Hv2e.out]
    clear yb0 yb1 yb2 yb3 yb4 yb5 yb6 yb7 yb8 yb9
    obtain ⟨cX0, cX1, cX2, cX3, cX4, cX5, cX6, cX7, cX8, cX9⟩ := row10_ HX0.out
    have ltX : X < v2.heap.size := (Array.getElem?_eq_some_iff.1 HX0.out).1
    obtain ⟨cY0, cY1, cY2, cY3, cY4, cY5, cY6, cY7, cY8, cY9⟩ := row10_ HY0.out
    have ltY : Y < v2.heap.size := (Array.getElem?_eq_some_iff.1 HY0.out).1
    cases hp : sameR x y with
    | false =>
     have HP := Lib.hid hp
     rw [hp] at C
     clear hp
     go_wp2_with (go_at_call 62; refine C.out.mono ?_; rintro e1 w1' ⟨rfl, hb1⟩)
     rw [← HPP.out]
     exact ⟨by rw [eqL_at HXJ.out HYJ.out HP.out] <;> rfl, HB0.out.trans (hb1.mono HB0.out.size)⟩
    | true =>
     have HP := Lib.hid hp
     rw [hp] at C
     clear hp
     go_wp2_with (go_at_call 62; refine C.out.mono ?_; rintro e1 w1' ⟨rfl, hb1⟩)
     go_roundw
     case rel => exact ⟨j + 1, by go_num, by omega, eqTo_step HXJ.out HYJ.out HAL.out HP.out, HB0.out.trans (hb1.mono HB0.out.size)⟩
     case measure => simp [intOf]; omega
   ·obtain rfl : j = xs.length := by omega
    have hjj : ¬ ((xs.length : Nat) : Int) < ((xs.length : Nat) : Int) := by omega
    have HT : Hid (eqL sameR xs ys = true) := eqTo_all HL.out HAL.out
    go_wp2_with fail
    rw [← HPP.out]
    exact ⟨by rw [HT.out] <;> rfl, HB.out⟩
 ·have HT : Hid (eqL sameR xs ys = false) := eqL_len hl
  have hli : ¬ ((xs.length : Nat) : Int) = ((ys.length : Nat) : Int) := by omega
  obtain ⟨l1, l2⟩ := neI hli
  go_enter Tryz.func61, Tryz.ntmps61
  go_wp2_with fail
  rw [← HPP.out]
  exact ⟨by rw [HT.out] <;> rfl, Below.refl _ _⟩
end
end Go.Proofs.YtbdllefnghddcaaGreatDoor
