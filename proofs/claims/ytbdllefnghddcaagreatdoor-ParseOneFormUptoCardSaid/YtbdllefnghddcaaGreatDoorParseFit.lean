/- PARSE: Fit (the program's). -/
import Derived.Test.YtbdllefnghddcaaGreatDoorPName
import Derived.Test.YtbdllefnghddcaaGreatDoorPMem
namespace Go.Proofs.YtbdllefnghddcaaGreatDoor
set_option linter.unusedSimpArgs false
set_option maxHeartbeats 8000000
set_option maxRecDepth 100000
open Go Go.RowKit
attribute [local go_sem ↓] Go.wp_at_zero Go.wp_at_succ

def useB (u : Us) : Bool := nameB u.name
theorem namesB_use (us : List Us) : namesB us = us.all useB := rfl


theorem usenot_any (u : Us) (W : World) (hE : Env W) (hs : u.name.size ≤ 1048577) :
  Calls Tryz.prog 131 #[.agg #[.string u.name, .int .i64 u.pos]] W (PatPost W (.bool (!useB u))) := by
 obtain ⟨PP, hPP⟩ : ∃ PP, PatPost W (.bool (!useB u)) = PP := ⟨_, rfl⟩
 rw [hPP]
 have HPP := Lib.hid hPP
 obtain ⟨WA, hWA⟩ : ∃ WA, W.alloc (.cells #[.string u.name, .int .i64 u.pos] 74) = WA := ⟨_, rfl⟩
 obtain ⟨X, hX⟩ : ∃ X, W.heap.size = X := ⟨_, rfl⟩
 have HBA : Hid (Below W.heap.size W WA) := by rw [← hWA]; exact (Below.refl _ W).alloc (Nat.le_refl _) _
 have hza := aRow_ hWA hX
 have hsa : WA.heap.size = X + 1 := by rw [← hWA, ← hX]; simp
 have lxa : X < WA.heap.size := by omega
 obtain ⟨z0, z1⟩ := row2_ hza
 have HZA := Lib.hid hza
 have HX := Lib.hid hX
 have HWA := Lib.hid hWA
 clear hza hX hWA
 have C := Lib.hid (isname_any u.name WA (hE.below HBA.out) hs)
 clear hPP hsa
 go_enter Tryz.func131, Tryz.ntmps131
 go_upto_region 1 with fail
 rw [HX.out, HWA.out]
 go_wp2_with (go_at_call 40; refine C.out.mono ?_; rintro e1 w1 ⟨rfl, hb1⟩)
 rw [← HPP.out]
 exact ⟨rfl, HBA.out.trans (hb1.mono HBA.out.size)⟩
theorem ixuse_any {W : World} {v : Value} {xs : List Us} (hV : UsP All W v xs) (hE : Env W) (hS : SmU xs) :
  Calls Tryz.prog 158 #[v, .func (.func 131) #[] #[]] W (IxPost W (!xs.all useB)) := by
 obtain ⟨PP, hPP⟩ : ∃ PP, IxPost W (!xs.all useB) = PP := ⟨_, rfl⟩
 rw [hPP]
 have HPP := Lib.hid hPP
 obtain ⟨q, cap, rfl, hn9⟩ := hV.shape
 have HV := Lib.hid hV
 have HE := Lib.hid hE
 have HS := Lib.hid hS
 clear hPP hV hE hS
 go_enter Tryz.func158, Tryz.ntmps158
 go_wp2_with fail
 go_loopw [5, 8] (fun s5 s8 wr => ∃ j : Nat, s8 = .int .i64 (j : Nat) ∧ j ≤ xs.length ∧ Hid ((xs.take j).all useB = true) ∧ Hid (Below W.heap.size W wr)) (fun _ i _ => xs.length - (intOf i).toNat)
 case atStart => exact ⟨0, rfl, Nat.zero_le _, rfl, Below.refl _ _⟩
 case round =>
  obtain ⟨j, rfl, hj, HAL, HB⟩ := hrel
  by_cases hlt : j < xs.length
  ·obtain ⟨x, hx⟩ : ∃ x, xs[j]? = some x := ⟨_, List.getElem?_eq_getElem hlt⟩
   obtain ⟨b, o, cap2, e, -, hbl, d0, d1⟩ := HV.out.at hx
   injection e with e _ e3
   subst e; subst e3
   have y0 := (HB.out.cell (p := ⟨b, _, none⟩) hbl).trans d0
   have y1 := (HB.out.cell (p := ⟨b, _, none⟩) hbl).trans d1
   clear d0 d1
   have C := Lib.hid (usenot_any x wr (HE.out.below HB.out) (HS.out x (List.mem_of_getElem? hx)))
   have g0 : (j : Int) < ((xs.length : Nat) : Int) := by omega
   have g00 : (0 : Int) ≤ (j : Int) := by omega
   have HXJ := Lib.hid hx
   clear hx hbl
   cases hp : useB x with
   | false =>
    have HP := Lib.hid hp
    rw [hp] at C
    clear hp
    go_wp2_with (go_at_call 131; refine C.out.mono ?_; rintro e1 w1' ⟨rfl, hb1⟩)
    rw [← HPP.out]
    refine ⟨(j : Nat), rfl, Iff.intro (fun _ => ?_) (fun _ => by omega), HB.out.trans (hb1.mono HB.out.size)⟩
    rw [all_not HXJ.out HP.out]
    rfl
   | true =>
    have HP := Lib.hid hp
    rw [hp] at C
    clear hp
    go_wp2_with (go_at_call 131; refine C.out.mono ?_; rintro e1 w1' ⟨rfl, hb1⟩)
    go_roundw
    case rel => exact ⟨j + 1, by go_num, by omega, all_step HXJ.out HAL.out HP.out, HB.out.trans (hb1.mono HB.out.size)⟩
    case measure => simp [intOf]; omega
  ·obtain rfl : j = xs.length := by omega
   have hjj : ¬ ((xs.length : Nat) : Int) < ((xs.length : Nat) : Int) := by omega
   have HT : Hid (xs.all useB = true) := by have h := HAL.out; rwa [List.take_length] at h
   go_wp2_with fail
   rw [← HPP.out]
   exact ⟨-1, rfl, Iff.intro (fun h => absurd h (by decide)) (fun h => by (rw [HT.out] at h; cases h)), HB.out⟩
theorem hasuse_any {W : World} {v : Value} {xs : List Us} (hV : UsP All W v xs) (hE : Env W) (hS : SmU xs) :
  Calls Tryz.prog 130 #[v, .func (.func 131) #[] #[]] W (PatPost W (.bool (!xs.all useB))) := by
 obtain ⟨PP, hPP⟩ : ∃ PP, PatPost W (.bool (!xs.all useB)) = PP := ⟨_, rfl⟩
 rw [hPP]
 have HPP := Lib.hid hPP
 have C := Lib.hid (ixuse_any hV hE hS)
 clear hPP hV hE hS
 cases hb : xs.all useB with
 | false =>
  rw [hb] at C HPP
  go_enter Tryz.func130, Tryz.ntmps130
  go_wp2_with (go_at_call 158; refine C.out.mono ?_; rintro e1 w1 ⟨i, rfl, h0, hb1⟩; have h1 : (0 : Int) ≤ i := h0.2 rfl; clear h0)
  rw [← HPP.out]
  exact ⟨rfl, hb1⟩
 | true =>
  rw [hb] at C HPP
  go_enter Tryz.func130, Tryz.ntmps130
  go_wp2_with (go_at_call 158; refine C.out.mono ?_; rintro e1 w1 ⟨i, rfl, h0, hb1⟩; have h1 : ¬ (0 : Int) ≤ i := fun h => absurd (h0.1 h) (by decide); clear h0)
  rw [← HPP.out]
  exact ⟨by simp; omega, hb1⟩
theorem isnames_any {W : World} {v : Value} {us : List Us} (hV : UsP All W v us) (hE : Env W) (hS : SmU us) :
  Calls Tryz.prog 82 #[v] W (PatPost W (.bool (namesB us))) := by
 obtain ⟨PP, hPP⟩ : ∃ PP, PatPost W (.bool (namesB us)) = PP := ⟨_, rfl⟩
 rw [hPP]
 have HPP := Lib.hid hPP
 have C := Lib.hid (hasuse_any hV hE hS)
 clear hPP hV hE hS
 go_enter Tryz.func82, Tryz.ntmps82
 go_wp2_with (go_at_call 130; refine C.out.mono ?_; rintro e1 w1 ⟨rfl, hb1⟩)
 rw [← HPP.out]
 exact ⟨by simp [namesB_use], hb1⟩
theorem empty_any (W : World) (k : Nat) (t : Wt) (op num : Int) (q : Option Addr) (n cap : Nat) (hD : WtP All W k [.int .i64 op, .int .i64 num, .slice q n cap] t) :
  Calls Tryz.prog 86 #[.agg #[.int .i64 op, .int .i64 num, .slice q n cap]] W (PatPost W (.bool (zeroW t))) := by
 obtain ⟨PP, hPP⟩ : ∃ PP, PatPost W (.bool (zeroW t)) = PP := ⟨_, rfl⟩
 rw [hPP]
 have HPP := Lib.hid hPP
 obtain ⟨k, p1, c1, rfl, e⟩ := hD.form
 obtain ⟨op', num', l⟩ := t
 obtain ⟨rfl, rfl, hn0⟩ := hD.top
 have HN : Hid (l.length = n) := hn0
 clear hD e hn0
 obtain ⟨WA, hWA⟩ : ∃ WA, W.alloc (.cells #[.int .i64 op, .int .i64 num, .slice q n cap] 41) = WA := ⟨_, rfl⟩
 obtain ⟨X, hX⟩ : ∃ X, W.heap.size = X := ⟨_, rfl⟩
 have HBA : Hid (Below W.heap.size W WA) := by rw [← hWA]; exact (Below.refl _ W).alloc (Nat.le_refl _) _
 have hza := aRow_ hWA hX
 have hsa : WA.heap.size = X + 1 := by rw [← hWA, ← hX]; simp
 have lxa : X < WA.heap.size := by omega
 obtain ⟨z0, z1, z2⟩ := row3_ hza
 have HZA := Lib.hid hza
 have HX := Lib.hid hX
 have HWA := Lib.hid hWA
 clear hza hX hWA
 clear hPP hsa
 by_cases h1 : op = 0
 ·subst h1
  by_cases h2 : num = 0
  ·subst h2
   by_cases h3 : n = 0
   ·subst h3
    go_enter Tryz.func86, Tryz.ntmps86
    go_upto_region 1 with fail
    rw [HX.out, HWA.out]
    go_wp2_with fail
    rw [← HPP.out]
    exact ⟨by simp [zeroW, Wt.op, Wt.num, Wt.l, HN.out], HBA.out⟩
   ·have h3i : ¬ ((n : Nat) : Int) = 0 := by omega
    obtain ⟨k1, k2⟩ := neI h3i
    go_enter Tryz.func86, Tryz.ntmps86
    go_upto_region 1 with fail
    rw [HX.out, HWA.out]
    go_wp2_with fail
    rw [← HPP.out]
    exact ⟨by simp [zeroW, Wt.op, Wt.num, Wt.l, HN.out, h3], HBA.out⟩
  ·obtain ⟨k1, k2⟩ := neI h2
   go_enter Tryz.func86, Tryz.ntmps86
   go_upto_region 1 with fail
   rw [HX.out, HWA.out]
   go_wp2_with fail
   rw [← HPP.out]
   exact ⟨by simp [zeroW, Wt.op, Wt.num, Wt.l, HN.out, h2], HBA.out⟩
 ·obtain ⟨k1, k2⟩ := neI h1
  go_enter Tryz.func86, Tryz.ntmps86
  go_upto_region 1 with fail
  rw [HX.out, HWA.out]
  go_wp2_with fail
  rw [← HPP.out]
  exact ⟨by simp [zeroW, Wt.op, Wt.num, Wt.l, HN.out, h1], HBA.out⟩
theorem fitwhen_any (W : World) (b : Bool) (k : Nat) (t : Wt) (op num : Int) (q : Option Addr) (n cap : Nat) (hD : WtP All W k [.int .i64 op, .int .i64 num, .slice q n cap] t) :
  Calls Tryz.prog 41 #[.bool b, .agg #[.int .i64 op, .int .i64 num, .slice q n cap]] W (PatPost W (.bool (whenB b t))) := by
 obtain ⟨PP, hPP⟩ : ∃ PP, PatPost W (.bool (whenB b t)) = PP := ⟨_, rfl⟩
 rw [hPP]
 have HPP := Lib.hid hPP
 obtain ⟨WA, hWA⟩ : ∃ WA, W.alloc (.cells #[.int .i64 op, .int .i64 num, .slice q n cap] 41) = WA := ⟨_, rfl⟩
 obtain ⟨X, hX⟩ : ∃ X, W.heap.size = X := ⟨_, rfl⟩
 have HBA : Hid (Below W.heap.size W WA) := by rw [← hWA]; exact (Below.refl _ W).alloc (Nat.le_refl _) _
 have hza := aRow_ hWA hX
 have hsa : WA.heap.size = X + 1 := by rw [← hWA, ← hX]; simp
 have lxa : X < WA.heap.size := by omega
 obtain ⟨z0, z1, z2⟩ := row3_ hza
 have HZA := Lib.hid hza
 have HX := Lib.hid hX
 have HWA := Lib.hid hWA
 clear hza hX hWA
 have C1 := Lib.hid (rightp_any WA k t op num q n cap ((hD.kept (All.kept HBA.out)).kept (All.lo WA)))
 have C2 := Lib.hid (empty_any WA k t op num q n cap (hD.kept (All.kept HBA.out)))
 clear hPP hsa hD
 cases b with
 | true =>
  have HF : Hid (whenB true t = rightB t) := rfl
  cases hr : rightB t with
  | true =>
   rw [hr] at C1 HF
   go_enter Tryz.func41, Tryz.ntmps41
   go_upto_region 1 with fail
   rw [HX.out, HWA.out]
   go_wp2_with (go_at_call 57; refine C1.out.mono ?_; rintro e1 w1 ⟨rfl, hb1⟩)
   rw [← HPP.out, HF.out]
   exact ⟨rfl, HBA.out.trans (hb1.mono HBA.out.size)⟩
  | false =>
   rw [hr] at C1 HF
   go_enter Tryz.func41, Tryz.ntmps41
   go_upto_region 1 with fail
   rw [HX.out, HWA.out]
   go_wp2_with (go_at_call 57; refine C1.out.mono ?_; rintro e1 w1 ⟨rfl, hb1⟩)
   rw [← HPP.out, HF.out]
   exact ⟨rfl, HBA.out.trans (hb1.mono HBA.out.size)⟩
 | false =>
  have HF : Hid (whenB false t = zeroW t) := rfl
  cases hr : zeroW t with
  | true =>
   rw [hr] at C2 HF
   go_enter Tryz.func41, Tryz.ntmps41
   go_upto_region 1 with fail
   rw [HX.out, HWA.out]
   go_wp2_with (go_at_call 86; refine C2.out.mono ?_; rintro e1 w1 ⟨rfl, hb1⟩)
   rw [← HPP.out, HF.out]
   exact ⟨rfl, HBA.out.trans (hb1.mono HBA.out.size)⟩
  | false =>
   rw [hr] at C2 HF
   go_enter Tryz.func41, Tryz.ntmps41
   go_upto_region 1 with fail
   rw [HX.out, HWA.out]
   go_wp2_with (go_at_call 86; refine C2.out.mono ?_; rintro e1 w1 ⟨rfl, hb1⟩)
   rw [← HPP.out, HF.out]
   exact ⟨rfl, HBA.out.trans (hb1.mono HBA.out.size)⟩
theorem NumsP.shape {P : Nat → Prop} {w : World} {v : Value} {ns : List Int} (h : NumsP P w v ns) : ∃ p cap, v = .slice p ns.length cap ∧ ns.length ≤ 9223372036854775807 := by
 obtain ⟨h2, p, cap, rfl, h3, h4, h5⟩ := h
 exact ⟨p, cap, rfl, by omega⟩
theorem noname {s : ByteArray} (h : s.size = 0) : s = ⟨#[]⟩ := by
 cases s with
 | mk d =>
  have h : d.size = 0 := h
  rw [Array.eq_empty_of_size_eq_zero h]
theorem noname_ne {s : ByteArray} (h0 : ¬ s.size = 0) : (s == (⟨#[]⟩ : ByteArray)) = false ∧ (s != (⟨#[]⟩ : ByteArray)) = true ∧ ¬ s.toList = [] ∧ s.toList.isEmpty = false := by
 have h : s ≠ ⟨#[]⟩ := fun e => h0 (by rw [e]; rfl)
 have h1 : (s == (⟨#[]⟩ : ByteArray)) = false := by
  have h2 : s.data ≠ #[] := fun e => h (by cases s; simp at e; subst e; rfl)
  show (s.data == #[]) = false
  simpa using h2
 have h3 : ¬ s.toList = [] := fun e => h (by rw [ByteArray.toList_eq] at e; cases s; simp at e; subst e; rfl)
 exact ⟨h1, by simp [bne, h1], h3, by simpa using h3⟩

theorem fitwrap_any (x : WrapT) (W : World) (k : Nat) {cs : List Value} (hE : Env W) (hS : SmW x) (hR : WrapP All W k cs x) :
  Calls Tryz.prog 85 #[.agg cs.toArray] W (PatPost W (.bool (wrapB x))) := by
 obtain ⟨PP, hPP⟩ : ∃ PP, PatPost W (.bool (wrapB x)) = PP := ⟨_, rfl⟩
 rw [hPP]
 have HPP := Lib.hid hPP
 obtain ⟨v1, u1, w0, w1, w2, rfl, hnums, hcaps, hwant⟩ := hR
 obtain ⟨k1, q1, m1, -, ew⟩ := hwant.form
 injection ew with ew0 ew
 injection ew with ew1 ew
 injection ew with ew2
 subst ew0; subst ew1; subst ew2
 obtain ⟨nq, nc, rfl, -⟩ := NumsP.shape hnums
 obtain ⟨uq, uc, rfl, -⟩ := UsP.shape hcaps
 obtain ⟨WA, hWA⟩ : ∃ WA, W.alloc (.cells #[.bool x.opn, .string x.word, .string x.sub, .slice nq x.nums.length nc, .slice uq x.caps.length uc, .bool x.when_, .int .i64 x.want.op, .int .i64 x.want.num, .slice q1 x.want.l.length m1, .int .i64 x.pos] 90) = WA := ⟨_, rfl⟩
 obtain ⟨X, hX⟩ : ∃ X, W.heap.size = X := ⟨_, rfl⟩
 have HBA : Hid (Below W.heap.size W WA) := by rw [← hWA]; exact (Below.refl _ W).alloc (Nat.le_refl _) _
 have hza := aRow_ hWA hX
 have hsa : WA.heap.size = X + 1 := by rw [← hWA, ← hX]; simp
 have lxa : X < WA.heap.size := by omega
 obtain ⟨z0, z1, z2, z3, z4, z5, z6, z7, z8, z9⟩ := row10_ hza
 have HZA := Lib.hid hza
 have HX := Lib.hid hX
 have HWA := Lib.hid hWA
 clear hza hX hWA
 have HX0 := HZA
 have HB0 := HBA
 have HE := Lib.hid hE
 have HS := Lib.hid hS
 have HCA := Lib.hid hcaps
 have HWA2 := Lib.hid hwant
 have hwb : wrapB x = (nameB x.word && ((decide (x.sub.size = 0) || nameB x.sub) && (decide (x.nums.length ≤ 2) && (namesB x.caps && whenB x.when_ x.want)))) := rfl
 have HWB := Lib.hid hwb
 clear hPP hsa hE hS hcaps hwant hnums hwb
 go_enter Tryz.func85, Tryz.ntmps85
 go_upto_region 1 with fail
 rw [HX.out, HWA.out]
 have HE0 : Hid (Env WA) := HE.out.below HBA.out
 have C1 := Lib.hid (isname_any x.word WA HE0.out HS.out.1)
 go_wp2_with (go_at_call 40; refine C1.out.mono ?_)
 rintro e1 w1 ⟨rfl, hb1⟩
 have HB1 := Lib.hid (HB0.out.trans (hb1.mono HB0.out.size))
 have hX1 := (hb1.block X (Array.getElem?_eq_some_iff.1 HX0.out).1).trans HX0.out
 obtain ⟨cX0, cX1, cX2, cX3, cX4, cX5, cX6, cX7, cX8, cX9⟩ := row10_ hX1
 have ltX : X < w1.heap.size := (Array.getElem?_eq_some_iff.1 hX1).1
 have HX1 := Lib.hid hX1
 clear hX1
 clear hb1 C1
 clear z0 z1 z2 z3 z4 z5 z6 z7 z8 z9 lxa
 cases hq1 : nameB x.word with
 | false =>
  have HQ1 := Lib.hid hq1
  skip
  clear hq1
  go_wp2_with fail
  rw [← HPP.out]
  exact ⟨by rw [HWB.out, HQ1.out]; rfl, HB1.out⟩
 | true =>
  have HQ1 := Lib.hid hq1
  clear hq1
  by_cases hs0 : x.sub.size = 0
  ·have hse := noname hs0
   have HQ2 : Hid ((decide (x.sub.size = 0) || nameB x.sub) = true) := by show _ = _; rw [decide_eq_true hs0]; rfl
   rw [hse] at cX2
   clear hs0
   by_cases hn2 : x.nums.length ≤ 2
   ·have hni : ((x.nums.length : Nat) : Int) ≤ 2 := by omega
    have HQ3 : Hid (decide (x.nums.length ≤ 2) = true) := decide_eq_true hn2
    clear hn2
    have C3 := Lib.hid (isnames_any (FlP.kept HCA.out (All.kept HB1.out)) (HE.out.below HB1.out) HS.out.2.2)
    go_wp2_with (go_at_call 82; refine C3.out.mono ?_)
    clear cX0 cX1 cX2 cX3 cX4 cX5 cX6 cX7 cX8 cX9 ltX
    rintro e3 w3 ⟨rfl, hb3⟩
    have HB3 := Lib.hid (HB1.out.trans (hb3.mono HB1.out.size))
    have hX3 := (hb3.block X (Array.getElem?_eq_some_iff.1 HX1.out).1).trans HX1.out
    obtain ⟨cX0, cX1, cX2, cX3, cX4, cX5, cX6, cX7, cX8, cX9⟩ := row10_ hX3
    have ltX : X < w3.heap.size := (Array.getElem?_eq_some_iff.1 hX3).1
    have HX3 := Lib.hid hX3
    clear hX3
    clear hb3 C3
    cases hq4 : namesB x.caps with
    | false =>
     have HQ4 := Lib.hid hq4
     clear hq4
     go_wp2_with fail
     rw [← HPP.out]
     exact ⟨by rw [HWB.out, HQ1.out, HQ2.out, HQ3.out, HQ4.out]; rfl, HB3.out⟩
    | true =>
     have HQ4 := Lib.hid hq4
     clear hq4
     have C4 := Lib.hid (fitwhen_any w3 x.when_ _ x.want _ _ _ _ _ (HWA2.out.kept (All.kept HB3.out)))
     go_wp2_with (go_at_call 41; refine C4.out.mono ?_; rintro e4 w4 ⟨rfl, hb4⟩)
     rw [← HPP.out]
     exact ⟨by rw [HWB.out, HQ1.out, HQ2.out, HQ3.out, HQ4.out]; rfl, HB3.out.trans (hb4.mono HB3.out.size)⟩
   ·have hni : ¬ ((x.nums.length : Nat) : Int) ≤ 2 := by omega
    have HQ3 : Hid (decide (x.nums.length ≤ 2) = false) := decide_eq_false hn2
    clear hn2
    go_wp2_with fail
    rw [← HPP.out]
    exact ⟨by rw [HWB.out, HQ1.out, HQ2.out, HQ3.out]; rfl, HB1.out⟩
  ·obtain ⟨n1, n2, n3, n4⟩ := noname_ne hs0
   have HN0 := Lib.hid hs0
   clear hs0
   have C2 := Lib.hid (isname_any x.sub w1 (HE.out.below HB1.out) HS.out.2.1)
   go_wp2_with (go_at_call 40; refine C2.out.mono ?_)
   clear cX0 cX1 cX2 cX3 cX4 cX5 cX6 cX7 cX8 cX9 ltX
   rintro e2 w2 ⟨rfl, hb2⟩
   have HB2 := Lib.hid (HB1.out.trans (hb2.mono HB1.out.size))
   have hX2 := (hb2.block X (Array.getElem?_eq_some_iff.1 HX1.out).1).trans HX1.out
   obtain ⟨cX0, cX1, cX2, cX3, cX4, cX5, cX6, cX7, cX8, cX9⟩ := row10_ hX2
   have ltX : X < w2.heap.size := (Array.getElem?_eq_some_iff.1 hX2).1
   have HX2 := Lib.hid hX2
   clear hX2
   clear hb2 C2
   cases hq2 : nameB x.sub with
   | false =>
    have HQ2 := Lib.hid hq2
    clear hq2
    go_wp2_with fail
    rw [← HPP.out]
    exact ⟨by rw [HWB.out, HQ1.out, HQ2.out, decide_eq_false HN0.out]; rfl, HB2.out⟩
   | true =>
    have HQ2 : Hid ((decide (x.sub.size = 0) || nameB x.sub) = true) := by show _ = _; rw [hq2, Bool.or_true]
    clear hq2
    by_cases hn2 : x.nums.length ≤ 2
    ·have hni : ((x.nums.length : Nat) : Int) ≤ 2 := by omega
     have HQ3 : Hid (decide (x.nums.length ≤ 2) = true) := decide_eq_true hn2
     clear hn2
     have C3 := Lib.hid (isnames_any (FlP.kept HCA.out (All.kept HB2.out)) (HE.out.below HB2.out) HS.out.2.2)
     go_wp2_with (go_at_call 82; refine C3.out.mono ?_)
     clear cX0 cX1 cX2 cX3 cX4 cX5 cX6 cX7 cX8 cX9 ltX
     rintro e3 w3 ⟨rfl, hb3⟩
     have HB3 := Lib.hid (HB2.out.trans (hb3.mono HB2.out.size))
     have hX3 := (hb3.block X (Array.getElem?_eq_some_iff.1 HX2.out).1).trans HX2.out
     obtain ⟨cX0, cX1, cX2, cX3, cX4, cX5, cX6, cX7, cX8, cX9⟩ := row10_ hX3
     have ltX : X < w3.heap.size := (Array.getElem?_eq_some_iff.1 hX3).1
     have HX3 := Lib.hid hX3
     clear hX3
     clear hb3 C3
     cases hq4 : namesB x.caps with
     | false =>
      have HQ4 := Lib.hid hq4
      clear hq4
      go_wp2_with fail
      rw [← HPP.out]
      exact ⟨by rw [HWB.out, HQ1.out, HQ2.out, HQ3.out, HQ4.out]; rfl, HB3.out⟩
     | true =>
      have HQ4 := Lib.hid hq4
      clear hq4
      have C4 := Lib.hid (fitwhen_any w3 x.when_ _ x.want _ _ _ _ _ (HWA2.out.kept (All.kept HB3.out)))
      go_wp2_with (go_at_call 41; refine C4.out.mono ?_; rintro e4 w4 ⟨rfl, hb4⟩)
      rw [← HPP.out]
      exact ⟨by rw [HWB.out, HQ1.out, HQ2.out, HQ3.out, HQ4.out]; rfl, HB3.out.trans (hb4.mono HB3.out.size)⟩
    ·have hni : ¬ ((x.nums.length : Nat) : Int) ≤ 2 := by omega
     have HQ3 : Hid (decide (x.nums.length ≤ 2) = false) := decide_eq_false hn2
     clear hn2
     go_wp2_with fail
     rw [← HPP.out]
     exact ⟨by rw [HWB.out, HQ1.out, HQ2.out, HQ3.out]; rfl, HB2.out⟩
theorem wrapnot_any (x : WrapT) (W : World) (k : Nat) {cs : List Value} (hE : Env W) (hS : SmW x) (hR : WrapP All W k cs x) :
  Calls Tryz.prog 84 #[.agg cs.toArray] W (PatPost W (.bool (!wrapB x))) := by
 obtain ⟨PP, hPP⟩ : ∃ PP, PatPost W (.bool (!wrapB x)) = PP := ⟨_, rfl⟩
 rw [hPP]
 have HPP := Lib.hid hPP
 have hR0 := hR
 obtain ⟨v1, u1, w0, w1, w2, rfl, hnums, hcaps, hwant⟩ := hR
 obtain ⟨k1, q1, m1, -, ew⟩ := hwant.form
 injection ew with ew0 ew
 injection ew with ew1 ew
 injection ew with ew2
 subst ew0; subst ew1; subst ew2
 obtain ⟨nq, nc, rfl, -⟩ := NumsP.shape hnums
 obtain ⟨uq, uc, rfl, -⟩ := UsP.shape hcaps
 obtain ⟨WA, hWA⟩ : ∃ WA, W.alloc (.cells #[.bool x.opn, .string x.word, .string x.sub, .slice nq x.nums.length nc, .slice uq x.caps.length uc, .bool x.when_, .int .i64 x.want.op, .int .i64 x.want.num, .slice q1 x.want.l.length m1, .int .i64 x.pos] 90) = WA := ⟨_, rfl⟩
 obtain ⟨X, hX⟩ : ∃ X, W.heap.size = X := ⟨_, rfl⟩
 have HBA : Hid (Below W.heap.size W WA) := by rw [← hWA]; exact (Below.refl _ W).alloc (Nat.le_refl _) _
 have hza := aRow_ hWA hX
 have hsa : WA.heap.size = X + 1 := by rw [← hWA, ← hX]; simp
 have lxa : X < WA.heap.size := by omega
 obtain ⟨z0, z1, z2, z3, z4, z5, z6, z7, z8, z9⟩ := row10_ hza
 have HZA := Lib.hid hza
 have HX := Lib.hid hX
 have HWA := Lib.hid hWA
 clear hza hX hWA
 have C := Lib.hid (fitwrap_any x WA k (hE.below HBA.out) hS (hR0.kept (All.kept HBA.out)))
 clear hPP hsa hE hS hR0 hnums hcaps hwant
 go_enter Tryz.func84, Tryz.ntmps84
 go_upto_region 1 with fail
 rw [HX.out, HWA.out]
 go_wp2_with (go_at_call 85; refine C.out.mono ?_; rintro e1 w1 ⟨rfl, hb1⟩)
 rw [← HPP.out]
 exact ⟨rfl, HBA.out.trans (hb1.mono HBA.out.size)⟩
theorem ixwrap_any {k : Nat} {W : World} {v : Value} {xs : List WrapT} (hV : ListP All W 10 (WrapP All W k) v xs) (hE : Env W) (hS : ∀ x ∈ xs, SmW x) :
  Calls Tryz.prog 132 #[v, .func (.func 84) #[] #[]] W (IxPost W (!xs.all wrapB)) := by
 obtain ⟨PP, hPP⟩ : ∃ PP, IxPost W (!xs.all wrapB) = PP := ⟨_, rfl⟩
 rw [hPP]
 have HPP := Lib.hid hPP
 obtain ⟨q, cap, rfl, hn9⟩ := hV.shape
 have HV := Lib.hid hV
 have HE := Lib.hid hE
 have HS := Lib.hid hS
 clear hPP hV hE hS
 go_enter Tryz.func132, Tryz.ntmps132
 go_wp2_with fail
 go_loopw [5, 8] (fun s5 s8 wr => ∃ j : Nat, s8 = .int .i64 (j : Nat) ∧ j ≤ xs.length ∧ Hid ((xs.take j).all wrapB = true) ∧ Hid (Below W.heap.size W wr)) (fun _ i _ => xs.length - (intOf i).toNat)
 case atStart => exact ⟨0, rfl, Nat.zero_le _, rfl, Below.refl _ _⟩
 case round =>
  obtain ⟨j, rfl, hj, HAL, HB⟩ := hrel
  by_cases hlt : j < xs.length
  ·obtain ⟨x, hx⟩ : ∃ x, xs[j]? = some x := ⟨_, List.getElem?_eq_getElem hlt⟩
   obtain ⟨b, o, cap2, cs, e, -, hbl, -, hR, hc⟩ := HV.out.at hx
   injection e with e _ e3
   subst e; subst e3
   have hR2 := hR.kept (All.kept HB.out)
   obtain ⟨v1, u1, w0, w1, w2, rfl, hnums, hcaps, hwant⟩ := hR
   have y0 : wr.cell? ⟨b, o + j * 10, none⟩ = some (.bool x.opn) := (HB.out.cell (p := ⟨b, _, none⟩) hbl).trans (hc 0 _ rfl)
   have y1 : wr.cell? ⟨b, o + j * 10 + 1, none⟩ = some (.string x.word) := (HB.out.cell (p := ⟨b, _, none⟩) hbl).trans (hc 1 _ rfl)
   have y2 : wr.cell? ⟨b, o + j * 10 + 2, none⟩ = some (.string x.sub) := (HB.out.cell (p := ⟨b, _, none⟩) hbl).trans (hc 2 _ rfl)
   have y3 : wr.cell? ⟨b, o + j * 10 + 3, none⟩ = some (v1) := (HB.out.cell (p := ⟨b, _, none⟩) hbl).trans (hc 3 _ rfl)
   have y4 : wr.cell? ⟨b, o + j * 10 + 4, none⟩ = some (u1) := (HB.out.cell (p := ⟨b, _, none⟩) hbl).trans (hc 4 _ rfl)
   have y5 : wr.cell? ⟨b, o + j * 10 + 5, none⟩ = some (.bool x.when_) := (HB.out.cell (p := ⟨b, _, none⟩) hbl).trans (hc 5 _ rfl)
   have y6 : wr.cell? ⟨b, o + j * 10 + 6, none⟩ = some (w0) := (HB.out.cell (p := ⟨b, _, none⟩) hbl).trans (hc 6 _ rfl)
   have y7 : wr.cell? ⟨b, o + j * 10 + 7, none⟩ = some (w1) := (HB.out.cell (p := ⟨b, _, none⟩) hbl).trans (hc 7 _ rfl)
   have y8 : wr.cell? ⟨b, o + j * 10 + 8, none⟩ = some (w2) := (HB.out.cell (p := ⟨b, _, none⟩) hbl).trans (hc 8 _ rfl)
   have y9 : wr.cell? ⟨b, o + j * 10 + 9, none⟩ = some (.int .i64 x.pos) := (HB.out.cell (p := ⟨b, _, none⟩) hbl).trans (hc 9 _ rfl)
   obtain ⟨k1, q1, m1, -, ew⟩ := hwant.form
   injection ew with ew0 ew
   injection ew with ew1 ew
   injection ew with ew2
   subst ew0; subst ew1; subst ew2
   obtain ⟨nq, nc, rfl, -⟩ := NumsP.shape hnums
   obtain ⟨uq, uc, rfl, -⟩ := UsP.shape hcaps
   have C := Lib.hid (wrapnot_any x wr _ (HE.out.below HB.out) (HS.out x (List.mem_of_getElem? hx)) hR2)
   clear hc hR2 hnums hcaps hwant
   have g0 : (j : Int) < ((xs.length : Nat) : Int) := by omega
   have g00 : (0 : Int) ≤ (j : Int) := by omega
   have HXJ := Lib.hid hx
   clear hx hbl
   cases hp : wrapB x with
   | false =>
    have HP := Lib.hid hp
    rw [hp] at C
    clear hp
    go_wp2_with (go_at_call 84; refine C.out.mono ?_; rintro e1 w1' ⟨rfl, hb1⟩)
    rw [← HPP.out]
    refine ⟨(j : Nat), rfl, Iff.intro (fun _ => ?_) (fun _ => by omega), HB.out.trans (hb1.mono HB.out.size)⟩
    rw [all_not HXJ.out HP.out]
    rfl
   | true =>
    have HP := Lib.hid hp
    rw [hp] at C
    clear hp
    go_wp2_with (go_at_call 84; refine C.out.mono ?_; rintro e1 w1' ⟨rfl, hb1⟩)
    go_roundw
    case rel => exact ⟨j + 1, by go_num, by omega, all_step HXJ.out HAL.out HP.out, HB.out.trans (hb1.mono HB.out.size)⟩
    case measure => simp [intOf]; omega
  ·obtain rfl : j = xs.length := by omega
   have hjj : ¬ ((xs.length : Nat) : Int) < ((xs.length : Nat) : Int) := by omega
   have HT : Hid (xs.all wrapB = true) := by have h := HAL.out; rwa [List.take_length] at h
   go_wp2_with fail
   rw [← HPP.out]
   exact ⟨-1, rfl, Iff.intro (fun h => absurd h (by decide)) (fun h => by (rw [HT.out] at h; cases h)), HB.out⟩
theorem haswrap_any {k : Nat} {W : World} {v : Value} {xs : List WrapT} (hV : ListP All W 10 (WrapP All W k) v xs) (hE : Env W) (hS : ∀ x ∈ xs, SmW x) :
  Calls Tryz.prog 83 #[v, .func (.func 84) #[] #[]] W (PatPost W (.bool (!xs.all wrapB))) := by
 obtain ⟨PP, hPP⟩ : ∃ PP, PatPost W (.bool (!xs.all wrapB)) = PP := ⟨_, rfl⟩
 rw [hPP]
 have HPP := Lib.hid hPP
 have C := Lib.hid (ixwrap_any hV hE hS)
 clear hPP hV hE hS
 cases hb : xs.all wrapB with
 | false =>
  rw [hb] at C HPP
  go_enter Tryz.func83, Tryz.ntmps83
  go_wp2_with (go_at_call 132; refine C.out.mono ?_; rintro e1 w1 ⟨i, rfl, h0, hb1⟩; have h1 : (0 : Int) ≤ i := h0.2 rfl; clear h0)
  rw [← HPP.out]
  exact ⟨rfl, hb1⟩
 | true =>
  rw [hb] at C HPP
  go_enter Tryz.func83, Tryz.ntmps83
  go_wp2_with (go_at_call 132; refine C.out.mono ?_; rintro e1 w1 ⟨i, rfl, h0, hb1⟩; have h1 : ¬ (0 : Int) ≤ i := fun h => absurd (h0.1 h) (by decide); clear h0)
  rw [← HPP.out]
  exact ⟨by simp; omega, hb1⟩
end Go.Proofs.YtbdllefnghddcaaGreatDoor
