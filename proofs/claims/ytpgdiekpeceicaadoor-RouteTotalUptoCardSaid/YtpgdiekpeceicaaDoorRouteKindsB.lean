/- ROUTE: Kinds of any fit pattern; Holds. -/
import Derived.Test.YtpgdiekpeceicaaDoorRouteKinds
import Derived.BigQuiet
import Derived.Deep.QuietTactic
import Derived.Deep.RegionHeld3
import Derived.Deep.RegionWith
namespace Go.Proofs.YtpgdiekpeceicaaDoor
open Go Go.RowKit

def FitF : Nat → Wt → Prop
  | 0, _ => False
  | k + 1, .mk op num l => (op = 1 ∧ num = 0 ∧ l = []) ∨ (op = 2 ∧ 0 ≤ num ∧ num < 14 ∧ l = []) ∨ (op = 3 ∧ 0 ≤ num ∧ num < 10 ∧ l = []) ∨
      ((op = 4 ∨ op = 5) ∧ num = 0 ∧ 2 ≤ l.length ∧ ∀ t ∈ l, FitF k t) ∨ (op = 6 ∧ num = 0 ∧ l.length = 1 ∧ ∀ t ∈ l, FitF k t)
def KnF : Nat → Wt → Nat
  | 0, _ => 0
  | k + 1, .mk op num l =>
    if op = 4 then l.foldl (fun s t => s ||| KnF k t) 0
    else if op = 5 then l.foldl (fun s t => s &&& KnF k t) 16383
    else if op = 6 then match l with | t :: _ => 16383 &&& (4294967295 - KnF k t) | [] => 0
    else mk (isB op num) 14
theorem and_lt {a b : Nat} (h : a < 16384) : a &&& b < 16384 := Nat.lt_of_le_of_lt Nat.and_le_left h
theorem or_lt {a b : Nat} (h1 : a < 16384) (h2 : b < 16384) : a ||| b < 16384 := Nat.or_lt_two_pow (n := 14) h1 h2
theorem orL_lt {f : Wt → Nat} : ∀ (l : List Wt) (s : Nat), s < 16384 → (∀ t ∈ l, f t < 16384) → l.foldl (fun s t => s ||| f t) s < 16384 := by
  intro l
  induction l with
  | nil => intro s h _; exact h
  | cons a l ih => intro s h hl; exact ih _ (or_lt h (hl a (by simp))) (fun t ht => hl t (by simp [ht]))
theorem andL_lt {f : Wt → Nat} : ∀ (l : List Wt) (s : Nat), s < 16384 → l.foldl (fun s t => s &&& f t) s < 16384 := by
  intro l
  induction l with
  | nil => intro s h; exact h
  | cons a l ih => intro s h; exact ih _ (and_lt h)
theorem KnF_lt : ∀ (k : Nat) (t : Wt), KnF k t < 16384 := by
  intro k
  induction k with
  | zero => intro t; exact Nat.zero_lt_succ _
  | succ k ih =>
    intro t
    obtain ⟨op, num, l⟩ := t
    unfold KnF
    split
    · exact orL_lt l 0 (by omega) (fun t _ => ih t)
    · split
      · exact andL_lt l 16383 (by omega)
      · split
        · split
          · exact and_lt (by omega)
          · omega
        · exact Nat.lt_of_lt_of_le (mk_lt _ 14) (by decide)
theorem foldl_snoc {α β : Type} (f : β → α → β) (s : β) (l : List α) (j : Nat) (x : α) (h : l[j]? = some x) : (l.take (j + 1)).foldl f s = f ((l.take j).foldl f s) x := by
  rw [List.take_add_one, h]; simp [List.foldl_append]
/-- a part of a pattern, as the walk reads it -/
theorem WtIs.part {w : World} {k : Nat} {p : Option Addr} {cap : Nat} {op num : Int} {l : List Wt} (h : WtIs w (k + 1) [.int .i64 op, .int .i64 num, .slice p l.length cap] (.mk op num l)) {j : Nat} {t : Wt} (hj : l[j]? = some t) :
    ∃ b o op' num' q n c, p = some ⟨b, o, none⟩ ∧ b < w.heap.size ∧ w.cell? ⟨b, o + j * 3, none⟩ = some (.int .i64 op') ∧ w.cell? ⟨b, o + j * 3 + 1, none⟩ = some (.int .i64 num') ∧ w.cell? ⟨b, o + j * 3 + 2, none⟩ = some (.slice q n c) ∧ WtIs w k [.int .i64 op', .int .i64 num', .slice q n c] t := by
  obtain ⟨p', cap', e1, h2, h3, h4⟩ := h
  injection e1 with _ e1
  injection e1 with _ e1
  injection e1 with e1
  injection e1 with e1
  subst e1
  obtain ⟨b, o, hp, hc⟩ := h4 (by have := (List.getElem?_eq_some_iff.1 hj).1; omega)
  obtain ⟨c0, c1, c2, q0, q1, q2, ht⟩ := hc j t hj
  cases k with
  | zero => exact ht.elim
  | succ k =>
    obtain ⟨op', num', l'⟩ := t
    have ⟨p2, cap2, e2, _⟩ := ht
    injection e2 with e3 e2
    injection e2 with e4 e2
    injection e2 with e5
    subst e3; subst e4; subst e5
    exact ⟨b, o, op', num', p2, l'.length, cap2, hp, World.block_lt_of_cell? w _ q0, q0, q1, q2, ht⟩
theorem u32_and_ {a b : Nat} (h1 : a < 16384) (h2 : b < 16384) : bits .and .u32 (a : Int) (b : Int) = ((a &&& b : Nat) : Int) := u32_and_nat a b (by omega) (by omega)
theorem u32_or_ {a b : Nat} (h1 : a < 16384) (h2 : b < 16384) : bits .or .u32 (a : Int) (b : Int) = ((a ||| b : Nat) : Int) := u32_or_nat a b (by omega) (by omega)
theorem u32_not_ {b : Nat} (h2 : b < 16384) : bits .andNot .u32 16383 (b : Int) = ((16383 &&& (4294967295 - b) : Nat) : Int) := u32_andNot_nat 16383 b (by omega) (by omega)

set_option maxRecDepth 100000 in
set_option maxHeartbeats 8000000 in
theorem kinds_any : ∀ (k : Nat) (t : Wt) (w : World) (op num : Int) (p : Option Addr) (n cap : Nat), WtIs w k [.int .i64 op, .int .i64 num, .slice p n cap] t → FitF k t →
    Calls Tryd.prog 51 #[.agg #[.int .i64 op, .int .i64 num, .slice p n cap]] w (MaskPost w (KnF k t)) := by
  intro k
  induction k with
  | zero => intro t w op num p n cap h; exact h.elim
  | succ k ih =>
    intro t w op num p n cap hW hF
    obtain ⟨op', num', l⟩ := t
    have ⟨p', cap', e1, k1, k2, _⟩ := hW
    injection e1 with e2 e1
    injection e1 with e3 e1
    injection e1 with e4
    injection e2 with _ e2
    injection e3 with _ e3
    injection e4 with e4 e5 e6
    subst e2; subst e3; subst e4; subst e5; subst e6
    have IH := Lib.hid ih
    clear ih
    have HW := Lib.hid hW
    obtain ⟨PP, hPP⟩ : ∃ PP, MaskPost w (KnF (k + 1) (.mk op num l)) = PP := ⟨_, rfl⟩
    rw [hPP]
    have HPP := Lib.hid hPP
    clear hPP hW
    have HB0 : Hid (Below w.heap.size w (w.alloc (.cells #[.int .i64 op, .int .i64 num, .slice p l.length cap] 40))) := (Below.refl _ _).alloc (Nat.le_refl _) _
    have hleaf : (op = 1 ∨ op = 2 ∨ op = 3) → LeafOk op num → PP = MaskPost w (mk (isB op num) 14) := fun h _ => by
      rw [← HPP.out]; unfold KnF
      rw [if_neg (by omega), if_neg (by omega), if_neg (by omega)]
    have HLEAF := Lib.hid hleaf
    clear hleaf
    rcases hF with ⟨h1, h2, h3⟩ | ⟨h1, h2, h3, h4⟩ | ⟨h1, h2, h3, h4⟩ | ⟨h1, h2, h3, h4⟩ | ⟨h1, h2, h3, h4⟩
    case inr.inr.inr.inl =>
      have HFl := Lib.hid h4
      subst h2
      rcases h1 with h1 | h1
      · subst h1
        have HK : Hid (KnF (k + 1) (.mk 4 0 l) = l.foldl (fun s t => s ||| KnF k t) 0) := by show _ = _; exact if_pos rfl
        clear h4 HLEAF
        go_enter Tryd.func51, Tryd.ntmps51
        go_wp2_with fail
        go_loopw [3, 16] (fun s i wr => ∃ j : Nat, i = .int .i64 (j : Nat) ∧ j ≤ l.length ∧ s = .int .u32 ((l.take j).foldl (fun s t => s ||| KnF k t) 0 : Nat) ∧ Below w.heap.size w wr) (fun _ i _ => l.length - (intOf i).toNat)
        case atStart => exact ⟨0, rfl, by omega, rfl, HB0.out⟩
        case round =>
          obtain ⟨j, rfl, hj, rfl, hb⟩ := hrel
          have HB := Lib.hid hb
          by_cases hlt : j < l.length
          · obtain ⟨x, hx⟩ : ∃ x, l[j]? = some x := ⟨_, List.getElem?_eq_getElem hlt⟩
            obtain ⟨b, o, op', num', q, n', c', rfl, hbl, d0, d1, d2, hP⟩ := (HW.out.below hb).part hx
            have HS := Lib.hid (foldl_snoc (fun s t => s ||| KnF k t) 0 l j x hx)
            have hlm : (l.take j).foldl (fun s t => s ||| KnF k t) 0 < 16384 := orL_lt _ 0 (by omega) (fun t _ => KnF_lt k t)
            have CX : Hid (∀ W, Below wr.heap.size wr W → Calls Tryd.prog 51 #[.agg #[.int .i64 op', .int .i64 num', .slice q n' c']] W (MaskPost W (KnF k x))) := fun W hb => IH.out x W op' num' q n' c' (hP.below hb) (HFl.out x (List.mem_of_getElem? hx))
            have g1 : (j : Int) < (l.length : Int) := by omega
            have hkx := KnF_lt k x
            have hs := hb.size
            generalize (l.take j).foldl (fun s t => s ||| KnF k t) 0 = m at *
            generalize KnF k x = mx at *
            clear hx hP hb
            go_wp2_with fail
            refine (CX.out _ (by exact (Below.refl _ _).alloc (Nat.le_refl _) _)).mono ?_
            rintro r' W ⟨rfl, hb2⟩
            have HB2 := Lib.hid ((HB.out.alloc hs _).trans (hb2.mono (by simp; omega)))
            clear hb2 d0 d1 d2
            go_wp2_with fail
            go_roundw
            case rel => exact ⟨j + 1, by go_num, by omega, by rw [HS.out]; exact congrArg (Value.int .u32) (u32_or_ hlm hkx), HB2.out⟩
            case measure => simp [intOf]; omega
          · obtain rfl : j = l.length := by omega
            clear hb
            go_wp2_with fail
            rw [← HPP.out, HK.out]
            rw [List.take_length]
            exact ⟨rfl, HB.out⟩
      · subst h1
        have HK : Hid (KnF (k + 1) (.mk 5 0 l) = l.foldl (fun s t => s &&& KnF k t) 16383) := by show _ = _; exact (if_neg (by decide)).trans (if_pos rfl)
        clear h4 HLEAF
        go_enter Tryd.func51, Tryd.ntmps51
        go_wp2_with fail
        go_loopw [6, 31] (fun s i wr => ∃ j : Nat, i = .int .i64 (j : Nat) ∧ j ≤ l.length ∧ s = .int .u32 ((l.take j).foldl (fun s t => s &&& KnF k t) 16383 : Nat) ∧ Below w.heap.size w wr) (fun _ i _ => l.length - (intOf i).toNat)
        case atStart => exact ⟨0, rfl, by omega, rfl, HB0.out⟩
        case round =>
          obtain ⟨j, rfl, hj, rfl, hb⟩ := hrel
          have HB := Lib.hid hb
          by_cases hlt : j < l.length
          · obtain ⟨x, hx⟩ : ∃ x, l[j]? = some x := ⟨_, List.getElem?_eq_getElem hlt⟩
            obtain ⟨b, o, op', num', q, n', c', rfl, hbl, d0, d1, d2, hP⟩ := (HW.out.below hb).part hx
            have HS := Lib.hid (foldl_snoc (fun s t => s &&& KnF k t) 16383 l j x hx)
            have hlm : (l.take j).foldl (fun s t => s &&& KnF k t) 16383 < 16384 := andL_lt _ 16383 (by omega)
            have CX : Hid (∀ W, Below wr.heap.size wr W → Calls Tryd.prog 51 #[.agg #[.int .i64 op', .int .i64 num', .slice q n' c']] W (MaskPost W (KnF k x))) := fun W hb => IH.out x W op' num' q n' c' (hP.below hb) (HFl.out x (List.mem_of_getElem? hx))
            have g1 : (j : Int) < (l.length : Int) := by omega
            have hkx := KnF_lt k x
            have hs := hb.size
            generalize (l.take j).foldl (fun s t => s &&& KnF k t) 16383 = m at *
            generalize KnF k x = mx at *
            clear hx hP hb
            go_wp2_with fail
            refine (CX.out _ (by exact (Below.refl _ _).alloc (Nat.le_refl _) _)).mono ?_
            rintro r' W ⟨rfl, hb2⟩
            have HB2 := Lib.hid ((HB.out.alloc hs _).trans (hb2.mono (by simp; omega)))
            clear hb2 d0 d1 d2
            go_wp2_with fail
            go_roundw
            case rel => exact ⟨j + 1, by go_num, by omega, by rw [HS.out]; exact congrArg (Value.int .u32) (u32_and_ hlm hkx), HB2.out⟩
            case measure => simp [intOf]; omega
          · obtain rfl : j = l.length := by omega
            clear hb
            go_wp2_with fail
            rw [← HPP.out, HK.out]
            rw [List.take_length]
            exact ⟨rfl, HB.out⟩
    case inr.inr.inr.inr =>
      obtain ⟨x, rfl⟩ : ∃ x, l = [x] := by
        match l, h3 with
        | [x], _ => exact ⟨x, rfl⟩
      subst h1; subst h2
      have HK : Hid (KnF (k + 1) (.mk 6 0 [x]) = 16383 &&& (4294967295 - KnF k x)) := by show _ = _; exact ((if_neg (by decide)).trans (if_neg (by decide))).trans (if_pos rfl)
      obtain ⟨b, o, op', num', q, n', c', rfl, hbl, d0, d1, d2, hP⟩ := HW.out.part (j := 0) (t := x) rfl
      have CX : Hid (∀ W, Below w.heap.size w W → Calls Tryd.prog 51 #[.agg #[.int .i64 op', .int .i64 num', .slice q n' c']] W (MaskPost W (KnF k x))) := fun W hb => IH.out x W op' num' q n' c' (hP.below hb) (h4 x (by simp))
      have hkx := KnF_lt k x
      rw [Nat.zero_mul, Nat.add_zero] at d0 d1 d2
      generalize KnF k x = mx at *
      clear h4 h3 hP HLEAF
      go_enter Tryd.func51, Tryd.ntmps51
      go_wp2_with fail
      refine (CX.out _ HB0.out).mono ?_
      rintro r' W ⟨rfl, hb2⟩
      have HB2 := Lib.hid (HB0.out.trans (hb2.mono HB0.out.size))
      clear hb2 d0 d1 d2
      go_wp2_with fail
      rw [← HPP.out, HK.out]
      exact ⟨congrArg (fun z => Ending.returned (Value.int .u32 z)) (u32_not_ hkx), HB2.out⟩
    case inl =>
      subst h1; subst h2
      have e := HLEAF.out (.inl rfl) (.inl rfl)
      have CL := Lib.hid (leaf_any 1 0 (.inl rfl) (.slice p l.length cap))
      have HE := Lib.hid e
      clear e h3 HLEAF
      go_enter Tryd.func51, Tryd.ntmps51
      go_wp2_with fail
      refine (CL.out _).mono ?_
      rintro r' W ⟨rfl, hb2⟩
      have HB2 := Lib.hid (HB0.out.trans (hb2.mono HB0.out.size))
      clear hb2
      go_wp2_with fail
      rw [HE.out]
      exact ⟨rfl, HB2.out⟩
    case inr.inl =>
      subst h1
      have e := HLEAF.out (.inr (.inl rfl)) (.inr (.inl ⟨rfl, h2, h3⟩))
      have CL := Lib.hid (leaf_any 2 num (.inr (.inl ⟨rfl, h2, h3⟩)) (.slice p l.length cap))
      have HE := Lib.hid e
      clear e h4 HLEAF
      go_enter Tryd.func51, Tryd.ntmps51
      go_wp2_with fail
      refine (CL.out _).mono ?_
      rintro r' W ⟨rfl, hb2⟩
      have HB2 := Lib.hid (HB0.out.trans (hb2.mono HB0.out.size))
      clear hb2
      go_wp2_with fail
      rw [HE.out]
      exact ⟨rfl, HB2.out⟩
    case inr.inr.inl =>
      subst h1
      have e := HLEAF.out (.inr (.inr rfl)) (.inr (.inr ⟨rfl, h2, h3⟩))
      have CL := Lib.hid (leaf_any 3 num (.inr (.inr ⟨rfl, h2, h3⟩)) (.slice p l.length cap))
      have HE := Lib.hid e
      clear e h4 HLEAF
      go_enter Tryd.func51, Tryd.ntmps51
      go_wp2_with fail
      refine (CL.out _).mono ?_
      rintro r' W ⟨rfl, hb2⟩
      have HB2 := Lib.hid (HB0.out.trans (hb2.mono HB0.out.size))
      clear hb2
      go_wp2_with fail
      rw [HE.out]
      exact ⟨rfl, HB2.out⟩

/-- a value, of which the kind alone is asked: five cells -/
def bit (m : Nat) (k : Nat) : Bool := m / 2 ^ k % 2 == 1
def HoldPost (w : World) (b : Bool) (r : Ending) (w' : World) : Prop := r = .returned (.bool b) ∧ Below w.heap.size w w'
end Go.Proofs.YtpgdiekpeceicaaDoor
