/- PARSE: a pattern's word; what the next token opens. PARSE: operands with a mark between. PARSE: the operands of a pattern. -/
import Derived.Deep.MidRow
import Derived.Deep.DeepCutAuto
import Derived.Test.YtbdllefnghddcaaGreatDoorPMem
namespace Go.Proofs.YtbdllefnghddcaaGreatDoor
section
set_option maxHeartbeats 4000000
set_option maxRecDepth 100000
open Go Go.RowKit
attribute [local go_sem ↓] Go.wp_at_zero Go.wp_at_succ

theorem set3w {W : World} {X : Nat} {t : TypeId} {o0 o1 o2 : Value} (h : W.heap[X]? = some (.cells #[o0, o1, o2] t (0, 0))) (c0 c1 c2 : Value) :
  (((W.setCell ⟨X, 0, none⟩ c0).setCell ⟨X, 1, none⟩ c1).setCell ⟨X, 2, none⟩ c2).heap[X]? = some (.cells #[c0, c1, c2] t (0, 0)) ∧ W.grownBy (((W.setCell ⟨X, 0, none⟩ c0).setCell ⟨X, 1, none⟩ c1).setCell ⟨X, 2, none⟩ c2) (some X) :=
 ⟨heap_setCell_same _ X 2 _ _ _ (heap_setCell_same _ X 1 _ _ _ (heap_setCell_same W X 0 _ _ _ h)), g_set (g_set (g_set (g_refl W X) _) _) _⟩
theorem idx_kind (w : World) : ∀ k : Nat, k < 14 → (Instr.index 179 (.agg (kindWords.map fun l => Value.string (ba l)).toArray) (.int .i64 (k : Nat))).run Tryz.prog w = .ok (.string (ba (kindWords.getD k []))) w
 | 0, _ => by kernel_rfl
 | 1, _ => by kernel_rfl
 | 2, _ => by kernel_rfl
 | 3, _ => by kernel_rfl
 | 4, _ => by kernel_rfl
 | 5, _ => by kernel_rfl
 | 6, _ => by kernel_rfl
 | 7, _ => by kernel_rfl
 | 8, _ => by kernel_rfl
 | 9, _ => by kernel_rfl
 | 10, _ => by kernel_rfl
 | 11, _ => by kernel_rfl
 | 12, _ => by kernel_rfl
 | 13, _ => by kernel_rfl
 | k + 14, h => by omega
theorem idx_face (w : World) : ∀ k : Nat, k < 10 → (Instr.index 180 (.agg (faceWords.map fun l => Value.string (ba l)).toArray) (.int .i64 (k : Nat))).run Tryz.prog w = .ok (.string (ba (faceWords.getD k []))) w
 | 0, _ => by kernel_rfl
 | 1, _ => by kernel_rfl
 | 2, _ => by kernel_rfl
 | 3, _ => by kernel_rfl
 | 4, _ => by kernel_rfl
 | 5, _ => by kernel_rfl
 | 6, _ => by kernel_rfl
 | 7, _ => by kernel_rfl
 | 8, _ => by kernel_rfl
 | 9, _ => by kernel_rfl
 | k + 10, h => by omega
theorem fFrom_step {ws : List (List UInt8)} {k : Nat} (h : k < ws.length) (s : List UInt8) : fFrom (ws.drop k) k s = if ws.getD k [] = s then some k else fFrom (ws.drop (k + 1)) (k + 1) s := by
 rw [List.drop_eq_getElem_cons h, fFrom]
 have e : ws[k] = ws.getD k [] := by simp [h]
 rw [e]
def patV (o : Option Wt) : Value := match o with
 | some w => .tuple #[.agg #[.int .i64 w.op, .int .i64 w.num, .slice none 0 0], .bool true]
 | none => .tuple #[.agg #[.int .i64 0, .int .i64 0, .slice none 0 0], .bool false]
theorem res_pattern {W : World} {B : Nat} {c0 c1 c2 : Value} (h : W.heap[B]? = some (.cells #[c0, c1, c2] 41 (0, 0))) (tmps : Array Value) {b : Value} (h4 : tmps.getD 2 undef = .pointer (some ⟨B, 0, none⟩)) (h5 : tmps.getD 3 undef = b) :
  (results Tryz.f167 tmps).run Tryz.prog W = .ok (.tuple #[.agg #[c0, c1, c2], b]) W := by
 have h4' : tmps[2]?.getD undef = .pointer (some ⟨B, 0, none⟩) := by simpa using h4
 have h5' : tmps[3]?.getD undef = b := by simpa using h5
 obtain ⟨x0, x1, x2⟩ := row3_ h
 simp [results, Tryz.results167, h4', h5', asAddr, x0, x1, x2, go_sem]
theorem pattern_any (s : ByteArray) (W : World) (hK : W.rangeAt 1 0 (tabV kindWords)) (hF : W.rangeAt 2 0 (tabV faceWords)) :
  Calls Tryz.prog 167 #[.string s] W fun e w' => e = .returned (patV (wordW s.data.toList)) ∧ Below W.heap.size W w' := by
 obtain ⟨PP, hPP⟩ : ∃ PP : Ending → World → Prop, (fun e w' => e = .returned (patV (wordW s.data.toList)) ∧ Below W.heap.size W w') = PP := ⟨_, rfl⟩
 rw [hPP]
 have HPP := Lib.hid hPP
 have HSL : Hid (s.toList = s.data.toList) := ByteArray.toList_eq s
 obtain ⟨X, hX⟩ : ∃ X, W.heap.size = X := ⟨_, rfl⟩
 obtain ⟨WL, hWL⟩ : ∃ WL, W.alloc (.cells #[.int .i64 0, .int .i64 0, .slice none 0 0] 41) = WL := ⟨_, rfl⟩
 have hz := aRow_ hWL hX
 have hbl : Below W.heap.size W WL := by rw [← hWL]; exact (Below.refl _ W).alloc (Nat.le_refl _) _
 have hXl : X < WL.heap.size := (Array.getElem?_eq_some_iff.1 hz).1
 have hXW : W.heap.size ≤ X := by omega
 have hK' := tab_below hK hbl
 have hF' := tab_below hF hbl
 obtain ⟨x0, x1, x2⟩ := row3_ hz
 have f0 := frozen_of_row WL X 0 _ _ hz
 have f1 := frozen_of_row WL X 1 _ _ hz
 have f2 := frozen_of_row WL X 2 _ _ hz
 have HZ := Lib.hid hz
 have HBL := Lib.hid hbl
 have HWL := Lib.hid hWL
 have HXW := Lib.hid hXW
 have HX := Lib.hid hX
 clear hPP hz hbl hK hF hWL hXW hX
 by_cases ha : s.data.toList = anyWord
 ·have t0 : (s.toList == [97, 110, 121]) = true := by rw [HSL.out, ha]; rfl
  have HW : Hid (wordW s.data.toList = some (.mk 1 0 [])) := by show _ = _; unfold wordW; rw [if_pos ha]
  clear ha
  go_enter Tryz.func167, Tryz.ntmps167
  go_upto_region 1 with fail
  rw [HX.out, HWL.out]
  go_wp2_with fail
  refine wp_post (fun W' => W'.heap[X]? = some (.cells #[.int .i64 1, .int .i64 0, .slice none 0 0] 41 (0, 0)) ∧ WL.grownBy W' (some X)) (set3w HZ.out _ _ _) (fun W' hW => ?_)
  refine bodyPost_ret (res_pattern hW.1 _ (b := .bool true) rfl rfl) rfl ?_
  rw [← HPP.out]
  exact ⟨by rw [HW.out]; rfl, HBL.out.grown hW.2 HBL.out.size (fun k hk => by injection hk with hk; have := HX.out; omega)⟩
 ·have t0 : (s.toList == [97, 110, 121]) = false := by rw [beq_eq_false_iff_ne, HSL.out]; exact ha
  have HW0 : Hid (wordW s.data.toList = match fFrom (kindWords.drop 0) 0 s.data.toList with
   | some k => some (.mk 2 (k : Nat) [])
   | none => match fFrom (faceWords.drop 0) 0 s.data.toList with
    | some k => some (.mk 3 (k : Nat) [])
    | none => none) := by show _ = _; unfold wordW; rw [if_neg ha]; rfl
  clear ha
  go_enter Tryz.func167, Tryz.ntmps167
  go_upto_region 1 with fail
  rw [HX.out, HWL.out]
  go_wp2_with (refine wpList_load_mid rfl _ _ rfl 1 0 rfl (tabV kindWords) _ hK' Tryz.underlying179 rfl (by kernel_rfl) ?_)
  go_loopw [4, 5, 12] (fun _ _ s12 wr => ∃ k : Nat, k ≤ 14 ∧ s12 = .int .i64 (k : Nat) ∧ Hid (fFrom (kindWords.drop 0) 0 s.data.toList = fFrom (kindWords.drop k) k s.data.toList) ∧ WL = wr) (fun _ _ s12 _ => 14 - (intOf s12).toNat)
  case atStart => exact ⟨0, by omega, rfl, rfl, rfl⟩
  case round =>
   obtain ⟨k, hk, rfl, HK, hwr⟩ := hrel
   subst hwr
   by_cases hlt : k < 14
   ·have hx : ∀ w, (Instr.index 179 (.agg (tabV kindWords).toArray) (.int .i64 (k : Nat))).run Tryz.prog w = .ok (.string (ba (kindWords.getD k []))) w := fun w => idx_kind w k hlt
    have hst := fFrom_step (ws := kindWords) (k := k) hlt s.data.toList
    have hltI : (k : Int) < 14 := by omega
    by_cases he : kindWords.getD k [] = s.data.toList
    ·have t1 : ((ba (kindWords.getD k [])).toList == s.toList) = true := by rw [ba_toList, HSL.out, he]; simp
     rw [if_pos he] at hst
     have HW : Hid (wordW s.data.toList = some (.mk 2 (k : Nat) [])) := by show _ = _; rw [HW0.out, HK.out, hst]
     clear hst he
     generalize kindWords.getD k [] = wd at *
     go_wp2_with fail
     refine wp_post (fun W' => W'.heap[X]? = some (.cells #[.int .i64 2, .int .i64 (k : Nat), .slice none 0 0] 41 (0, 0)) ∧ WL.grownBy W' (some X)) (set3w HZ.out _ _ _) (fun W' hW => ?_)
     refine bodyPost_ret (res_pattern hW.1 _ (b := .bool true) rfl rfl) rfl ?_
     rw [← HPP.out]
     exact ⟨by rw [HW.out]; rfl, HBL.out.grown hW.2 HBL.out.size (fun k hk => by injection hk with hk; have := HX.out; omega)⟩
    ·have t1 : ((ba (kindWords.getD k [])).toList == s.toList) = false := by rw [beq_eq_false_iff_ne, ba_toList, HSL.out]; exact he
     rw [if_neg he] at hst
     have HK2 : Hid (fFrom (kindWords.drop 0) 0 s.data.toList = fFrom (kindWords.drop (k + 1)) (k + 1) s.data.toList) := HK.out.trans hst
     clear hst he
     generalize kindWords.getD k [] = wd at *
     go_wp2_with fail
     go_roundw
     case rel => exact ⟨k + 1, by omega, by go_num, HK2.out, (by first | rfl | trivial)⟩
     case measure => simp [intOf]; omega
   ·obtain rfl : k = 14 := by omega
    have HW1 : Hid (wordW s.data.toList = match fFrom (faceWords.drop 0) 0 s.data.toList with
     | some k => some (.mk 3 (k : Nat) [])
     | none => none) := by show _ = _; rw [HW0.out, HK.out]; rfl
    clear hK' HK
    go_wp2_with (refine wpList_load_mid rfl _ _ rfl 2 0 rfl (tabV faceWords) _ hF' Tryz.underlying180 rfl (by kernel_rfl) ?_)
    go_loopw [6, 7, 23] (fun _ _ s23 wr2 => ∃ k : Nat, k ≤ 10 ∧ s23 = .int .i64 (k : Nat) ∧ Hid (fFrom (faceWords.drop 0) 0 s.data.toList = fFrom (faceWords.drop k) k s.data.toList) ∧ WL = wr2) (fun _ _ s23 _ => 10 - (intOf s23).toNat)
    case atStart => exact ⟨0, by omega, rfl, rfl, rfl⟩
    case round =>
     obtain ⟨k, hk, rfl, HK, hwr⟩ := hrel
     subst hwr
     by_cases hlt : k < 10
     ·have hx : ∀ w, (Instr.index 180 (.agg (tabV faceWords).toArray) (.int .i64 (k : Nat))).run Tryz.prog w = .ok (.string (ba (faceWords.getD k []))) w := fun w => idx_face w k hlt
      have hst := fFrom_step (ws := faceWords) (k := k) hlt s.data.toList
      have hltI : (k : Int) < 10 := by omega
      by_cases he : faceWords.getD k [] = s.data.toList
      ·have t1 : ((ba (faceWords.getD k [])).toList == s.toList) = true := by rw [ba_toList, HSL.out, he]; simp
       rw [if_pos he] at hst
       have HW : Hid (wordW s.data.toList = some (.mk 3 (k : Nat) [])) := by show _ = _; rw [HW1.out, HK.out, hst]
       clear hst he
       generalize faceWords.getD k [] = wd at *
       go_wp2_with fail
       refine wp_post (fun W' => W'.heap[X]? = some (.cells #[.int .i64 3, .int .i64 (k : Nat), .slice none 0 0] 41 (0, 0)) ∧ WL.grownBy W' (some X)) (set3w HZ.out _ _ _) (fun W' hW => ?_)
       refine bodyPost_ret (res_pattern hW.1 _ (b := .bool true) rfl rfl) rfl ?_
       rw [← HPP.out]
       exact ⟨by rw [HW.out]; rfl, HBL.out.grown hW.2 HBL.out.size (fun k hk => by injection hk with hk; have := HX.out; omega)⟩
      ·have t1 : ((ba (faceWords.getD k [])).toList == s.toList) = false := by rw [beq_eq_false_iff_ne, ba_toList, HSL.out]; exact he
       rw [if_neg he] at hst
       have HK2 : Hid (fFrom (faceWords.drop 0) 0 s.data.toList = fFrom (faceWords.drop (k + 1)) (k + 1) s.data.toList) := HK.out.trans hst
       clear hst he
       generalize faceWords.getD k [] = wd at *
       go_wp2_with fail
       go_roundw
       case rel => exact ⟨k + 1, by omega, by go_num, HK2.out, (by first | rfl | trivial)⟩
       case measure => simp [intOf]; omega
     ·obtain rfl : k = 10 := by omega
      have HW : Hid (wordW s.data.toList = none) := by show _ = _; rw [HW1.out, HK.out]; rfl
      clear HK
      go_wp2_with fail
      refine wp_post (fun W' => W'.heap[X]? = some (.cells #[.int .i64 0, .int .i64 0, .slice none 0 0] 41 (0, 0)) ∧ WL.grownBy W' (some X)) (set3w HZ.out _ _ _) (fun W' hW => ?_)
      refine bodyPost_ret (res_pattern hW.1 _ (b := .bool false) rfl rfl) rfl ?_
      rw [← HPP.out]
      exact ⟨by rw [HW.out]; rfl, HBL.out.grown hW.2 HBL.out.size (fun k hk => by injection hk with hk; have := HX.out; omega)⟩
theorem tdeeper_any {W0 W : World} {B : Nat} {T : TypeId} {S : Src} {tv nv brk : Value} {a deep : Nat} (hC : Cx W0 S tv nv brk) (h : At W0 W B T S tv nv a deep) (hd : deep ≤ 32) (hl : a < S.ts.length) :
  Calls Tryz.prog 166 #[.pointer (some ⟨B, 0, none⟩)] W fun e w' => if deep = 32 then Fails W0 B T S tv nv brk W (posP S a) 71 e w' else e = .returned (.tuple #[]) ∧ At W0 w' B T S tv nv (a + 1) (deep + 1) ∧ W.grownBy w' (some B) := by
 obtain ⟨PP, hPP⟩ : ∃ PP : Ending → World → Prop, (fun e w' => if deep = 32 then Fails W0 B T S tv nv brk W (posP S a) 71 e w' else e = .returned (.tuple #[]) ∧ At W0 w' B T S tv nv (a + 1) (deep + 1) ∧ W.grownBy w' (some B)) = PP := ⟨_, rfl⟩
 rw [hPP]
 have HPP := Lib.hid hPP
 obtain ⟨fp, fe, hbx⟩ := h.box
 obtain ⟨c0, c1, c2, c3, c4, c5, c6, hbl⟩ := hbx.cells
 have f3 := hbx.free 3
 have f6 := hbx.free 6
 have HA := Lib.hid h
 have HBX := Lib.hid hbx
 have hfew := hC.few
 clear hPP hbx
 by_cases h32 : deep = 32
 ·subst h32
  have CF : Hid (Calls Tryz.prog 55 #[.pointer (some ⟨B, 0, none⟩), .int .i64 71] W (Fails W0 B T S tv nv brk W (posP S a) 71)) := tfail_any hC h 71
  clear hC h
  go_enter Tryz.func166, Tryz.ntmps166
  go_wp2_with fail
  refine CF.out.mono ?_
  rintro e w1 ⟨rfl, h1⟩
  refine ⟨rfl, ?_⟩
  rw [← HPP.out]
  exact ⟨rfl, h1⟩
 ·have hd2 : ((deep : Int) == 32) = false := by rw [beq_eq_false_iff_ne]; omega
  have e1 : wrap64 ((deep : Int) + 1) = ((deep + 1 : Nat) : Int) := by unfold wrap64; omega
  have e2 : wrap64 ((a : Int) + 1) = ((a + 1 : Nat) : Int) := by unfold wrap64; omega
  have H32 := Lib.hid h32
  clear hC h h32
  go_enter Tryz.func166, Tryz.ntmps166
  go_wp2_with fail
  go_end0
  rw [← HPP.out]
  show if deep = 32 then _ else _
  rw [if_neg H32.out]
  have hgr : W.grownBy ((W.setCell ⟨B, 6, none⟩ (.int .i64 ((deep + 1 : Nat) : Int))).setCell ⟨B, 3, none⟩ (.int .i64 ((a + 1 : Nat) : Int))) (some B) := g_set (g_set (g_refl W B) _) _
  have hb := HA.out
  refine ⟨rfl, ⟨⟨fp, fe, heap_setCell_same _ B 3 _ _ _ (heap_setCell_same W B 6 _ _ _ HBX.out)⟩, hb.bel.grown hgr hb.bel.size (fun k hk => by injection hk with hk; have := hb.lo; omega), hb.lo, by omega⟩, hgr⟩
end
section
open Go Go.RowKit
attribute [local go_sem ↓] Go.wp_at_zero Go.wp_at_succ

def RepW (P : Nat → Prop) (w : World) (v : Value) (x : Wt) : Prop := ∃ q n c, v = .agg #[.int .i64 x.op, .int .i64 x.num, .slice q n c] ∧ RWt P w [.int .i64 x.op, .int .i64 x.num, .slice q n c] x
theorem repW_of {P : Nat → Prop} {w : World} {c0 c1 c2 : Value} {x : Wt} (h : RWt P w [c0, c1, c2] x) : RepW P w (.agg #[c0, c1, c2]) x := by
 obtain ⟨k, h⟩ := h
 obtain ⟨k', p, cap, rfl, e⟩ := h.form
 injection e with e0 e
 injection e with e1 e
 injection e with e2
 subst e0; subst e1; subst e2
 exact ⟨p, _, cap, rfl, _, h⟩
theorem wt_uniform {P : Nat → Prop} {W : World} : ∀ (xs : List Wt) (css : List (List Value)), css.length = xs.length → (∀ (j : Nat) (cs : List Value) (x : Wt), css[j]? = some cs → xs[j]? = some x → RWt P W cs x) → ∃ K, ∀ (j : Nat) (cs : List Value) (x : Wt), css[j]? = some cs → xs[j]? = some x → WtP P W K cs x
 | [], _, _, _ => ⟨0, fun j cs x _ h => by simp at h⟩
 | x :: xs, [], h, _ => by cases h
 | x :: xs, c :: css, hl, h => by
  obtain ⟨K, hK⟩ := wt_uniform xs css (by simpa using hl) fun j cs y h1 h2 => h (j + 1) cs y h1 h2
  obtain ⟨k, hk⟩ := h 0 c x rfl rfl
  refine ⟨k + K, fun j cs y h1 h2 => ?_⟩
  cases j with
  | zero => injection h1 with h1; injection h2 with h2; subst h1; subst h2; exact hk.mono K
  | succ j =>
   have := (hK j cs y h1 h2).mono k
   rwa [Nat.add_comm] at this
theorem flat_at {k : Nat} : ∀ {css : List (List Value)} {j : Nat} {cs : List Value}, (∀ cs ∈ css, cs.length = k) → css[j]? = some cs → ∀ (i : Nat) (u : Value), cs[i]? = some u → css.flatten[j * k + i]? = some u
 | [], _, _, _, h, _, _, _ => by cases h
 | c :: css, 0, cs, hk, h, i, u, hu => by
  injection h with h
  subst h
  rw [List.flatten_cons, Nat.zero_mul, Nat.zero_add, List.getElem?_append_left (List.getElem?_eq_some_iff.1 hu).1]
  exact hu
 | c :: css, j + 1, cs, hk, h, i, u, hu => by
  have ih := flat_at (css := css) (j := j) (fun c hc => hk c (List.mem_cons_of_mem _ hc)) h i u hu
  have hc := hk c (List.mem_cons_self ..)
  rw [List.flatten_cons, List.getElem?_append_right (by rw [hc, Nat.add_mul]; omega), hc, show (j + 1) * k + i - k = j * k + i by rw [Nat.add_mul]; omega]
  exact ih
theorem wt_list {base : Nat} {W : World} {q : Option Addr} {n c : Nat} {xs : List Wt} (h : ORow RWt base 41 3 W (.slice q n c) xs) (op : Int) : RWt (fun b => base ≤ b) W [.int .i64 op, .int .i64 0, .slice q n c] (.mk op 0 xs) := by
 obtain ⟨css, h1, h2, h3, h4⟩ := h.list goes_wt
 obtain ⟨K, hK⟩ := wt_uniform xs css h1 h4
 obtain ⟨-, p, cap, e, k1, k2, k3⟩ := h2
 injection e with e1 e2 e3
 subst e1; subst e2; subst e3
 refine ⟨K + 1, q, c, rfl, k1, k2, fun hn => ?_⟩
 obtain ⟨b, o, k4, k5, k6, k7⟩ := k3 hn
 refine ⟨b, o, k4, k5, k6, fun j x hx => ?_⟩
 have hjl := (List.getElem?_eq_some_iff.1 hx).1
 obtain ⟨cs, hcs⟩ : ∃ cs, css[j]? = some cs := ⟨_, List.getElem?_eq_getElem (by omega)⟩
 have hw := hK j cs x hcs hx
 obtain ⟨k', p, cap, -, rfl⟩ := hw.form
 have g := flat_at h3 hcs
 have g0 := k7 _ _ (g 0 _ rfl)
 have g1 := k7 _ _ (g 1 _ rfl)
 have g2 := k7 _ _ (g 2 _ rfl)
 exact ⟨_, _, _, g0, by rw [Nat.add_assoc]; exact g1, by rw [Nat.add_assoc]; exact g2, hw⟩
theorem info_want : (Tryz.prog.info? 41).map (fun i => (i.zero, i.size, i.bytes)) = some (some (.agg #[.int .i64 0, .int .i64 0, .slice none 0 0]), 3, 40) := by kernel_rfl
theorem res_row {W : World} {B : Nat} {cs : Array Value} (h : W.heap[B]? = some (.cells cs 41 (0, 0))) (hs : cs.size = 3) (tmps : Array Value) (h4 : tmps.getD 8 undef = .pointer (some ⟨B, 0, none⟩)) :
  (results Tryz.f100 tmps).run Tryz.prog W = .ok (.agg cs) W := by
 have h4' : tmps[8]?.getD undef = .pointer (some ⟨B, 0, none⟩) := by simpa using h4
 have hl := run_loadVar_row (P := Tryz.prog) W B 41 41 cs (0, 0) _ h Tryz.underlying41 rfl (by rw [hs]; kernel_rfl)
 simp [results, Tryz.results100, h4', asAddr, hl]
theorem moreW_stop {S : Src} {mark : Nat} {g : Nat → PR Wt} {f a : Nat} {acc : List Wt} (h : kindP S a ≠ mark) : moreW S mark g f acc a = .ok acc a := by
 cases f with
 | zero => rfl
 | succ f => unfold moreW; rw [if_neg h]
theorem moreW_go {S : Src} {mark : Nat} {g : Nat → PR Wt} {f a : Nat} {acc : List Wt} (h : kindP S a = mark) : moreW S mark g (f + 1) acc a = (g (a + 1)).bind fun x a => moreW S mark g f (acc ++ [x]) a := by
 conv => lhs; unfold moreW
 rw [if_pos h]
theorem joinW_one (op : Int) (x : Wt) : joinW op [x] = x := rfl
theorem joinW_more {op : Int} {l : List Wt} (h : l.length ≠ 1) : joinW op l = .mk op 0 l := by
 match l, h with
 | [], _ => rfl
 | [x], h => exact absurd rfl h
 | x :: y :: l, _ => rfl
set_option maxRecDepth 100000 in
set_option maxHeartbeats 4000000 in
theorem trow_any {W0 W : World} {B : Nat} {T : TypeId} {S : Src} {tv nv brk : Value} {a deep : Nat} (hC : Cx W0 S tv nv brk) (h : At W0 W B T S tv nv a deep) (op : Int) (mark : Nat) (hm : 0 < mark) (F : FuncId) (g : Nat → PR Wt) (hle : ∀ b x c, g b = .ok x c → b < c) (hF : ∀ (args : Array Value) (w : World), Sem.run Tryz.prog (callFunc F args) w = .ok (.enter F args) w)
  (CO : ∀ W' b, At W0 W' B T S tv nv b deep → a ≤ b → Calls Tryz.prog F #[.pointer (some ⟨B, 0, none⟩)] W' (StepPost W0 B T S tv nv brk deep RepW W' (g b))) :
  Calls Tryz.prog 100 #[.pointer (some ⟨B, 0, none⟩), .int .i64 op, .int .i64 (mark : Nat), .func (.func F) #[.pointer (some ⟨B, 0, none⟩)] #[]] W (StepPost W0 B T S tv nv brk deep RepW W (rowP S op mark g a)) := by
 obtain ⟨PP, hPP⟩ : ∃ PP : Ending → World → Prop, StepPost W0 B T S tv nv brk deep RepW W (rowP S op mark g a) = PP := ⟨_, rfl⟩
 rw [hPP]
 have HPP := Lib.hid hPP
 have HC := Lib.hid hC
 have HA := Lib.hid h
 have HCO := Lib.hid CO
 have HLE := Lib.hid hle
 have hBl := h.lt
 have hfew := hC.few
 obtain ⟨i0, hi, hz0, hz1, hz2⟩ := info_of info_want
 obtain ⟨X, hX⟩ : ∃ X, W.heap.size = X := ⟨_, rfl⟩
 obtain ⟨WA, hWA⟩ : ∃ WA, W.alloc (.cells #[.int .i64 0, .int .i64 0, .slice none 0 0] 41) = WA := ⟨_, rfl⟩
 have hz := aRow_ hWA hX
 have hbA : Below W.heap.size W WA := by rw [← hWA]; exact (Below.refl _ W).alloc (Nat.le_refl _) _
 have hsA : WA.heap.size = X + 1 := by rw [← hWA, ← hX]; simp
 have hXB : B < X := by omega
 have HX := Lib.hid hX
 have HWA := Lib.hid hWA
 have HZ := Lib.hid hz
 have HBA := Lib.hid hbA
 have HSA := Lib.hid hsA
 clear hPP hC h CO hle hX hWA hz hbA hsA
 go_enter Tryz.func100, Tryz.ntmps100
 go_upto_region 1 with fail
 rw [HX.out, HWA.out]
 go_wp2_with fail
 have C1 := HCO.out WA a (HA.out.below HBA.out) (Nat.le_refl _)
 cases hg : g a with
 | bad p k =>
  have HG := Lib.hid hg
  rw [hg] at C1
  refine C1.mono ?_
  rintro e1 w1 ⟨rfl, h1, h2⟩
  refine ⟨rfl, ?_⟩
  rw [← HPP.out]
  unfold rowP
  rw [HG.out]
  exact ⟨rfl, h1, g_trans (g_of HBA.out) h2⟩
 | ok x a1 =>
  have HG := Lib.hid hg
  have hlt1 := HLE.out _ _ _ hg
  rw [hg] at C1
  have HL : Hid (rowP S op mark g a = (moreW S mark g (fuel S) [x] a1).bind fun l a => .ok (joinW op l) a) := by show _ = _; unfold rowP; rw [HG.out]; rfl
  refine C1.mono ?_
  rintro e1 w1 ⟨v, rfl, ⟨q, n, c, rfl, hv⟩, hA1, hg1⟩
  have hws := hg1.size
  have hs1 := HSA.out
  have hr1 : ORow RWt (X + 1) 41 3 (w1.alloc (.cells #[.int .i64 x.op, .int .i64 x.num, .slice q n c] 41)) (.slice (some ⟨w1.heap.size, 0, none⟩) 1 1) [x] := ⟨[[.int .i64 x.op, .int .i64 x.num, .slice q n c]], rfl, World.ownsRow_lit _ _ 1 (by omega) (by decide) rfl, fun cs hc => by rw [List.mem_singleton] at hc; subst hc; rfl, fun j cs y hc hy => by
   cases j with
   | zero =>
    injection hc with hc
    injection hy with hy
    subst hc; subst hy
    exact goes_wt _ _ w1 _ (fun b hb hl => ⟨Below.heap_alloc _ _ _ hl, by omega, fun e => by injection e with e; have e : b = w1.heap.size := e; omega⟩) _ _ hv
   | succ j => cases hc⟩
  have hb1 : Below w1.heap.size w1 (w1.alloc (.cells #[.int .i64 x.op, .int .i64 x.num, .slice q n c] 41)) := (Below.refl _ _).alloc (Nat.le_refl _) _
  have hz1 : (w1.alloc (.cells #[.int .i64 x.op, .int .i64 x.num, .slice q n c] 41)).heap[X]? = some (.cells #[.int .i64 0, .int .i64 0, .slice none 0 0] 41 (0, 0)) := (hb1.block X (by omega)).trans ((hg1.block X (by omega) (fun e => by injection e with e; omega)).trans HZ.out)
  have HR1 := Lib.hid hr1
  have HA2 := Lib.hid (hA1.below hb1)
  have HG2 := Lib.hid (g_below (g_trans (g_of (B := B) HBA.out) hg1) hb1)
  have HZ1 := Lib.hid hz1
  have hfu : S.ts.length < fuel S + a1 := by unfold fuel; omega
  clear hg hr1 hb1 hA1 hg1 C1 hws hz1 hv hs1
  go_wp2_with fail
  go_loopw [9] (fun s9 wr => ∃ (f a' : Nat) (q : Option Addr) (c : Nat) (acc : List Wt), s9 = .slice q acc.length c ∧ S.ts.length < f + a' ∧ acc.length ≤ a' ∧ a < a' ∧ Hid (rowP S op mark g a = (moreW S mark g f acc a').bind fun l a => .ok (joinW op l) a) ∧ Hid (ORow RWt (X + 1) 41 3 wr (.slice q acc.length c) acc) ∧ Hid (At W0 wr B T S tv nv a' deep) ∧ Hid (W.grownBy wr (some B)) ∧ Hid (wr.heap[X]? = some (.cells #[.int .i64 0, .int .i64 0, .slice none 0 0] 41 (0, 0)))) (fun _ wr => leftM S B wr)
  case atStart => exact ⟨fuel S, a1, _, _, [x], rfl, hfu, by rw [List.length_singleton]; omega, hlt1, HL.out, HR1.out, HA2.out, HG2.out, HZ1.out⟩
  case round =>
   clear HL HR1 HA2 HG2 hfu HZ1 hlt1 HG
   obtain ⟨f, a', q, c, acc, rfl, hfu, hac, haa, HL, HR, HAr, HG, HZr⟩ := hrel
   have hin := HAr.out.in_
   have CT := Lib.hid (ttake_any HC.out HAr.out mark hm)
   have HMR := Lib.hid (left_at HAr.out)
   have hXr : X < wr.heap.size := (Array.getElem?_eq_some_iff.1 HZr.out).1
   by_cases hk : kindP S a' = mark
   ·have hlt := kind_lt hk hm
    obtain ⟨f', rfl⟩ : ∃ f', f = f' + 1 := ⟨f - 1, by omega⟩
    have HL2 : Hid (rowP S op mark g a = ((g (a' + 1)).bind fun x a => moreW S mark g f' (acc ++ [x]) a).bind fun l a => .ok (joinW op l) a) := by show rowP S op mark g a = _; rw [HL.out, moreW_go hk]
    rw [decide_eq_true hk, if_pos hk] at CT
    clear hk
    go_wp2_with fail
    refine CT.out.mono ?_
    rintro e2 w2 ⟨rfl, hA2, hg2⟩
    have CN2 := Lib.hid (HCO.out w2 (a' + 1) hA2 (by omega))
    have HA2 := Lib.hid hA2
    have HG2 := Lib.hid (g_trans HG.out hg2)
    have HR2 := Lib.hid (goes_ok goes_wt HR.out hg2 (by omega))
    have HZ2 : Hid (w2.heap[X]? = some (.cells #[.int .i64 0, .int .i64 0, .slice none 0 0] 41 (0, 0))) := (hg2.block X hXr (fun e => by injection e with e; omega)).trans HZr.out
    clear hA2 hg2
    go_wp2_with fail
    cases hn : g (a' + 1) with
    | bad p k =>
     have HN := Lib.hid hn
     rw [hn] at CN2
     clear hn
     refine CN2.out.mono ?_
     rintro e3 w3 ⟨rfl, h1, h2⟩
     refine ⟨rfl, ?_⟩
     rw [← HPP.out, HL2.out, HN.out]
     exact ⟨rfl, h1, g_trans HG2.out h2⟩
    | ok x2 a2 =>
     have HN := Lib.hid hn
     have hlt2 := HLE.out _ _ _ hn
     rw [hn] at CN2
     refine CN2.out.mono ?_
     rintro e3 w3 ⟨v3, rfl, ⟨q3, n3, c3, rfl, hv3⟩, hA3, hg3⟩
     have HL3 : Hid (rowP S op mark g a = (moreW S mark g f' (acc ++ [x2]) a2).bind fun l a => .ok (joinW op l) a) := by show _ = _; rw [HL2.out, HN.out]; rfl
     obtain ⟨css, x1, xo, x3, x4⟩ := goes_ok goes_wt HR2.out hg3 (by omega)
     have HX2 := Lib.hid xo
     have HX4 := Lib.hid x4
     have HX3 := Lib.hid x3
     have HV3 := Lib.hid hv3
     have HA3 := Lib.hid hA3
     have HG3 := Lib.hid (g_trans HG2.out hg3)
     have hX2l := (Array.getElem?_eq_some_iff.1 HZ2.out).1
     have HZ3 : Hid (w3.heap[X]? = some (.cells #[.int .i64 0, .int .i64 0, .slice none 0 0] 41 (0, 0))) := (hg3.block X hX2l (fun e => by injection e with e; omega)).trans HZ2.out
     have hs3 := hg3.size
     have hal : acc.length ≤ 20000 := by omega
     clear hn xo x3 x4 hA3 hg3 CN2 hv3
     go_wp2_with (at_builtin; refine wpList_append_own_at _ rfl _ _ 39 rfl (X + 1) 41 i0 _ 3 40 Tryz.underlying39 hi hz0 hz1 hz2 rfl (by decide) _ _ _ rfl (HX2.out.alloc _) ⟨w3.heap.size, 0, none⟩ 1 1 [.int .i64 x2.op, .int .i64 x2.num, .slice q3 n3 c3] rfl rfl (news_flat w3 _ _) (by intro u hu; simp at hu; rcases hu with rfl | rfl | rfl <;> rfl) (by unfold maxLen; omega) (by omega) (by simp; omega) ?_; intro v2 w6 hown2 hg6 hnil2 hloc2; have HOW2 := Lib.hid hown2; have HG6 := Lib.hid hg6; have HLOC := Lib.hid hloc2; clear hown2 hg6 hnil2 hloc2)
     have HK : Hid (ORow RWt (X + 1) 41 3 w6 v2 (acc ++ [x2])) := ORow.snoc goes_wt HR2.out x1 HX3.out HX4.out (cs := [.int .i64 x2.op, .int .i64 x2.num, .slice q3 n3 c3]) HV3.out rfl (by omega) HG6.out HLOC.out HOW2.out
     have HA6 := Lib.hid (HA3.out.app HG6.out (fun k hk => by have := (HR2.out.lt k hk).1; omega))
     have HGW := Lib.hid (g_app HG3.out HG6.out (fun k hk => by have := (HR2.out.lt k hk).1; have := HX.out; omega))
     have hX3l := (Array.getElem?_eq_some_iff.1 HZ3.out).1
     have HZ6 : Hid (w6.heap[X]? = some (.cells #[.int .i64 0, .int .i64 0, .slice none 0 0] 41 (0, 0))) := (HG6.out.block X (by rw [World.size_alloc]; omega) (fun e => by have := (HR2.out.lt X e.symm).1; omega)).trans ((Below.heap_alloc _ _ _ hX3l).trans HZ3.out)
     have HM6 := Lib.hid (left_at HA6.out)
     obtain ⟨q6, c6, rfl⟩ := HK.out.shape
     go_roundw
     case rel => exact ⟨f', a2, q6, c6, acc ++ [x2], rfl, by omega, by rw [List.length_append, List.length_singleton]; omega, by omega, HL3.out, HK.out, HA6.out, HGW.out, HZ6.out⟩
     case measure => rw [HM6.out, HMR.out]; omega
   ·rw [decide_eq_false hk, if_neg hk] at CT
    have HL2 : Hid (rowP S op mark g a = .ok (joinW op acc) a') := by show rowP S op mark g a = _; rw [HL.out, moreW_stop hk]; rfl
    clear hk
    go_wp2_with fail
    refine CT.out.mono ?_
    rintro e2 w2 ⟨rfl, hA2, hg2⟩
    have HA2 := Lib.hid hA2
    have HG2 := Lib.hid (g_trans HG.out hg2)
    have HR2 := Lib.hid (goes_ok goes_wt HR.out hg2 (by omega))
    have hz2 : w2.heap[X]? = some (.cells #[.int .i64 0, .int .i64 0, .slice none 0 0] 41 (0, 0)) := (hg2.block X hXr (fun e => by injection e with e; omega)).trans HZr.out
    obtain ⟨x0, x1, x2⟩ := row3_ hz2
    have f0 := frozen_of_row w2 X 0 _ _ hz2
    have f1 := frozen_of_row w2 X 1 _ _ hz2
    have f2 := frozen_of_row w2 X 2 _ _ hz2
    have xl := (Array.getElem?_eq_some_iff.1 hz2).1
    have HZ2 := Lib.hid hz2
    have HFIN : Hid (∀ (c0 c1 c2 : Value) (W' : World), W'.heap[X]? = some (.cells #[c0, c1, c2] 41 (0, 0)) → w2.grownBy W' (some X) → RWt (fun b => X + 1 ≤ b) w2 [c0, c1, c2] (joinW op acc) → PP (.returned (.agg #[c0, c1, c2])) W') := fun c0 c1 c2 W' h1 h2 h3 => by
     rw [← HPP.out, HL2.out]
     have hG := HG2.out
     have hA := HA2.out
     have hXs := HX.out
     refine ⟨_, rfl, repW_of (goes_wt _ _ w2 W' (fun b hb hl => ⟨h2.block b hl (fun e => by injection e with e; omega), by omega⟩) _ _ h3), ?_, ?_⟩
     ·obtain ⟨fp, fe, hbx⟩ := hA.box
      exact ⟨⟨fp, fe, (h2.block B hA.lt (fun e => by injection e with e; omega)).trans hbx⟩, hA.bel.grown h2 hA.bel.size (fun k hk => by injection hk with hk; have := HA.out.bel.size; omega), hA.lo, hA.in_⟩
     ·exact ⟨h2.os.trans hG.os, h2.tape.trans hG.tape, h2.output.trans hG.output, Nat.le_trans hG.size h2.size, fun j hj hne => (h2.block j (Nat.lt_of_lt_of_le hj hG.size) (fun e => by injection e with e; omega)).trans (hG.block j hj hne)⟩
    clear hA2 hg2 hz2
    by_cases h1 : acc.length = 1
    ·obtain ⟨x, rfl⟩ : ∃ x, acc = [x] := List.length_eq_one_iff.1 h1
     have t1 : (([x] : List Wt).length == 1) = true := rfl
     obtain ⟨css, y1, y2, y3, y4⟩ := HR2.out.list goes_wt
     obtain ⟨cs, hcs⟩ : ∃ cs, css[0]? = some cs := ⟨_, List.getElem?_eq_getElem (by rw [y1]; exact Nat.one_pos)⟩
     have hw := y4 0 cs x hcs rfl
     obtain ⟨kk, hw1⟩ := hw
     obtain ⟨k', p', cap', -, ecs⟩ := hw1.form
     have g0 := flat_at y3 hcs
     rw [ecs] at g0 hw1
     obtain ⟨-, p, cap, e, k1, k2, k3⟩ := y2
     injection e with e1 e2 e3
     subst e1
     obtain ⟨b, o, k4, k5, rfl, k7⟩ := k3 (by rw [List.length_singleton]; omega)
     have z0 := k7 _ _ (g0 0 _ rfl)
     have z1 := k7 _ _ (g0 1 _ rfl)
     have z2 := k7 _ _ (g0 2 _ rfl)
     rw [Nat.zero_mul, Nat.zero_add, Nat.add_zero] at z0
     rw [Nat.zero_mul, Nat.zero_add] at z1 z2
     have HW1 := Lib.hid hw1
     clear g0 k7 k3 y1 y3 y4 hcs ecs hw1 e2 e3 h1
     go_wp2_with fail
     refine wp_post (fun W' => W'.heap[X]? = some (.cells #[.int .i64 x.op, .int .i64 x.num, .slice p' x.l.length cap'] 41 (0, 0)) ∧ w2.grownBy W' (some X)) (set3w HZ2.out _ _ _) (fun W' hW => ?_)
     exact bodyPost_ret (res_row hW.1 rfl _ rfl) rfl (HFIN.out _ _ _ _ hW.1 hW.2 ⟨_, HW1.out⟩)
    ·have t1 : ((acc.length : Int) == 1) = false := by rw [beq_eq_false_iff_ne]; omega
     have HJ := Lib.hid (joinW_more (op := op) h1)
     clear h1
     go_wp2_with fail
     refine wp_post (fun W' => W'.heap[X]? = some (.cells #[.int .i64 op, .int .i64 0, .slice q acc.length c] 41 (0, 0)) ∧ w2.grownBy W' (some X)) (set3w HZ2.out _ _ _) (fun W' hW => ?_)
     exact bodyPost_ret (res_row hW.1 rfl _ rfl) rfl (HFIN.out _ _ _ _ hW.1 hW.2 (by rw [HJ.out]; exact wt_list HR2.out op))
end
section
set_option maxHeartbeats 4000000
set_option maxRecDepth 100000
open Go Go.RowKit
attribute [local go_sem ↓] Go.wp_at_zero Go.wp_at_succ

theorem At.fin {W0 w2 W' : World} {B X : Nat} {T : TypeId} {S : Src} {tv nv : Value} {a deep : Nat} (h : At W0 w2 B T S tv nv a deep) (hg : w2.grownBy W' (some X)) (hX : B < X) : At W0 W' B T S tv nv a deep := by
 obtain ⟨fp, fe, hbx⟩ := h.box
 have hlo := h.lo
 exact ⟨⟨fp, fe, (hg.block B h.lt (fun e => by injection e with e; omega)).trans hbx⟩, h.bel.grown hg h.bel.size (fun k hk => by injection hk with hk; omega), h.lo, h.in_⟩
theorem g_fin {W w2 W' : World} {B X : Nat} (h : W.grownBy w2 (some B)) (hg : w2.grownBy W' (some X)) (hX : W.heap.size ≤ X) : W.grownBy W' (some B) :=
 ⟨hg.os.trans h.os, hg.tape.trans h.tape, hg.output.trans h.output, Nat.le_trans h.size hg.size, fun j hj hne => (hg.block j (Nat.lt_of_lt_of_le hj h.size) (fun e => by injection e with e; omega)).trans (h.block j hj hne)⟩
theorem moreW_le {S : Src} {mark : Nat} {g : Nat → PR Wt} (hg : ∀ b x c, g b = .ok x c → b < c) : ∀ (f : Nat) (acc : List Wt) (a : Nat) (l : List Wt) (b : Nat), moreW S mark g f acc a = .ok l b → a ≤ b
 | 0, acc, a, l, b, h => by injection h with _ h; omega
 | f + 1, acc, a, l, b, h => by
  by_cases hk : kindP S a = mark
  ·rw [moreW_go hk] at h
   cases hn : g (a + 1) with
   | bad p k => rw [hn] at h; cases h
   | ok x c =>
    rw [hn] at h
    have h1 := hg _ _ _ hn
    have h2 := moreW_le hg f _ _ _ _ h
    omega
  ·rw [moreW_stop hk] at h
   injection h with _ h
   omega
theorem rowP_lt {S : Src} {op : Int} {mark : Nat} {g : Nat → PR Wt} (hg : ∀ b x c, g b = .ok x c → b < c) (b : Nat) (x : Wt) (c : Nat) (h : rowP S op mark g b = .ok x c) : b < c := by
 unfold rowP at h
 cases hn : g b with
 | bad p k => rw [hn] at h; cases h
 | ok y d =>
  rw [hn] at h
  have h1 := hg _ _ _ hn
  have h : (moreW S mark g (fuel S) [y] d).bind (fun l a => .ok (joinW op l) a) = .ok x c := h
  cases hm : moreW S mark g (fuel S) [y] d with
  | bad p k => rw [hm] at h; cases h
  | ok l e =>
   rw [hm] at h
   have h2 := moreW_le hg _ _ _ _ _ hm
   injection h with _ h
   omega
theorem oneP_lt {S : Src} : ∀ (f deep b : Nat) (x : Wt) (c : Nat), oneP S f deep b = .ok x c → b < c
 | 0, _, _, _, _, h => by cases h
 | f + 1, deep, b, x, c, h => by
  unfold oneP at h
  split at h
  ·split at h
   ·cases h
   ·cases hn : oneP S f (deep + 1) (b + 1) with
    | bad p k => rw [hn] at h; cases h
    | ok y d =>
     rw [hn] at h
     have := oneP_lt f _ _ _ _ hn
     injection h with _ h
     omega
  ·split at h
   ·split at h
    ·cases h
    ·cases hn : rowP S 4 25 (rowP S 5 16 (oneP S f (deep + 1))) (b + 1) with
     | bad p k => rw [hn] at h; cases h
     | ok y d =>
      rw [hn] at h
      have h1 := rowP_lt (fun b x c h => rowP_lt (fun b x c h => oneP_lt f _ b x c h) b x c h) _ _ _ hn
      have h : (wantP S 18 d).bind (fun _ a => .ok y a) = .ok x c := h
      unfold wantP at h
      split at h
      ·injection h with _ h; omega
      ·cases h
   ·split at h
    ·split at h
     ·injection h with _ h; omega
     ·cases h
    ·cases h
theorem bothP_lt {S : Src} (f deep b : Nat) (x : Wt) (c : Nat) (h : bothP S f deep b = .ok x c) : b < c := rowP_lt (fun b x c h => oneP_lt f _ b x c h) b x c h
theorem res_tboth_any {W : World} {B : Nat} {cs : Array Value} (h : W.heap[B]? = some (.cells cs 41 (0, 0))) (hs : cs.size = 3) (tmps : Array Value) (h4 : tmps.getD 2 undef = .pointer (some ⟨B, 0, none⟩)) :
  (results Tryz.f101 tmps).run Tryz.prog W = .ok (.agg cs) W := by
 have h4' : tmps[2]?.getD undef = .pointer (some ⟨B, 0, none⟩) := by simpa using h4
 have hl := run_loadVar_row (P := Tryz.prog) W B 41 41 cs (0, 0) _ h Tryz.underlying41 rfl (by rw [hs]; kernel_rfl)
 simp [results, Tryz.results101, h4', asAddr, hl]
theorem res_teither_any {W : World} {B : Nat} {cs : Array Value} (h : W.heap[B]? = some (.cells cs 41 (0, 0))) (hs : cs.size = 3) (tmps : Array Value) (h4 : tmps.getD 2 undef = .pointer (some ⟨B, 0, none⟩)) :
  (results Tryz.f53 tmps).run Tryz.prog W = .ok (.agg cs) W := by
 have h4' : tmps[2]?.getD undef = .pointer (some ⟨B, 0, none⟩) := by simpa using h4
 have hl := run_loadVar_row (P := Tryz.prog) W B 41 41 cs (0, 0) _ h Tryz.underlying41 rfl (by rw [hs]; kernel_rfl)
 simp [results, Tryz.results53, h4', asAddr, hl]
theorem res_tone {W : World} {B : Nat} {cs : Array Value} (h : W.heap[B]? = some (.cells cs 41 (0, 0))) (hs : cs.size = 3) (tmps : Array Value) (h4 : tmps.getD 2 undef = .pointer (some ⟨B, 0, none⟩)) :
  (results Tryz.f142 tmps).run Tryz.prog W = .ok (.agg cs) W := by
 have h4' : tmps[2]?.getD undef = .pointer (some ⟨B, 0, none⟩) := by simpa using h4
 have hl := run_loadVar_row (P := Tryz.prog) W B 41 41 cs (0, 0) _ h Tryz.underlying41 rfl (by rw [hs]; kernel_rfl)
 simp [results, Tryz.results142, h4', asAddr, hl]
theorem tboth_any {W0 W : World} {B : Nat} {T : TypeId} {S : Src} {tv nv brk : Value} {a deep : Nat} (hC : Cx W0 S tv nv brk) (h : At W0 W B T S tv nv a deep) (f : Nat)
  (CO : ∀ W' b, At W0 W' B T S tv nv b deep → a ≤ b → Calls Tryz.prog 142 #[.pointer (some ⟨B, 0, none⟩)] W' (StepPost W0 B T S tv nv brk deep RepW W' (oneP S f deep b))) :
  Calls Tryz.prog 101 #[.pointer (some ⟨B, 0, none⟩)] W (StepPost W0 B T S tv nv brk deep RepW W (bothP S f deep a)) := by
 obtain ⟨PP, hPP⟩ : ∃ PP : Ending → World → Prop, StepPost W0 B T S tv nv brk deep RepW W (bothP S f deep a) = PP := ⟨_, rfl⟩
 rw [hPP]
 have HPP := Lib.hid hPP
 obtain ⟨X, hX⟩ : ∃ X, W.heap.size = X := ⟨_, rfl⟩
 obtain ⟨WA, hWA⟩ : ∃ WA, W.alloc (.cells #[.int .i64 0, .int .i64 0, .slice none 0 0] 41) = WA := ⟨_, rfl⟩
 have hz := aRow_ hWA hX
 have hbA : Below W.heap.size W WA := by rw [← hWA]; exact (Below.refl _ W).alloc (Nat.le_refl _) _
 have hsA : WA.heap.size = X + 1 := by rw [← hWA, ← hX]; simp
 have hXB : B < X := by have := h.lt; omega
 have HX := Lib.hid hX
 have HWA := Lib.hid hWA
 have HZ := Lib.hid hz
 have HBA := Lib.hid hbA
 have HSA := Lib.hid hsA
 have HAA := Lib.hid (h.below hbA)
 have HA := Lib.hid h
 have CR : Hid (Calls Tryz.prog 100 #[.pointer (some ⟨B, 0, none⟩), .int .i64 5, .int .i64 16, .func (.func 142) #[.pointer (some ⟨B, 0, none⟩)] #[]] WA (StepPost W0 B T S tv nv brk deep RepW WA (bothP S f deep a))) := trow_any hC HAA.out 5 16 (by omega) 142 (oneP S f deep) (fun b x c h => oneP_lt f _ b x c h) (fun args w => by kernel_rfl) CO
 clear hPP hC h CO hX hWA hz hbA hsA
 have hmf : ∀ (fn : Fn) (first cap : Array Value) (w : World), (Instr.makeFunc fn first cap).run Tryz.prog w = .ok (.func fn first cap) w := fun _ _ _ _ => rfl
 go_enter Tryz.func101, Tryz.ntmps101
 go_upto_region 1 with fail
 rw [HX.out, HWA.out]
 go_wp2_with fail
 cases hg : bothP S f deep a with
 | bad p k =>
  have HG := Lib.hid hg
  rw [hg] at CR
  refine CR.out.mono ?_
  rintro e1 w1 ⟨rfl, h1, h2⟩
  refine ⟨rfl, ?_⟩
  rw [← HPP.out, HG.out]
  exact ⟨rfl, h1, g_trans (g_of HBA.out) h2⟩
 | ok x a1 =>
  have HG := Lib.hid hg
  rw [hg] at CR
  refine CR.out.mono ?_
  rintro e1 w1 ⟨v, rfl, ⟨q, n, c, rfl, hv⟩, hA1, hg1⟩
  have hs1 := HSA.out
  have hz1 : w1.heap[X]? = some (.cells #[.int .i64 0, .int .i64 0, .slice none 0 0] 41 (0, 0)) := (hg1.block X (by omega) (fun e => by injection e with e; omega)).trans HZ.out
  obtain ⟨x0, x1, x2⟩ := row3_ hz1
  have f0 := frozen_of_row w1 X 0 _ _ hz1
  have f1 := frozen_of_row w1 X 1 _ _ hz1
  have f2 := frozen_of_row w1 X 2 _ _ hz1
  have xl := (Array.getElem?_eq_some_iff.1 hz1).1
  have HZ1 := Lib.hid hz1
  have HA1 := Lib.hid hA1
  have HG1 := Lib.hid (g_trans (g_of (B := B) HBA.out) hg1)
  have HV := Lib.hid hv
  clear hz1 hA1 hg1 hv hg hs1
  go_wp2_with fail
  refine wp_post (fun W' => W'.heap[X]? = some (.cells #[.int .i64 x.op, .int .i64 x.num, .slice q n c] 41 (0, 0)) ∧ w1.grownBy W' (some X)) (set3w HZ1.out _ _ _) (fun W' hW => ?_)
  refine bodyPost_ret (res_tboth_any hW.1 rfl _ rfl) rfl ?_
  rw [← HPP.out, HG.out]
  have hXs := HX.out
  have hsa := HSA.out
  exact ⟨_, rfl, repW_of (goes_wt _ _ w1 W' (fun b hb hl => ⟨hW.2.block b hl (fun e => by injection e with e; omega), by omega⟩) _ _ HV.out), HA1.out.fin hW.2 hXB, g_fin HG1.out hW.2 (by omega)⟩
theorem teither_any {W0 W : World} {B : Nat} {T : TypeId} {S : Src} {tv nv brk : Value} {a deep : Nat} (hC : Cx W0 S tv nv brk) (h : At W0 W B T S tv nv a deep) (f : Nat)
  (CO : ∀ W' b, At W0 W' B T S tv nv b deep → a ≤ b → Calls Tryz.prog 101 #[.pointer (some ⟨B, 0, none⟩)] W' (StepPost W0 B T S tv nv brk deep RepW W' (bothP S f deep b))) :
  Calls Tryz.prog 53 #[.pointer (some ⟨B, 0, none⟩)] W (StepPost W0 B T S tv nv brk deep RepW W (eitherP S f deep a)) := by
 obtain ⟨PP, hPP⟩ : ∃ PP : Ending → World → Prop, StepPost W0 B T S tv nv brk deep RepW W (eitherP S f deep a) = PP := ⟨_, rfl⟩
 rw [hPP]
 have HPP := Lib.hid hPP
 obtain ⟨X, hX⟩ : ∃ X, W.heap.size = X := ⟨_, rfl⟩
 obtain ⟨WA, hWA⟩ : ∃ WA, W.alloc (.cells #[.int .i64 0, .int .i64 0, .slice none 0 0] 41) = WA := ⟨_, rfl⟩
 have hz := aRow_ hWA hX
 have hbA : Below W.heap.size W WA := by rw [← hWA]; exact (Below.refl _ W).alloc (Nat.le_refl _) _
 have hsA : WA.heap.size = X + 1 := by rw [← hWA, ← hX]; simp
 have hXB : B < X := by have := h.lt; omega
 have HX := Lib.hid hX
 have HWA := Lib.hid hWA
 have HZ := Lib.hid hz
 have HBA := Lib.hid hbA
 have HSA := Lib.hid hsA
 have HAA := Lib.hid (h.below hbA)
 have HA := Lib.hid h
 have CR : Hid (Calls Tryz.prog 100 #[.pointer (some ⟨B, 0, none⟩), .int .i64 4, .int .i64 25, .func (.func 101) #[.pointer (some ⟨B, 0, none⟩)] #[]] WA (StepPost W0 B T S tv nv brk deep RepW WA (eitherP S f deep a))) := trow_any hC HAA.out 4 25 (by omega) 101 (bothP S f deep) (fun b x c h => bothP_lt f _ b x c h) (fun args w => by kernel_rfl) CO
 clear hPP hC h CO hX hWA hz hbA hsA
 have hmf : ∀ (fn : Fn) (first cap : Array Value) (w : World), (Instr.makeFunc fn first cap).run Tryz.prog w = .ok (.func fn first cap) w := fun _ _ _ _ => rfl
 go_enter Tryz.func53, Tryz.ntmps53
 go_upto_region 1 with fail
 rw [HX.out, HWA.out]
 go_wp2_with fail
 cases hg : eitherP S f deep a with
 | bad p k =>
  have HG := Lib.hid hg
  rw [hg] at CR
  refine CR.out.mono ?_
  rintro e1 w1 ⟨rfl, h1, h2⟩
  refine ⟨rfl, ?_⟩
  rw [← HPP.out, HG.out]
  exact ⟨rfl, h1, g_trans (g_of HBA.out) h2⟩
 | ok x a1 =>
  have HG := Lib.hid hg
  rw [hg] at CR
  refine CR.out.mono ?_
  rintro e1 w1 ⟨v, rfl, ⟨q, n, c, rfl, hv⟩, hA1, hg1⟩
  have hs1 := HSA.out
  have hz1 : w1.heap[X]? = some (.cells #[.int .i64 0, .int .i64 0, .slice none 0 0] 41 (0, 0)) := (hg1.block X (by omega) (fun e => by injection e with e; omega)).trans HZ.out
  obtain ⟨x0, x1, x2⟩ := row3_ hz1
  have f0 := frozen_of_row w1 X 0 _ _ hz1
  have f1 := frozen_of_row w1 X 1 _ _ hz1
  have f2 := frozen_of_row w1 X 2 _ _ hz1
  have xl := (Array.getElem?_eq_some_iff.1 hz1).1
  have HZ1 := Lib.hid hz1
  have HA1 := Lib.hid hA1
  have HG1 := Lib.hid (g_trans (g_of (B := B) HBA.out) hg1)
  have HV := Lib.hid hv
  clear hz1 hA1 hg1 hv hg hs1
  go_wp2_with fail
  refine wp_post (fun W' => W'.heap[X]? = some (.cells #[.int .i64 x.op, .int .i64 x.num, .slice q n c] 41 (0, 0)) ∧ w1.grownBy W' (some X)) (set3w HZ1.out _ _ _) (fun W' hW => ?_)
  refine bodyPost_ret (res_teither_any hW.1 rfl _ rfl) rfl ?_
  rw [← HPP.out, HG.out]
  have hXs := HX.out
  have hsa := HSA.out
  exact ⟨_, rfl, repW_of (goes_wt _ _ w1 W' (fun b hb hl => ⟨hW.2.block b hl (fun e => by injection e with e; omega), by omega⟩) _ _ HV.out), HA1.out.fin hW.2 hXB, g_fin HG1.out hW.2 (by omega)⟩
end
end Go.Proofs.YtbdllefnghddcaaGreatDoor
