/- PARSE: one operand of a pattern. -/
import Derived.Deep.RegionHeld3
import Derived.Test.YtbdllefnghddcaaGreatDoorPOne
import Derived.Test.YtbdllefnghddcaaGreatDoorPMem
namespace Go.Proofs.YtbdllefnghddcaaGreatDoor
open Go Go.RowKit
attribute [local go_sem ↓] Go.wp_at_zero Go.wp_at_succ

theorem one_not {S : Src} {f deep a : Nat} (h : kindP S a = 15) : oneP S (f + 1) deep a = if deep = 32 then .bad (posP S a) 71 else (oneP S f (deep + 1) (a + 1)).bind fun x a => .ok (.mk 6 0 [x]) a := by
 conv => lhs; unfold oneP
 rw [if_pos h]
theorem one_left {S : Src} {f deep a : Nat} (h : kindP S a = 17) : oneP S (f + 1) deep a = if deep = 32 then .bad (posP S a) 71 else (eitherP S f (deep + 1) (a + 1)).bind fun x a => (wantP S 18 a).bind fun _ a => .ok x a := by
 conv => lhs; unfold oneP
 rw [if_neg (by omega), if_pos h]
 rfl
theorem one_name {S : Src} {f deep a : Nat} (h : kindP S a = 1) : oneP S (f + 1) deep a = match wordW (nmP S a).data.toList with
  | some w => .ok w (a + 1)
  | none => .bad (posP S a) 72 := by
 conv => lhs; unfold oneP
 rw [if_neg (by omega), if_neg (by omega), if_pos h]
 cases wordW (nmP S a).data.toList <;> rfl
theorem one_other {S : Src} {f deep a : Nat} (h1 : kindP S a ≠ 15) (h2 : kindP S a ≠ 17) (h3 : kindP S a ≠ 1) : oneP S (f + 1) deep a = .bad (posP S a) 70 := by
 conv => lhs; unfold oneP
 rw [if_neg h1, if_neg h2, if_neg h3]
theorem wordW_leaf {s : List UInt8} {w : Wt} (h : wordW s = some w) : w.l = [] := by
 unfold wordW at h
 split at h
 ·injection h with h; rw [← h]; rfl
 ·split at h
  ·injection h with h; rw [← h]; rfl
  ·split at h
   ·injection h with h; rw [← h]; rfl
   ·cases h
theorem leaf_wt {P : Nat → Prop} {W : World} {wd : Wt} (h : wd.l = []) : RWt P W [.int .i64 wd.op, .int .i64 wd.num, .slice none 0 0] wd := by
 obtain ⟨op, num, l⟩ := wd
 have h : l = [] := h
 subst h
 exact ⟨1, none, 0, rfl, Nat.le_refl _, by omega, fun h => absurd h (Nat.lt_irrefl 0)⟩
theorem At.up {W0 W : World} {B : Nat} {T : TypeId} {S : Src} {tv nv : Value} {a deep : Nat} (h : At W0 W B T S tv nv a (deep + 1)) : W.cell? ⟨B, 6, none⟩ = some (.int .i64 ((deep + 1 : Nat) : Int)) ∧ W.frozen? ⟨B, 6, none⟩ = false ∧ B < W.heap.size ∧ At W0 (W.setCell ⟨B, 6, none⟩ (.int .i64 (deep : Nat))) B T S tv nv a deep ∧ W.grownBy (W.setCell ⟨B, 6, none⟩ (.int .i64 (deep : Nat))) (some B) := by
 obtain ⟨fp, fe, hbx⟩ := h.box
 have hlo := h.lo
 have hgr : W.grownBy (W.setCell ⟨B, 6, none⟩ (.int .i64 (deep : Nat))) (some B) := g_set (g_refl W B) _
 exact ⟨hbx.cells.2.2.2.2.2.2.1, hbx.free 6, h.lt, ⟨⟨fp, fe, heap_setCell_same W B 6 _ _ _ hbx⟩, h.bel.grown hgr h.bel.size (fun k hk => by injection hk with hk; omega), h.lo, h.in_⟩, hgr⟩
set_option maxRecDepth 100000 in
set_option maxHeartbeats 8000000 in
set_option linter.unusedSimpArgs false in
theorem tone_any : ∀ (f : Nat) {W0 W : World} {B : Nat} {T : TypeId} {S : Src} {tv nv brk : Value} {a deep : Nat} (_ : Cx W0 S tv nv brk) (_ : At W0 W B T S tv nv a deep) (_ : deep ≤ 32) (_ : S.ts.length < f + a),
  Calls Tryz.prog 142 #[.pointer (some ⟨B, 0, none⟩)] W (StepPost W0 B T S tv nv brk deep RepW W (oneP S f deep a)) := by
 intro f
 induction f with
 | zero => intro W0 W B T S tv nv brk a deep _ _h _hd _hf; exfalso; have := _h.in_; omega
 | succ f ih =>
  intro W0 W B T S tv nv brk a deep hC h hd hf
  obtain ⟨PP, hPP⟩ : ∃ PP : Ending → World → Prop, StepPost W0 B T S tv nv brk deep RepW W (oneP S (f + 1) deep a) = PP := ⟨_, rfl⟩
  rw [hPP]
  have HPP := Lib.hid hPP
  obtain ⟨X, hX⟩ : ∃ X, W.heap.size = X := ⟨_, rfl⟩
  obtain ⟨WA, hWA⟩ : ∃ WA, W.alloc (.cells #[.int .i64 0, .int .i64 0, .slice none 0 0] 41) = WA := ⟨_, rfl⟩
  have hz := aRow_ hWA hX
  have hbA : Below W.heap.size W WA := by rw [← hWA]; exact (Below.refl _ W).alloc (Nat.le_refl _) _
  have hsA : WA.heap.size = X + 1 := by rw [← hWA, ← hX]; simp
  have hXB : B < X := by have := h.lt; omega
  have HX := Lib.hid hX
  have HWA := Lib.hid hWA
  have HZ := Lib.hid hz
  have HBA := Lib.hid hbA
  have HSA := Lib.hid hsA
  have HAA := Lib.hid (h.below hbA)
  have HA := Lib.hid h
  have HC := Lib.hid hC
  have IH := Lib.hid (fun (W' : World) (b deep' : Nat) (h' : At W0 W' B T S tv nv b deep') (hd' : deep' ≤ 32) (hb : S.ts.length < f + b) => ih hC h' hd' hb)
  have CK := Lib.hid (tkind_any hC HAA.out)
  have hfew := hC.few
  have hin := h.in_
  have HFIN : Hid (∀ (y : Wt) (b : Nat) (c0 c1 c2 : Value) (Wl W' : World), oneP S (f + 1) deep a = .ok y b → At W0 Wl B T S tv nv b deep → W.grownBy Wl (some B) → RWt (fun b => X + 1 ≤ b) Wl [c0, c1, c2] y → W'.heap[X]? = some (.cells #[c0, c1, c2] 41 (0, 0)) → Wl.grownBy W' (some X) → PP (.returned (.agg #[c0, c1, c2])) W') := fun y b c0 c1 c2 Wl W' h1 h2 h3 h4 _ h6 => by
   rw [← HPP.out, h1]
   have hXs := HX.out
   exact ⟨_, rfl, repW_of (goes_wt _ _ Wl W' (fun b hb hl => ⟨h6.block b hl (fun e => by injection e with e; omega), by omega⟩) _ _ h4), h2.fin h6 hXB, g_fin h3 h6 (by omega)⟩
  clear hPP hC h hX hWA hz hbA hsA ih
  go_enter Tryz.func142, Tryz.ntmps142
  go_upto_region 1 with fail
  rw [HX.out, HWA.out]
  go_wp2_with fail
  refine CK.out.mono ?_
  rintro e1 w1 ⟨rfl, hb1⟩
  have HA1 := Lib.hid (HAA.out.below hb1)
  have HG1 : Hid (W.grownBy w1 (some B)) := g_of (HBA.out.trans (hb1.mono HBA.out.size))
  have HZ1 : Hid (w1.heap[X]? = some (.cells #[.int .i64 0, .int .i64 0, .slice none 0 0] 41 (0, 0))) := (hb1.block X (by have := HSA.out; omega)).trans HZ.out
  have hX1 : X < w1.heap.size := (Array.getElem?_eq_some_iff.1 HZ1.out).1
  clear hb1
  by_cases h15 : kindP S a = 15
  ·have HO := Lib.hid (one_not (f := f) (deep := deep) h15)
   have t1 : ((kindP S a : Int) == 15) = true := by rw [h15]; rfl
   have hlt := kind_lt h15 (by omega)
   have CD := Lib.hid (tdeeper_any HC.out HA1.out hd hlt)
   clear h15
   go_wp2_with fail
   refine CD.out.mono ?_
   by_cases h32 : deep = 32
   ·rintro e2 w2 h2
    rw [if_pos h32] at h2
    obtain ⟨rfl, h3⟩ := h2.after HG1.out
    refine ⟨rfl, ?_⟩
    rw [← HPP.out, HO.out, if_pos h32]
    exact ⟨rfl, h3⟩
   ·rintro e2 w2 h2
    rw [if_neg h32] at h2
    obtain ⟨rfl, hA2, hg2⟩ := h2
    have HO2 : Hid (oneP S (f + 1) deep a = (oneP S f (deep + 1) (a + 1)).bind fun x a => .ok (.mk 6 0 [x]) a) := by show _ = _; rw [HO.out, if_neg h32]
    have C1 := Lib.hid (IH.out w2 (a + 1) (deep + 1) hA2 (by omega) (by omega))
    have HG2 := Lib.hid (g_trans HG1.out hg2)
    have HZ2 : Hid (w2.heap[X]? = some (.cells #[.int .i64 0, .int .i64 0, .slice none 0 0] 41 (0, 0))) := (hg2.block X hX1 (fun e => by injection e with e; omega)).trans HZ1.out
    have hX2 : X < w2.heap.size := (Array.getElem?_eq_some_iff.1 HZ2.out).1
    clear hA2 hg2 h32
    go_wp2_with fail
    cases hg : oneP S f (deep + 1) (a + 1) with
    | bad p k =>
     have HG := Lib.hid hg
     rw [hg] at C1
     refine C1.out.mono ?_
     rintro e3 w3 ⟨rfl, h1, h2⟩
     refine ⟨rfl, ?_⟩
     rw [← HPP.out, HO2.out, HG.out]
     exact ⟨rfl, h1, g_trans HG2.out h2⟩
    | ok x a1 =>
     have HG : Hid (oneP S (f + 1) deep a = .ok (.mk 6 0 [x]) a1) := by show _ = _; rw [HO2.out, hg]; rfl
     rw [hg] at C1
     refine C1.out.mono ?_
     rintro e3 w3 ⟨v, rfl, ⟨q, n, c, rfl, hv⟩, hA3, hg3⟩
     clear hg C1
     have HG3 := Lib.hid (g_trans HG2.out hg3)
     have HZ3 : Hid (w3.heap[X]? = some (.cells #[.int .i64 0, .int .i64 0, .slice none 0 0] 41 (0, 0))) := (hg3.block X hX2 (fun e => by injection e with e; omega)).trans HZ2.out
     have hX3 : X < w3.heap.size := (Array.getElem?_eq_some_iff.1 HZ3.out).1
     have HA3 := Lib.hid hA3
     have hs32 := hg3.size
     have HV := Lib.hid hv
     obtain ⟨R, hR⟩ : ∃ R, w3.heap.size = R := ⟨_, rfl⟩
     have HR := Lib.hid hR
     clear hA3 hg3 hv
     go_upto_region 5 with fail
     have hR1 : ORow RWt (X + 1) 41 3 (w3.alloc (.cells #[.int .i64 x.op, .int .i64 x.num, .slice q n c] 41)) (.slice (some ⟨R, 0, none⟩) 1 1) [x] := ⟨[[.int .i64 x.op, .int .i64 x.num, .slice q n c]], rfl, by rw [← HR.out]; exact World.ownsRow_lit _ _ 1 (by omega) (by decide) rfl, fun cs hc => by rw [List.mem_singleton] at hc; subst hc; rfl, fun j cs y hc hy => by
      cases j with
      | zero =>
       injection hc with hc
       injection hy with hy
       subst hc; subst hy
       exact goes_wt _ _ w3 _ (fun b hb hl => ⟨Below.heap_alloc _ _ _ hl, by omega, fun e => by injection e with e; have e : b = R := e; omega⟩) _ _ HV.out
      | succ j => cases hc⟩
     have hb3 : Below w3.heap.size w3 ((w3.alloc (.cells #[.int .i64 x.op, .int .i64 x.num, .slice q n c] 41)).alloc (.cells #[.int .i64 6, .int .i64 0, .slice (some ⟨R, 0, none⟩) 1 1] 41)) := ((Below.refl _ _).alloc (Nat.le_refl _) _).alloc (by simp) _
     refine wp_world (fun W5 => At W0 W5 B T S tv nv a1 (deep + 1) ∧ W.grownBy W5 (some B) ∧ W5.heap[X]? = some (.cells #[.int .i64 0, .int .i64 0, .slice none 0 0] 41 (0, 0)) ∧ W5.heap[(R + 1)]? = some (.cells #[.int .i64 6, .int .i64 0, .slice (some ⟨R, 0, none⟩) 1 1] 41 (0, 0)) ∧ RWt (fun b => X + 1 ≤ b) W5 [.int .i64 6, .int .i64 0, .slice (some ⟨R, 0, none⟩) 1 1] (.mk 6 0 [x])) ⟨HA3.out.below hb3, g_below HG3.out hb3, (hb3.block X hX3).trans HZ3.out, by (have h := heap_alloc_new (w3.alloc (.cells #[.int .i64 x.op, .int .i64 x.num, .slice q n c] 41)) (.cells #[.int .i64 6, .int .i64 0, .slice (some ⟨R, 0, none⟩) 1 1] 41); rw [World.size_alloc, HR.out] at h; exact h), wt_list (hR1.kept goes_wt fun b hl _ => Below.heap_alloc _ _ _ hl) 6⟩ (fun W5 hw => ?_)
     obtain ⟨hA5, hG5, hZ5, hY5, hT5⟩ := hw
     obtain ⟨d6, g6, bl5, hA6, hg6⟩ := hA5.up
     have hRB : R + 1 ≠ B := by omega
     have hXBn : X ≠ B := by omega
     have HZ6 : Hid ((W5.setCell ⟨B, 6, none⟩ (.int .i64 (deep : Nat))).heap[X]? = some (.cells #[.int .i64 0, .int .i64 0, .slice none 0 0] 41 (0, 0))) := (hg6.block X (Array.getElem?_eq_some_iff.1 hZ5).1 (fun e => hXBn (by injection e))).trans hZ5
     have HT6 : Hid (RWt (fun b => X + 1 ≤ b) (W5.setCell ⟨B, 6, none⟩ (.int .i64 (deep : Nat))) [.int .i64 6, .int .i64 0, .slice (some ⟨R, 0, none⟩) 1 1] (.mk 6 0 [x])) := goes_wt _ _ W5 _ (fun b hb hl => ⟨hg6.block b hl (fun e => by injection e with e; omega), hb⟩) _ _ hT5
     obtain ⟨x0, x1, x2⟩ := row3_ hZ5
     have f0 := frozen_of_row W5 X 0 _ _ hZ5
     have f1 := frozen_of_row W5 X 1 _ _ hZ5
     have f2 := frozen_of_row W5 X 2 _ _ hZ5
     have y0 : W5.cell? ⟨(R + 1), 0, none⟩ = some (.int .i64 6) := by rw [cell_of_row _ _ _ _ _ _ hY5]; rfl
     have y1 : W5.cell? ⟨(R + 1), 1, none⟩ = some (.int .i64 0) := by rw [cell_of_row _ _ _ _ _ _ hY5]; rfl
     have y2 : W5.cell? ⟨(R + 1), 2, none⟩ = some (.slice (some ⟨R, 0, none⟩) 1 1) := by rw [cell_of_row _ _ _ _ _ _ hY5]; rfl
     have yl := (Array.getElem?_eq_some_iff.1 hY5).1
     have xl := (Array.getElem?_eq_some_iff.1 hZ5).1
     have hsub : wrap64 (((deep + 1 : Nat) : Int) - 1) = ((deep : Nat) : Int) := by unfold wrap64; omega
     have HA6 := Lib.hid hA6
     have HG6 := Lib.hid (g_trans hG5 hg6)
     clear hA5 hG5 hZ5 hY5 hT5 hA6 hg6 hR hR1 hb3
     go_wp2_with fail
     refine wp_post (fun W' => W'.heap[X]? = some (.cells #[.int .i64 6, .int .i64 0, .slice (some ⟨R, 0, none⟩) 1 1] 41 (0, 0)) ∧ (W5.setCell ⟨B, 6, none⟩ (.int .i64 (deep : Nat))).grownBy W' (some X)) (set3w HZ6.out _ _ _) (fun W' hW => ?_)
     exact bodyPost_ret (res_tone hW.1 rfl _ rfl) rfl (HFIN.out _ _ _ _ _ _ _ HG.out HA6.out HG6.out HT6.out hW.1 hW.2)
  ·have t15 : ((kindP S a : Int) == 15) = false := by rw [beq_eq_false_iff_ne]; omega
   by_cases h17 : kindP S a = 17
   ·have HO := Lib.hid (one_left (f := f) (deep := deep) h17)
    have t1 : ((kindP S a : Int) == 17) = true := by rw [h17]; rfl
    have hlt := kind_lt h17 (by omega)
    have CD := Lib.hid (tdeeper_any HC.out HA1.out hd hlt)
    clear h17 h15
    go_wp2_with fail
    refine CD.out.mono ?_
    by_cases h32 : deep = 32
    ·rintro e2 w2 h2
     rw [if_pos h32] at h2
     obtain ⟨rfl, h3⟩ := h2.after HG1.out
     refine ⟨rfl, ?_⟩
     rw [← HPP.out, HO.out, if_pos h32]
     exact ⟨rfl, h3⟩
    ·rintro e2 w2 h2
     rw [if_neg h32] at h2
     obtain ⟨rfl, hA2, hg2⟩ := h2
     have HO2 : Hid (oneP S (f + 1) deep a = (eitherP S f (deep + 1) (a + 1)).bind fun x a => (wantP S 18 a).bind fun _ a => .ok x a) := by show _ = _; rw [HO.out, if_neg h32]
     have C1 := Lib.hid (teither_any HC.out hA2 f fun W' b h' hb => tboth_any HC.out h' f fun W'' b' h'' hb' => IH.out W'' b' (deep + 1) h'' (by omega) (by omega))
     have HG2 := Lib.hid (g_trans HG1.out hg2)
     have HZ2 : Hid (w2.heap[X]? = some (.cells #[.int .i64 0, .int .i64 0, .slice none 0 0] 41 (0, 0))) := (hg2.block X hX1 (fun e => by injection e with e; omega)).trans HZ1.out
     have hX2 : X < w2.heap.size := (Array.getElem?_eq_some_iff.1 HZ2.out).1
     clear hA2 hg2 h32
     go_wp2_with fail
     cases hg : eitherP S f (deep + 1) (a + 1) with
     | bad p k =>
      have HG := Lib.hid hg
      rw [hg] at C1
      refine C1.out.mono ?_
      rintro e3 w3 ⟨rfl, h1, h2⟩
      refine ⟨rfl, ?_⟩
      rw [← HPP.out, HO2.out, HG.out]
      exact ⟨rfl, h1, g_trans HG2.out h2⟩
     | ok x a1 =>
      have HO3 : Hid (oneP S (f + 1) deep a = (wantP S 18 a1).bind fun _ a => .ok x a) := by show _ = _; rw [HO2.out, hg]; rfl
      rw [hg] at C1
      refine C1.out.mono ?_
      rintro e3 w3 ⟨v, rfl, ⟨q, n, c, rfl, hv⟩, hA3, hg3⟩
      clear hg C1
      have hX3 : X < w3.heap.size := Nat.lt_of_lt_of_le hX2 hg3.size
      have hz3 : w3.heap[X]? = some (.cells #[.int .i64 0, .int .i64 0, .slice none 0 0] 41 (0, 0)) := (hg3.block X hX2 (fun e => by injection e with e; omega)).trans HZ2.out
      obtain ⟨R, hR⟩ : ∃ R, w3.heap.size = R := ⟨_, rfl⟩
      obtain ⟨W4, hW4⟩ : ∃ W4, w3.alloc (.cells #[.int .i64 x.op, .int .i64 x.num, .slice q n c] 41) = W4 := ⟨_, rfl⟩
      have hb4 : Below w3.heap.size w3 W4 := by rw [← hW4]; exact (Below.refl _ _).alloc (Nat.le_refl _) _
      have hy4 := aRow_ hW4 hR
      have hs23 := hg3.size
      have HA4 := Lib.hid (hA3.below hb4)
      have HG4 := Lib.hid (g_below (g_trans HG2.out hg3) hb4)
      have HZ4 : Hid (W4.heap[X]? = some (.cells #[.int .i64 0, .int .i64 0, .slice none 0 0] 41 (0, 0))) := (hb4.block X hX3).trans hz3
      have HY4 := Lib.hid hy4
      have HV4 : Hid (RWt (fun b => w2.heap.size ≤ b) W4 [.int .i64 x.op, .int .i64 x.num, .slice q n c] x) := goes_wt _ _ w3 W4 (fun b hb hl => ⟨hb4.block b hl, hb⟩) _ _ hv
      have HR := Lib.hid hR
      have HW4 := Lib.hid hW4
      have CW := Lib.hid (twant_any HC.out (hA3.below hb4) 18 (by omega))
      clear hA3 hg3 hv hz3 hb4 hy4 hR hW4
      go_upto_region 10 with fail
      rw [HR.out, HW4.out]
      go_wp2_with fail
      cases hw : wantP S 18 a1 with
      | bad p k =>
       have HG : Hid (oneP S (f + 1) deep a = .bad p k) := by show _ = _; rw [HO3.out, hw]; rfl
       rw [hw] at CW
       refine CW.out.mono ?_
       rintro e4 w4 ⟨rfl, h1, h2⟩
       refine ⟨rfl, ?_⟩
       rw [← HPP.out, HG.out]
       exact ⟨rfl, h1, g_trans HG4.out h2⟩
      | ok u a2 =>
       have HG : Hid (oneP S (f + 1) deep a = .ok x a2) := by show _ = _; rw [HO3.out, hw]; rfl
       rw [hw] at CW
       refine CW.out.mono ?_
       rintro e4 W5 ⟨v5, rfl, hv5, hA5, hg5⟩
       obtain ⟨d6, g6, bl5, hA6, hg6⟩ := hA5.up
       have hRB : R ≠ B := by have := HR.out; omega
       have hXBn : X ≠ B := by omega
       have hX4l := (Array.getElem?_eq_some_iff.1 HZ4.out).1
       have hY4l := (Array.getElem?_eq_some_iff.1 HY4.out).1
       have hZ5 : W5.heap[X]? = some (.cells #[.int .i64 0, .int .i64 0, .slice none 0 0] 41 (0, 0)) := (hg5.block X hX4l (fun e => hXBn (by injection e))).trans HZ4.out
       have hY5 : W5.heap[R]? = some (.cells #[.int .i64 x.op, .int .i64 x.num, .slice q n c] 41 (0, 0)) := (hg5.block R hY4l (fun e => hRB (by injection e))).trans HY4.out
       have HZ6 : Hid ((W5.setCell ⟨B, 6, none⟩ (.int .i64 (deep : Nat))).heap[X]? = some (.cells #[.int .i64 0, .int .i64 0, .slice none 0 0] 41 (0, 0))) := (hg6.block X (Array.getElem?_eq_some_iff.1 hZ5).1 (fun e => hXBn (by injection e))).trans hZ5
       have HT6 : Hid (RWt (fun b => X + 1 ≤ b) (W5.setCell ⟨B, 6, none⟩ (.int .i64 (deep : Nat))) [.int .i64 x.op, .int .i64 x.num, .slice q n c] x) := goes_wt _ _ W4 _ (fun b hb hl => ⟨(hg6.block b (Nat.lt_of_lt_of_le hl hg5.size) (fun e => by injection e with e; omega)).trans (hg5.block b hl (fun e => by injection e with e; omega)), by omega⟩) _ _ HV4.out
       obtain ⟨x0, x1, x2⟩ := row3_ hZ5
       have f0 := frozen_of_row W5 X 0 _ _ hZ5
       have f1 := frozen_of_row W5 X 1 _ _ hZ5
       have f2 := frozen_of_row W5 X 2 _ _ hZ5
       obtain ⟨y0, y1, y2⟩ := row3_ hY5
       have yl := (Array.getElem?_eq_some_iff.1 hY5).1
       have xl := (Array.getElem?_eq_some_iff.1 hZ5).1
       have hsub : wrap64 (((deep + 1 : Nat) : Int) - 1) = ((deep : Nat) : Int) := by unfold wrap64; omega
       have HA6 := Lib.hid hA6
       have HG6 := Lib.hid (g_trans (g_trans HG4.out hg5) hg6)
       clear hA5 hZ5 hY5 hA6 hg6 hg5 hw
       go_wp2_with fail
       refine wp_post (fun W' => W'.heap[X]? = some (.cells #[.int .i64 x.op, .int .i64 x.num, .slice q n c] 41 (0, 0)) ∧ (W5.setCell ⟨B, 6, none⟩ (.int .i64 (deep : Nat))).grownBy W' (some X)) (set3w HZ6.out _ _ _) (fun W' hW => ?_)
       exact bodyPost_ret (res_tone hW.1 rfl _ rfl) rfl (HFIN.out _ _ _ _ _ _ _ HG.out HA6.out HG6.out HT6.out hW.1 hW.2)
   ·have t17 : ((kindP S a : Int) == 17) = false := by rw [beq_eq_false_iff_ne]; omega
    by_cases h1 : kindP S a = 1
    ·have HO := Lib.hid (one_name (f := f) (deep := deep) h1)
     have t1 : ((kindP S a : Int) == 1) = true := by rw [h1]; rfl
     have hlt := kind_lt h1 (by omega)
     clear h1 h15 h17
     obtain ⟨t, hat⟩ : ∃ t, S.ts[a]? = some t := ⟨_, List.getElem?_eq_getElem hlt⟩
     have hnm : nmP S a = nmT S t := by unfold nmP; rw [hat]
     obtain ⟨b2, o2, cap2, hnv, hb2, n0⟩ := (HC.out.names.below HA1.out.bel).at_ (show (S.ts.map (nmT S))[a]? = some (nmT S t) by rw [List.getElem?_map, hat]; rfl)
     rw [List.length_map] at hnv
     subst hnv
     obtain ⟨fp, fe, hbx⟩ := HA1.out.box
     obtain ⟨c0, c1, c2, c3, c4, c5, c6, hbl⟩ := hbx.cells
     have HKS : Hid (∀ W', Below w1.heap.size w1 W' → W'.cell? ⟨B, 1, none⟩ = some (.slice (some ⟨b2, o2, none⟩) S.ts.length cap2) ∧ W'.cell? ⟨B, 3, none⟩ = some (.int .i64 (a : Nat)) ∧ W'.cell? ⟨b2, o2 + a, none⟩ = some (.string (nmT S t))) := fun W' hb => ⟨(hb.cell (p := ⟨B, 1, none⟩) hbl).trans c1, (hb.cell (p := ⟨B, 3, none⟩) hbl).trans c3, (hb.cell (p := ⟨b2, o2 + a, none⟩) hb2).trans n0⟩
     have CP : Hid (∀ W', Below W0.heap.size W0 W' → Calls Tryz.prog 167 #[.string (nmT S t)] W' fun e w' => e = .returned (patV (wordW (nmP S a).data.toList)) ∧ Below W'.heap.size W' w') := fun W' hb => by rw [hnm]; exact pattern_any (nmT S t) W' (tab_below HC.out.tk hb) (tab_below HC.out.tf hb)
     have hltI : (a : Int) < (S.ts.length : Int) := by omega
     have ha0 : (0 : Int) ≤ (a : Int) := by omega
     have hbw0 := HA1.out.bel
     have HBW0 := Lib.hid hbw0
     have hadd : wrap64 ((a : Int) + 1) = ((a + 1 : Nat) : Int) := by unfold wrap64; omega
     clear hat hnm hbx hbw0
     cases hw : wordW (nmP S a).data.toList with
     | none =>
      have HG : Hid (oneP S (f + 1) deep a = .bad (posP S a) 72) := by show _ = _; rw [HO.out, hw]
      have CF : Hid (∀ W', Below w1.heap.size w1 W' → Calls Tryz.prog 55 #[.pointer (some ⟨B, 0, none⟩), .int .i64 72] W' (Fails W0 B T S tv (.slice (some ⟨b2, o2, none⟩) S.ts.length cap2) brk W' (posP S a) 72)) := fun W' hb => tfail_any HC.out (HA1.out.below hb) 72
      rw [hw] at CP
      have CP2 : Hid (∀ W', Below W0.heap.size W0 W' → Calls Tryz.prog 167 #[.string (nmT S t)] W' fun e w' => e = .returned (.tuple #[.agg #[.int .i64 0, .int .i64 0, .slice none 0 0], .bool false]) ∧ Below W'.heap.size W' w') := CP
      clear hw CP
      obtain ⟨WN, hWN⟩ : ∃ WN, w1.alloc (.cells #[.int .i64 0, .int .i64 0, .slice none 0 0] 41) = WN := ⟨_, rfl⟩
      have hbN : Below w1.heap.size w1 WN := by rw [← hWN]; exact (Below.refl _ _).alloc (Nat.le_refl _) _
      have hzN : WN.heap[w1.heap.size]? = some (.cells #[.int .i64 0, .int .i64 0, .slice none 0 0] 41 (0, 0)) := by rw [← hWN]; exact heap_alloc_new w1 _
      have CPa : Hid (Calls Tryz.prog 167 #[.string (nmT S t)] w1.drew fun e w' => e = .returned (.tuple #[.agg #[.int .i64 0, .int .i64 0, .slice none 0 0], .bool false]) ∧ Below w1.heap.size w1 w') := (CP2.out _ (HBW0.out.trans ((Below.refl _ _).drew.mono HBW0.out.size))).mono fun e w' h => ⟨h.1, (Below.refl _ w1).drew.trans h.2⟩
      have CPb : Hid (Calls Tryz.prog 167 #[.string (nmT S t)] (w1.alloc (.cells #[.int .i64 0, .int .i64 0, .slice none 0 0] 41)).drew fun e w' => e = .returned (.tuple #[.agg #[.int .i64 0, .int .i64 0, .slice none 0 0], .bool false]) ∧ Below w1.heap.size w1 w' ∧ w'.heap[w1.heap.size]? = some (.cells #[.int .i64 0, .int .i64 0, .slice none 0 0] 41 (0, 0))) := by
       show Calls _ _ _ _ _
       rw [hWN]
       exact (CP2.out WN.drew (HBW0.out.trans ((hbN.drew).mono HBW0.out.size))).mono fun e w' h => ⟨h.1, hbN.drew.trans (h.2.mono hbN.size), (h.2.block _ (Array.getElem?_eq_some_iff.1 hzN).1).trans hzN⟩
      have HKS2 : Hid (∀ W2 o, Below w1.heap.size w1 W2 → (W2.alloc o).cell? ⟨B, 1, none⟩ = some (.slice (some ⟨b2, o2, none⟩) S.ts.length cap2) ∧ (W2.alloc o).cell? ⟨B, 3, none⟩ = some (.int .i64 (a : Nat)) ∧ (W2.alloc o).cell? ⟨b2, o2 + a, none⟩ = some (.string (nmT S t))) := fun W2 o h => HKS.out _ (h.alloc h.size _)
      clear hbN hzN hWN
      go_wp2_with fail
      refine wp_region_held_drew (S := fun W' => W'.cell? ⟨B, 1, none⟩ = some (.slice (some ⟨b2, o2, none⟩) S.ts.length cap2) ∧ W'.cell? ⟨B, 3, none⟩ = some (.int .i64 (a : Nat)) ∧ W'.cell? ⟨b2, o2 + a, none⟩ = some (.string (nmT S t))) (by kernel_rfl) ⟨c1, c3, n0⟩ (fun hHeld => ?_)
      refine takeQ_ (i := 0) (v := ?_) rfl (by kernel_rfl) (fun _ _ _ h => h) (by rfl) ?_ (by assumption) ?_
      rotate_left
      focus (intro w' hSw; (try dsimp only at hSw); go_simp; try with_reducible rfl)
      (try simp only [Act.put, puts_])
      refine takeQ_ (i := 1) (v := ?_) rfl (by kernel_rfl) (fun _ _ _ h => h) (by rfl) ?_ (by assumption) ?_
      rotate_left
      focus (intro w' hSw; (try dsimp only at hSw); go_simp; try with_reducible rfl)
      (try simp only [Act.put, puts_])
      refine takeQ_ (i := 2) (v := ?_) rfl (by kernel_rfl) (fun _ _ _ h => h) (by rfl) ?_ (by assumption) ?_
      rotate_left
      focus (intro w' hSw; (try dsimp only at hSw); go_simp; try with_reducible rfl)
      (try simp only [Act.put, puts_])
      refine takeQ_ (i := 3) (v := ?_) rfl (by kernel_rfl) (fun _ _ _ h => h) (by rfl) ?_ (by assumption) ?_
      rotate_left
      focus (intro w' hSw; (try dsimp only at hSw); go_simp; try with_reducible rfl)
      (try simp only [Act.put, puts_])
      refine takeQ_ (i := 4) (v := ?_) rfl (by kernel_rfl) (fun _ _ _ h => h) (by rfl) ?_ (by assumption) ?_
      rotate_left
      focus (intro w' hSw; (try dsimp only at hSw); go_simp; try with_reducible rfl)
      (try simp only [Act.put, puts_])
      refine takeQ_ (i := 5) (v := ?_) rfl (by kernel_rfl) (fun _ _ _ h => h) (by rfl) ?_ (by assumption) ?_
      rotate_left
      focus (intro w' hSw; (try dsimp only at hSw); go_simp; try with_reducible rfl)
      (try simp only [Act.put, puts_])
      refine takeQ_ (i := 6) (v := ?_) rfl (by kernel_rfl) (fun _ _ _ h => h) (by rfl) ?_ (by assumption) ?_
      rotate_left
      focus (intro w' hSw; (try dsimp only at hSw); go_simp; try with_reducible rfl)
      (try simp only [Act.put, puts_])
      refine takeQ_ (i := 7) (v := ?_) rfl (by kernel_rfl) (fun _ _ _ h => h) (by rfl) ?_ (by assumption) ?_
      rotate_left
      focus (intro w' hSw; (try dsimp only at hSw); go_simp; try with_reducible rfl)
      (try simp only [Act.put, puts_])
      refine takeQ_ (i := 8) (v := ?_) rfl (by kernel_rfl) (fun _ _ _ h => h) (by rfl) ?_ (by assumption) ?_
      rotate_left
      focus (intro w' hSw; (try dsimp only at hSw); go_simp; try with_reducible rfl)
      (try simp only [Act.put, puts_])
      refine takeQ_ (i := 9) (v := ?_) rfl (by kernel_rfl) (fun _ _ _ h => h) (by rfl) ?_ (by assumption) ?_
      rotate_left
      focus (intro w' hSw; (try dsimp only at hSw); go_simp; try with_reducible rfl)
      (try simp only [Act.put, puts_])
      refine takeQ_ (i := 10) (v := ?_) rfl (by kernel_rfl) (fun _ _ _ h => h) (by rfl) ?_ (by assumption) ?_
      rotate_left
      focus (intro w' hSw; (try dsimp only at hSw); go_simp; try with_reducible rfl)
      (try simp only [Act.put, puts_])
      refine takeQ_ (i := 11) (v := ?_) rfl (by kernel_rfl) (fun _ _ _ h => h) (by rfl) ?_ (by assumption) ?_
      rotate_left
      focus (intro w' hSw; (try dsimp only at hSw); go_simp; try with_reducible rfl)
      (try simp only [Act.put, puts_])
      refine wpAnyH_ready (rs := [12, 16]) (by kernel_rfl) (by simp) ?_
      refine AllReadyH.cons (o := _) rfl (fun K hK => ?_) ?_
      ·go_simp; refine CPa.out.mono ?_; rintro e2 w2 ⟨rfl, hb2'⟩; have HB2 := Lib.hid hb2'; clear hb2'; dsimp only
       refine hK.out _ _ (HKS.out _ HB2.out) (fun hHeld => ?_)
       clear hK K
       (try simp only [Act.put, puts_])
       refine takeQ_ (i := 13) (v := ?_) rfl (by kernel_rfl) (fun _ _ _ h => h) (by rfl) ?_ (by assumption) ?_
       rotate_left
       focus (intro w' hSw; (try dsimp only at hSw); go_simp; try with_reducible rfl)
       (try simp only [Act.put, puts_])
       refine takeQ_ (i := 14) (v := ?_) rfl (by kernel_rfl) (fun _ _ _ h => h) (by rfl) ?_ (by assumption) ?_
       rotate_left
       focus (intro w' hSw; (try dsimp only at hSw); go_simp; try with_reducible rfl)
       (try simp only [Act.put, puts_])
       refine takeQ_ (i := 15) (v := ?_) rfl (by kernel_rfl) (fun _ _ _ h => h) (by rfl) ?_ (by assumption) ?_
       rotate_left
       focus (intro w' hSw; (try dsimp only at hSw); go_simp; try with_reducible rfl)
       (try simp only [Act.put, puts_])
       refine wpAnyH_ready (rs := [16]) (by kernel_rfl) (by simp) ?_
       refine AllReadyH.cons (o := _) rfl (fun K hK => ?_) AllReadyH.nil
       go_simp
       refine hK.out _ _ (HKS2.out _ _ HB2.out) (fun hHeld => ?_)
       clear hK K
       (try simp only [Act.put, puts_])
       refine wpAnyH_ready (rs := [17]) (by kernel_rfl) (by simp) ?_
       refine AllReadyH.cons (o := _) rfl (fun K hK => ?_) AllReadyH.nil
       go_simp
       refine hK.out _ _ (HKS2.out _ _ HB2.out) (fun hHeld => ?_)
       clear hK K
       (try simp only [Act.put, puts_])
       refine takeQ_ (i := 18) (v := ?_) rfl (by kernel_rfl) (fun _ _ _ h => h) (by rfl) ?_ (by assumption) ?_
       rotate_left
       focus (intro w' hSw; (try dsimp only at hSw); go_simp; try with_reducible rfl)
       (try simp only [Act.put, puts_])
       refine wpAnyH_done (by kernel_rfl) ?_ _
       go_simp
       go_wp2_with fail
       refine (CF.out _ (HB2.out.alloc HB2.out.size _)).mono ?_
       rintro e4 w4 h4
       obtain ⟨rfl, h5⟩ := h4.after (g_trans HG1.out (g_of (HB2.out.alloc HB2.out.size _)))
       refine ⟨rfl, ?_⟩
       rw [← HPP.out, HG.out]
       exact ⟨rfl, h5⟩
      refine AllReadyH.cons (o := _) rfl (fun K hK => ?_) AllReadyH.nil
      go_simp
      refine hK.out _ _ (HKS2.out w1 _ (Below.refl _ w1)) (fun hHeld => ?_)
      clear hK K
      (try simp only [Act.put, puts_])
      refine wpAnyH_ready (rs := [12]) (by kernel_rfl) (by simp) ?_
      refine AllReadyH.cons (o := _) rfl (fun K hK => ?_) AllReadyH.nil
      go_simp; refine CPb.out.mono ?_; rintro e2 w2 ⟨rfl, hb2', hz5⟩; have HB2 := Lib.hid hb2'; have y0 : w2.cell? ⟨w1.heap.size, 0, none⟩ = some (.int .i64 0) := (cell_of_row _ _ _ _ _ _ hz5).trans rfl; have y1 : w2.cell? ⟨w1.heap.size, 1, none⟩ = some (.int .i64 0) := (cell_of_row _ _ _ _ _ _ hz5).trans rfl; have y2 : w2.cell? ⟨w1.heap.size, 2, none⟩ = some (.slice none 0 0) := (cell_of_row _ _ _ _ _ _ hz5).trans rfl; have v0 := frozen_of_row w2 w1.heap.size 0 _ _ hz5; have v1 := frozen_of_row w2 w1.heap.size 1 _ _ hz5; have v2 := frozen_of_row w2 w1.heap.size 2 _ _ hz5; have yl := (Array.getElem?_eq_some_iff.1 hz5).1; have HB3 : Hid (Below w1.heap.size w1 (((w2.setCell ⟨w1.heap.size, 0, none⟩ (.int .i64 0)).setCell ⟨w1.heap.size, 1, none⟩ (.int .i64 0)).setCell ⟨w1.heap.size, 2, none⟩ (.slice none 0 0))) := hb2'.grown (set3w hz5 _ _ _).2 hb2'.size (fun k hk => by injection hk with hk; omega); have HZ5 := Lib.hid (set3w hz5 (.int .i64 0) (.int .i64 0) (.slice none 0 0)); clear hb2' hz5; dsimp only
      refine hK.out _ _ (HKS.out _ HB2.out) (fun hHeld => ?_)
      clear hK K
      (try simp only [Act.put, puts_])
      refine takeQ_ (i := 13) (v := ?_) rfl (by kernel_rfl) (fun _ _ _ h => h) (by rfl) ?_ (by assumption) ?_
      rotate_left
      focus (intro w' hSw; (try dsimp only at hSw); go_simp; try with_reducible rfl)
      (try simp only [Act.put, puts_])
      refine takeQ_ (i := 14) (v := ?_) rfl (by kernel_rfl) (fun _ _ _ h => h) (by rfl) ?_ (by assumption) ?_
      rotate_left
      focus (intro w' hSw; (try dsimp only at hSw); go_simp; try with_reducible rfl)
      (try simp only [Act.put, puts_])
      refine takeQ_ (i := 15) (v := ?_) rfl (by kernel_rfl) (fun _ _ _ h => h) (by rfl) ?_ (by assumption) ?_
      rotate_left
      focus (intro w' hSw; (try dsimp only at hSw); go_simp; try with_reducible rfl)
      (try simp only [Act.put, puts_])
      refine wpAnyH_ready (rs := [17]) (by kernel_rfl) (by simp) ?_
      refine AllReadyH.cons (o := _) rfl (fun K hK => ?_) AllReadyH.nil
      go_simp
      refine hK.out _ _ (HKS.out _ HB3.out) (fun hHeld => ?_)
      clear hK K
      (try simp only [Act.put, puts_])
      refine takeQ_ (i := 18) (v := ?_) rfl (by kernel_rfl) (fun _ _ _ h => h) (by rfl) ?_ (by assumption) ?_
      rotate_left
      focus (intro w' hSw; (try dsimp only at hSw); go_simp; try with_reducible rfl)
      (try simp only [Act.put, puts_])
      refine wpAnyH_done (by kernel_rfl) ?_ _
      go_simp
      go_wp2_with fail
      refine (CF.out _ HB3.out).mono ?_
      rintro e4 w4 h4
      obtain ⟨rfl, h5⟩ := h4.after (g_trans HG1.out (g_of HB3.out))
      refine ⟨rfl, ?_⟩
      rw [← HPP.out, HG.out]
      exact ⟨rfl, h5⟩
     | some wd =>
      have HG : Hid (oneP S (f + 1) deep a = .ok wd (a + 1)) := by show _ = _; rw [HO.out, hw]
      have HLF := Lib.hid (wordW_leaf hw)
      rw [hw] at CP
      have CP2 : Hid (∀ W', Below W0.heap.size W0 W' → Calls Tryz.prog 167 #[.string (nmT S t)] W' fun e w' => e = .returned (.tuple #[.agg #[.int .i64 wd.op, .int .i64 wd.num, .slice none 0 0], .bool true]) ∧ Below W'.heap.size W' w') := CP
      clear hw CP
      obtain ⟨WN, hWN⟩ : ∃ WN, w1.alloc (.cells #[.int .i64 0, .int .i64 0, .slice none 0 0] 41) = WN := ⟨_, rfl⟩
      have hbN : Below w1.heap.size w1 WN := by rw [← hWN]; exact (Below.refl _ _).alloc (Nat.le_refl _) _
      have hzN : WN.heap[w1.heap.size]? = some (.cells #[.int .i64 0, .int .i64 0, .slice none 0 0] 41 (0, 0)) := by rw [← hWN]; exact heap_alloc_new w1 _
      have CPa : Hid (Calls Tryz.prog 167 #[.string (nmT S t)] w1.drew fun e w' => e = .returned (.tuple #[.agg #[.int .i64 wd.op, .int .i64 wd.num, .slice none 0 0], .bool true]) ∧ Below w1.heap.size w1 w') := (CP2.out _ (HBW0.out.trans ((Below.refl _ _).drew.mono HBW0.out.size))).mono fun e w' h => ⟨h.1, (Below.refl _ w1).drew.trans h.2⟩
      have CPb : Hid (Calls Tryz.prog 167 #[.string (nmT S t)] (w1.alloc (.cells #[.int .i64 0, .int .i64 0, .slice none 0 0] 41)).drew fun e w' => e = .returned (.tuple #[.agg #[.int .i64 wd.op, .int .i64 wd.num, .slice none 0 0], .bool true]) ∧ Below w1.heap.size w1 w' ∧ w'.heap[w1.heap.size]? = some (.cells #[.int .i64 0, .int .i64 0, .slice none 0 0] 41 (0, 0))) := by
       show Calls _ _ _ _ _
       rw [hWN]
       exact (CP2.out WN.drew (HBW0.out.trans ((hbN.drew).mono HBW0.out.size))).mono fun e w' h => ⟨h.1, hbN.drew.trans (h.2.mono hbN.size), (h.2.block _ (Array.getElem?_eq_some_iff.1 hzN).1).trans hzN⟩
      have HKS2 : Hid (∀ W2 o, Below w1.heap.size w1 W2 → (W2.alloc o).cell? ⟨B, 1, none⟩ = some (.slice (some ⟨b2, o2, none⟩) S.ts.length cap2) ∧ (W2.alloc o).cell? ⟨B, 3, none⟩ = some (.int .i64 (a : Nat)) ∧ (W2.alloc o).cell? ⟨b2, o2 + a, none⟩ = some (.string (nmT S t))) := fun W2 o h => HKS.out _ (h.alloc h.size _)
      clear hbN hzN hWN
      go_wp2_with fail
      refine wp_region_held_drew (S := fun W' => W'.cell? ⟨B, 1, none⟩ = some (.slice (some ⟨b2, o2, none⟩) S.ts.length cap2) ∧ W'.cell? ⟨B, 3, none⟩ = some (.int .i64 (a : Nat)) ∧ W'.cell? ⟨b2, o2 + a, none⟩ = some (.string (nmT S t))) (by kernel_rfl) ⟨c1, c3, n0⟩ (fun hHeld => ?_)
      refine takeQ_ (i := 0) (v := ?_) rfl (by kernel_rfl) (fun _ _ _ h => h) (by rfl) ?_ (by assumption) ?_
      rotate_left
      focus (intro w' hSw; (try dsimp only at hSw); go_simp; try with_reducible rfl)
      (try simp only [Act.put, puts_])
      refine takeQ_ (i := 1) (v := ?_) rfl (by kernel_rfl) (fun _ _ _ h => h) (by rfl) ?_ (by assumption) ?_
      rotate_left
      focus (intro w' hSw; (try dsimp only at hSw); go_simp; try with_reducible rfl)
      (try simp only [Act.put, puts_])
      refine takeQ_ (i := 2) (v := ?_) rfl (by kernel_rfl) (fun _ _ _ h => h) (by rfl) ?_ (by assumption) ?_
      rotate_left
      focus (intro w' hSw; (try dsimp only at hSw); go_simp; try with_reducible rfl)
      (try simp only [Act.put, puts_])
      refine takeQ_ (i := 3) (v := ?_) rfl (by kernel_rfl) (fun _ _ _ h => h) (by rfl) ?_ (by assumption) ?_
      rotate_left
      focus (intro w' hSw; (try dsimp only at hSw); go_simp; try with_reducible rfl)
      (try simp only [Act.put, puts_])
      refine takeQ_ (i := 4) (v := ?_) rfl (by kernel_rfl) (fun _ _ _ h => h) (by rfl) ?_ (by assumption) ?_
      rotate_left
      focus (intro w' hSw; (try dsimp only at hSw); go_simp; try with_reducible rfl)
      (try simp only [Act.put, puts_])
      refine takeQ_ (i := 5) (v := ?_) rfl (by kernel_rfl) (fun _ _ _ h => h) (by rfl) ?_ (by assumption) ?_
      rotate_left
      focus (intro w' hSw; (try dsimp only at hSw); go_simp; try with_reducible rfl)
      (try simp only [Act.put, puts_])
      refine takeQ_ (i := 6) (v := ?_) rfl (by kernel_rfl) (fun _ _ _ h => h) (by rfl) ?_ (by assumption) ?_
      rotate_left
      focus (intro w' hSw; (try dsimp only at hSw); go_simp; try with_reducible rfl)
      (try simp only [Act.put, puts_])
      refine takeQ_ (i := 7) (v := ?_) rfl (by kernel_rfl) (fun _ _ _ h => h) (by rfl) ?_ (by assumption) ?_
      rotate_left
      focus (intro w' hSw; (try dsimp only at hSw); go_simp; try with_reducible rfl)
      (try simp only [Act.put, puts_])
      refine takeQ_ (i := 8) (v := ?_) rfl (by kernel_rfl) (fun _ _ _ h => h) (by rfl) ?_ (by assumption) ?_
      rotate_left
      focus (intro w' hSw; (try dsimp only at hSw); go_simp; try with_reducible rfl)
      (try simp only [Act.put, puts_])
      refine takeQ_ (i := 9) (v := ?_) rfl (by kernel_rfl) (fun _ _ _ h => h) (by rfl) ?_ (by assumption) ?_
      rotate_left
      focus (intro w' hSw; (try dsimp only at hSw); go_simp; try with_reducible rfl)
      (try simp only [Act.put, puts_])
      refine takeQ_ (i := 10) (v := ?_) rfl (by kernel_rfl) (fun _ _ _ h => h) (by rfl) ?_ (by assumption) ?_
      rotate_left
      focus (intro w' hSw; (try dsimp only at hSw); go_simp; try with_reducible rfl)
      (try simp only [Act.put, puts_])
      refine takeQ_ (i := 11) (v := ?_) rfl (by kernel_rfl) (fun _ _ _ h => h) (by rfl) ?_ (by assumption) ?_
      rotate_left
      focus (intro w' hSw; (try dsimp only at hSw); go_simp; try with_reducible rfl)
      (try simp only [Act.put, puts_])
      refine wpAnyH_ready (rs := [12, 16]) (by kernel_rfl) (by simp) ?_
      refine AllReadyH.cons (o := _) rfl (fun K hK => ?_) ?_
      ·go_simp; refine CPa.out.mono ?_; rintro e2 w2 ⟨rfl, hb2'⟩; have HB2 := Lib.hid hb2'; clear hb2'; dsimp only
       refine hK.out _ _ (HKS.out _ HB2.out) (fun hHeld => ?_)
       clear hK K
       (try simp only [Act.put, puts_])
       refine takeQ_ (i := 13) (v := ?_) rfl (by kernel_rfl) (fun _ _ _ h => h) (by rfl) ?_ (by assumption) ?_
       rotate_left
       focus (intro w' hSw; (try dsimp only at hSw); go_simp; try with_reducible rfl)
       (try simp only [Act.put, puts_])
       refine takeQ_ (i := 14) (v := ?_) rfl (by kernel_rfl) (fun _ _ _ h => h) (by rfl) ?_ (by assumption) ?_
       rotate_left
       focus (intro w' hSw; (try dsimp only at hSw); go_simp; try with_reducible rfl)
       (try simp only [Act.put, puts_])
       refine takeQ_ (i := 15) (v := ?_) rfl (by kernel_rfl) (fun _ _ _ h => h) (by rfl) ?_ (by assumption) ?_
       rotate_left
       focus (intro w' hSw; (try dsimp only at hSw); go_simp; try with_reducible rfl)
       (try simp only [Act.put, puts_])
       refine wpAnyH_ready (rs := [16]) (by kernel_rfl) (by simp) ?_
       refine AllReadyH.cons (o := _) rfl (fun K hK => ?_) AllReadyH.nil
       go_simp
       refine hK.out _ _ (HKS2.out _ _ HB2.out) (fun hHeld => ?_)
       clear hK K
       (try simp only [Act.put, puts_])
       refine wpAnyH_ready (rs := [17]) (by kernel_rfl) (by simp) ?_
       refine AllReadyH.cons (o := _) rfl (fun K hK => ?_) AllReadyH.nil
       go_simp
       refine hK.out _ _ (HKS2.out _ _ HB2.out) (fun hHeld => ?_)
       clear hK K
       (try simp only [Act.put, puts_])
       refine takeQ_ (i := 18) (v := ?_) rfl (by kernel_rfl) (fun _ _ _ h => h) (by rfl) ?_ (by assumption) ?_
       rotate_left
       focus (intro w' hSw; (try dsimp only at hSw); go_simp; try with_reducible rfl)
       (try simp only [Act.put, puts_])
       refine wpAnyH_done (by kernel_rfl) ?_ _
       refine wp_post (fun W9 => Below w1.heap.size w1 W9 ∧ W9.heap[w2.heap.size]? = some (.cells #[.int .i64 wd.op, .int .i64 wd.num, .slice none 0 0] 41 (0, 0))) ⟨(HB2.out.alloc HB2.out.size _), heap_alloc_new w2 _⟩ (fun W9 hW9 => ?_)
       obtain ⟨hb9, hy9⟩ := hW9
       have hA9 := HA1.out.below hb9
       obtain ⟨fp9, fe9, hbx9⟩ := hA9.box
       obtain ⟨-, -, -, d3, -, -, -, dbl⟩ := hbx9.cells
       have e3 := hbx9.free 3
       have hz9 : W9.heap[X]? = some (.cells #[.int .i64 0, .int .i64 0, .slice none 0 0] 41 (0, 0)) := (hb9.block X hX1).trans HZ1.out
       have xx0 : W9.cell? ⟨X, 0, none⟩ = some (.int .i64 0) := (cell_of_row _ _ _ _ _ _ hz9).trans rfl
       have xx1 : W9.cell? ⟨X, 1, none⟩ = some (.int .i64 0) := (cell_of_row _ _ _ _ _ _ hz9).trans rfl
       have xx2 : W9.cell? ⟨X, 2, none⟩ = some (.slice none 0 0) := (cell_of_row _ _ _ _ _ _ hz9).trans rfl
       have ff0 := frozen_of_row W9 X 0 _ _ hz9
       have ff1 := frozen_of_row W9 X 1 _ _ hz9
       have ff2 := frozen_of_row W9 X 2 _ _ hz9
       have yy0 : W9.cell? ⟨w2.heap.size, 0, none⟩ = some (.int .i64 wd.op) := (cell_of_row _ _ _ _ _ _ hy9).trans rfl
       have yy1 : W9.cell? ⟨w2.heap.size, 1, none⟩ = some (.int .i64 wd.num) := (cell_of_row _ _ _ _ _ _ hy9).trans rfl
       have yy2 : W9.cell? ⟨w2.heap.size, 2, none⟩ = some (.slice none 0 0) := (cell_of_row _ _ _ _ _ _ hy9).trans rfl
       have yyl := (Array.getElem?_eq_some_iff.1 hy9).1
       have xxl := (Array.getElem?_eq_some_iff.1 hz9).1
       have hs12 := HB2.out.size
       have hYB : w2.heap.size ≠ B := by omega
       have hXY : X ≠ w2.heap.size := by omega
       have hXBn : X ≠ B := by omega
       have hg10 : W9.grownBy (W9.setCell ⟨B, 3, none⟩ (.int .i64 ((a + 1 : Nat) : Int))) (some B) := g_set (g_refl W9 B) _
       have HA10 := Lib.hid (hA9.step hg10 (heap_setCell_same W9 B 3 _ _ _ hbx9) (show a + 1 ≤ S.ts.length by omega))
       have HZ10 : Hid ((W9.setCell ⟨B, 3, none⟩ (.int .i64 ((a + 1 : Nat) : Int))).heap[X]? = some (.cells #[.int .i64 0, .int .i64 0, .slice none 0 0] 41 (0, 0))) := (hg10.block X xxl (fun e => hXBn (by injection e))).trans hz9
       have HG10 := Lib.hid (g_trans (g_below HG1.out hb9) hg10)
       clear hb9 hy9 hA9 hbx9 hz9 hg10
       go_simp
       go_wp2_with fail
       refine wp_post (fun W' => W'.heap[X]? = some (.cells #[.int .i64 wd.op, .int .i64 wd.num, .slice none 0 0] 41 (0, 0)) ∧ (W9.setCell ⟨B, 3, none⟩ (.int .i64 ((a + 1 : Nat) : Int))).grownBy W' (some X)) (set3w HZ10.out _ _ _) (fun W' hW => ?_)
       exact bodyPost_ret (res_tone hW.1 rfl _ rfl) rfl (HFIN.out _ _ _ _ _ _ _ HG.out HA10.out HG10.out (leaf_wt HLF.out) hW.1 hW.2)
      refine AllReadyH.cons (o := _) rfl (fun K hK => ?_) AllReadyH.nil
      go_simp
      refine hK.out _ _ (HKS2.out w1 _ (Below.refl _ w1)) (fun hHeld => ?_)
      clear hK K
      (try simp only [Act.put, puts_])
      refine wpAnyH_ready (rs := [12]) (by kernel_rfl) (by simp) ?_
      refine AllReadyH.cons (o := _) rfl (fun K hK => ?_) AllReadyH.nil
      go_simp; refine CPb.out.mono ?_; rintro e2 w2 ⟨rfl, hb2', hz5⟩; have HB2 := Lib.hid hb2'; have y0 : w2.cell? ⟨w1.heap.size, 0, none⟩ = some (.int .i64 0) := (cell_of_row _ _ _ _ _ _ hz5).trans rfl; have y1 : w2.cell? ⟨w1.heap.size, 1, none⟩ = some (.int .i64 0) := (cell_of_row _ _ _ _ _ _ hz5).trans rfl; have y2 : w2.cell? ⟨w1.heap.size, 2, none⟩ = some (.slice none 0 0) := (cell_of_row _ _ _ _ _ _ hz5).trans rfl; have v0 := frozen_of_row w2 w1.heap.size 0 _ _ hz5; have v1 := frozen_of_row w2 w1.heap.size 1 _ _ hz5; have v2 := frozen_of_row w2 w1.heap.size 2 _ _ hz5; have yl := (Array.getElem?_eq_some_iff.1 hz5).1; have HB3 : Hid (Below w1.heap.size w1 (((w2.setCell ⟨w1.heap.size, 0, none⟩ (.int .i64 wd.op)).setCell ⟨w1.heap.size, 1, none⟩ (.int .i64 wd.num)).setCell ⟨w1.heap.size, 2, none⟩ (.slice none 0 0))) := hb2'.grown (set3w hz5 _ _ _).2 hb2'.size (fun k hk => by injection hk with hk; omega); have HZ5 := Lib.hid (set3w hz5 (.int .i64 wd.op) (.int .i64 wd.num) (.slice none 0 0)); clear hb2' hz5; dsimp only
      refine hK.out _ _ (HKS.out _ HB2.out) (fun hHeld => ?_)
      clear hK K
      (try simp only [Act.put, puts_])
      refine takeQ_ (i := 13) (v := ?_) rfl (by kernel_rfl) (fun _ _ _ h => h) (by rfl) ?_ (by assumption) ?_
      rotate_left
      focus (intro w' hSw; (try dsimp only at hSw); go_simp; try with_reducible rfl)
      (try simp only [Act.put, puts_])
      refine takeQ_ (i := 14) (v := ?_) rfl (by kernel_rfl) (fun _ _ _ h => h) (by rfl) ?_ (by assumption) ?_
      rotate_left
      focus (intro w' hSw; (try dsimp only at hSw); go_simp; try with_reducible rfl)
      (try simp only [Act.put, puts_])
      refine takeQ_ (i := 15) (v := ?_) rfl (by kernel_rfl) (fun _ _ _ h => h) (by rfl) ?_ (by assumption) ?_
      rotate_left
      focus (intro w' hSw; (try dsimp only at hSw); go_simp; try with_reducible rfl)
      (try simp only [Act.put, puts_])
      refine wpAnyH_ready (rs := [17]) (by kernel_rfl) (by simp) ?_
      refine AllReadyH.cons (o := _) rfl (fun K hK => ?_) AllReadyH.nil
      go_simp
      refine hK.out _ _ (HKS.out _ HB3.out) (fun hHeld => ?_)
      clear hK K
      (try simp only [Act.put, puts_])
      refine takeQ_ (i := 18) (v := ?_) rfl (by kernel_rfl) (fun _ _ _ h => h) (by rfl) ?_ (by assumption) ?_
      rotate_left
      focus (intro w' hSw; (try dsimp only at hSw); go_simp; try with_reducible rfl)
      (try simp only [Act.put, puts_])
      refine wpAnyH_done (by kernel_rfl) ?_ _
      refine wp_post (fun W9 => Below w1.heap.size w1 W9 ∧ W9.heap[w1.heap.size]? = some (.cells #[.int .i64 wd.op, .int .i64 wd.num, .slice none 0 0] 41 (0, 0))) ⟨HB3.out, HZ5.out.1⟩ (fun W9 hW9 => ?_)
      obtain ⟨hb9, hy9⟩ := hW9
      have hA9 := HA1.out.below hb9
      obtain ⟨fp9, fe9, hbx9⟩ := hA9.box
      obtain ⟨-, -, -, d3, -, -, -, dbl⟩ := hbx9.cells
      have e3 := hbx9.free 3
      have hz9 : W9.heap[X]? = some (.cells #[.int .i64 0, .int .i64 0, .slice none 0 0] 41 (0, 0)) := (hb9.block X hX1).trans HZ1.out
      have xx0 : W9.cell? ⟨X, 0, none⟩ = some (.int .i64 0) := (cell_of_row _ _ _ _ _ _ hz9).trans rfl
      have xx1 : W9.cell? ⟨X, 1, none⟩ = some (.int .i64 0) := (cell_of_row _ _ _ _ _ _ hz9).trans rfl
      have xx2 : W9.cell? ⟨X, 2, none⟩ = some (.slice none 0 0) := (cell_of_row _ _ _ _ _ _ hz9).trans rfl
      have ff0 := frozen_of_row W9 X 0 _ _ hz9
      have ff1 := frozen_of_row W9 X 1 _ _ hz9
      have ff2 := frozen_of_row W9 X 2 _ _ hz9
      have yy0 : W9.cell? ⟨w1.heap.size, 0, none⟩ = some (.int .i64 wd.op) := (cell_of_row _ _ _ _ _ _ hy9).trans rfl
      have yy1 : W9.cell? ⟨w1.heap.size, 1, none⟩ = some (.int .i64 wd.num) := (cell_of_row _ _ _ _ _ _ hy9).trans rfl
      have yy2 : W9.cell? ⟨w1.heap.size, 2, none⟩ = some (.slice none 0 0) := (cell_of_row _ _ _ _ _ _ hy9).trans rfl
      have yyl := (Array.getElem?_eq_some_iff.1 hy9).1
      have xxl := (Array.getElem?_eq_some_iff.1 hz9).1
      have hs12 := HB2.out.size
      have hYB : w1.heap.size ≠ B := by omega
      have hXY : X ≠ w1.heap.size := by omega
      have hXBn : X ≠ B := by omega
      have hg10 : W9.grownBy (W9.setCell ⟨B, 3, none⟩ (.int .i64 ((a + 1 : Nat) : Int))) (some B) := g_set (g_refl W9 B) _
      have HA10 := Lib.hid (hA9.step hg10 (heap_setCell_same W9 B 3 _ _ _ hbx9) (show a + 1 ≤ S.ts.length by omega))
      have HZ10 : Hid ((W9.setCell ⟨B, 3, none⟩ (.int .i64 ((a + 1 : Nat) : Int))).heap[X]? = some (.cells #[.int .i64 0, .int .i64 0, .slice none 0 0] 41 (0, 0))) := (hg10.block X xxl (fun e => hXBn (by injection e))).trans hz9
      have HG10 := Lib.hid (g_trans (g_below HG1.out hb9) hg10)
      clear hb9 hy9 hA9 hbx9 hz9 hg10
      go_simp
      go_wp2_with fail
      refine wp_post (fun W' => W'.heap[X]? = some (.cells #[.int .i64 wd.op, .int .i64 wd.num, .slice none 0 0] 41 (0, 0)) ∧ (W9.setCell ⟨B, 3, none⟩ (.int .i64 ((a + 1 : Nat) : Int))).grownBy W' (some X)) (set3w HZ10.out _ _ _) (fun W' hW => ?_)
      exact bodyPost_ret (res_tone hW.1 rfl _ rfl) rfl (HFIN.out _ _ _ _ _ _ _ HG.out HA10.out HG10.out (leaf_wt HLF.out) hW.1 hW.2)
    ·have HO := Lib.hid (one_other (f := f) (deep := deep) h15 h17 h1)
     have t1 : ((kindP S a : Int) == 1) = false := by rw [beq_eq_false_iff_ne]; omega
     have CF : Hid (Calls Tryz.prog 55 #[.pointer (some ⟨B, 0, none⟩), .int .i64 70] w1 (Fails W0 B T S tv nv brk w1 (posP S a) 70)) := tfail_any HC.out HA1.out 70
     clear h1 h15 h17
     go_wp2_with fail
     refine CF.out.mono ?_
     rintro e2 w2 h2
     obtain ⟨rfl, h3⟩ := h2.after HG1.out
     refine ⟨rfl, ?_⟩
     rw [← HPP.out, HO.out]
     exact ⟨rfl, h3⟩
end Go.Proofs.YtbdllefnghddcaaGreatDoor
