/- PARSE: a route. -/
import Derived.Test.YtbdllefnghddcaaGreatDoorPPl
import Derived.Test.YtbdllefnghddcaaGreatDoorPMem
namespace Go.Proofs.YtbdllefnghddcaaGreatDoor
open Go Go.RowKit
attribute [local go_sem ↓] Go.wp_at_zero Go.wp_at_succ

set_option maxRecDepth 100000 in
set_option maxHeartbeats 16000000 in
set_option linter.unusedSimpArgs false in
theorem troute_any {W0 W : World} {B : Nat} {T : TypeId} {S : Src} {tv nv brk : Value} {a : Nat} (hC : Cx W0 S tv nv brk) (h : At W0 W B T S tv nv a 0) (hl : a < S.ts.length) :
  Calls Tryz.prog 71 #[.pointer (some ⟨B, 0, none⟩)] W (StepPost W0 B T S tv nv brk 0 RepRo W (routeP S a)) := by
 obtain ⟨PP, hPP⟩ : ∃ PP : Ending → World → Prop, StepPost W0 B T S tv nv brk 0 RepRo W (routeP S a) = PP := ⟨_, rfl⟩
 rw [hPP]
 have HPP := Lib.hid hPP
 obtain ⟨X, hX⟩ : ∃ X, W.heap.size = X := ⟨_, rfl⟩
 obtain ⟨WA, hWA⟩ : ∃ WA, W.alloc (.cells #[.string ⟨#[]⟩, .int .i64 0, .bool false, .int .i64 0, .int .i64 0, .slice none 0 0, .bool false, .string ⟨#[]⟩, .int .i64 0, .int .i64 0] 84) = WA := ⟨_, rfl⟩
 have hz := aRow_ hWA hX
 have hbA : Below W.heap.size W WA := by rw [← hWA]; exact (Below.refl _ W).alloc (Nat.le_refl _) _
 have hsA : WA.heap.size = X + 1 := by rw [← hWA, ← hX]; simp
 have hXB : B < X := by have := h.lt; omega
 have HXB := Lib.hid hXB
 have HX := Lib.hid hX
 have HWA := Lib.hid hWA
 have HZ := Lib.hid hz
 have HBA := Lib.hid hbA
 have HSA := Lib.hid hsA
 have HC := Lib.hid hC
 have HL := Lib.hid hl
 have HAA := Lib.hid (h.below hbA)
 have CP := Lib.hid (tpos_any hC (h.below hbA))
 have hfew := hC.few
 clear hPP hC h hX hWA hz hbA hsA hXB hl
 go_enter Tryz.func71, Tryz.ntmps71
 go_upto_region 1 with fail
 rw [HX.out, HWA.out]
 go_wp2_with fail
 refine CP.out.mono ?_
 rintro e1 w1 ⟨rfl, hb1⟩
 obtain ⟨D, hD⟩ : ∃ D, w1.heap.size = D := ⟨_, rfl⟩
 have hsa := HSA.out
 have hb1s := hb1.size
 obtain ⟨WD, hWD⟩ : ∃ WD, w1.alloc (.cells #[.string ⟨#[]⟩, .int .i64 0, .bool false, .int .i64 0, .int .i64 0, .slice none 0 0, .bool false, .string ⟨#[]⟩, .int .i64 0, .int .i64 (posP S a : Nat)] 84) = WD := ⟨_, rfl⟩
 have hbD : Below w1.heap.size w1 WD := by rw [← hWD]; exact (Below.refl _ _).alloc (Nat.le_refl _) _
 have hzD := aRow_ hWD hD
 have HD0 : Hid (Dec W0 W WD B X D T 84 S tv nv #[.string ⟨#[]⟩, .int .i64 0, .bool false, .int .i64 0, .int .i64 0, .slice none 0 0, .bool false, .string ⟨#[]⟩, .int .i64 0, .int .i64 0] #[.string ⟨#[]⟩, .int .i64 0, .bool false, .int .i64 0, .int .i64 0, .slice none 0 0, .bool false, .string ⟨#[]⟩, .int .i64 0, .int .i64 (posP S a : Nat)] a 0) := ⟨(HAA.out.below hb1).below hbD, g_trans (g_of HBA.out) (g_trans (g_of hb1) (g_of hbD)), (hbD.block X (by omega)).trans ((hb1.block X (by omega)).trans HZ.out), hzD, HXB.out, by omega, by have := HX.out; omega⟩
 have HDD := Lib.hid hD
 have HWD := Lib.hid hWD
 clear hD hWD hbD hzD hb1 hsa hb1s CP
 go_upto_region 2 with fail
 rw [HDD.out, HWD.out]
 obtain ⟨k3, fk3, bl, hA1, hg1⟩ := HD0.out.at_.inc HL.out
 have e2 : wrap64 ((a : Int) + 1) = ((a + 1 : Nat) : Int) := by have := hfew; have := HL.out; unfold wrap64; omega
 have HD1 := Lib.hid (HD0.out.call hA1 hg1)
 clear hA1 hg1
 go_upto_region 3 with fail
 refine wp_world (fun W2 => Dec W0 W W2 B X D T 84 S tv nv #[.string ⟨#[]⟩, .int .i64 0, .bool false, .int .i64 0, .int .i64 0, .slice none 0 0, .bool false, .string ⟨#[]⟩, .int .i64 0, .int .i64 0] #[.string ⟨#[]⟩, .int .i64 0, .bool false, .int .i64 0, .int .i64 0, .slice none 0 0, .bool false, .string ⟨#[]⟩, .int .i64 0, .int .i64 (posP S a : Nat)] (a + 1) 0) HD1.out (fun W2 hW2 => ?_)
 obtain ⟨a1, ha1⟩ : ∃ a1, a + 1 = a1 := ⟨_, rfl⟩
 rw [ha1] at hW2
 have HA1 := Lib.hid ha1
 clear ha1
 have HD2 := Lib.hid hW2
 clear hW2 k3 fk3 bl e2 HD1
 have CW : Hid (∀ W', Below W2.heap.size W2 W' → Calls Tryz.prog 119 #[.pointer (some ⟨B, 0, none⟩), .int .i64 3] W' (StepPost W0 B T S tv nv brk 0 (fun _ _ v _ => v = .int .i64 (a1 : Nat)) W' (wantP S 3 a1))) := fun W' hb => twant_any HC.out (HD2.out.at_.below hb) 3 (by omega)
 have c0 := HD2.out.at_.toks
 have hlB := HD2.out.at_.lt
 by_cases he : kindP S a1 = 3
 ·have HW : Hid (wantP S 3 a1 = .ok () (a1 + 1)) := by show _ = _; unfold wantP; rw [if_pos he]
  rw [HW.out] at CW
  have hlt := kind_lt he (by omega)
  obtain ⟨t, hat⟩ : ∃ t, S.ts[a1]? = some t := ⟨_, List.getElem?_eq_getElem hlt⟩
  have HTX : Hid (textT S a1 = ba t.text) := by show _ = _; unfold textT; rw [hat]
  have HPS := Lib.hid (pos_some hat)
  obtain ⟨b, o, cap, htv, hb, n0, n1, n2, n3, n4⟩ := (HC.out.toks.below HD2.out.at_.bel).tok hat
  have HKS : Hid (∀ W' a', At W0 W' B T S tv nv a' 0 → W'.cell? ⟨B, 0, none⟩ = some (.slice (some ⟨b, o, none⟩) S.ts.length cap) ∧ W'.cell? ⟨b, o + a1 * 5, none⟩ = some (.int .i64 (t.kind : Nat)) ∧ W'.cell? ⟨b, o + a1 * 5 + 1, none⟩ = some (.int .i64 (t.pos : Nat)) ∧ W'.cell? ⟨b, o + a1 * 5 + 2, none⟩ = some (.int .i64 (t.stop : Nat)) ∧ W'.cell? ⟨b, o + a1 * 5 + 3, none⟩ = some (.int .u64 (t.num : Nat)) ∧ W'.cell? ⟨b, o + a1 * 5 + 4, none⟩ = some (.string (ba t.text))) := fun W' a' hA => by
   obtain ⟨b', o', cap', e, -, k0, k1, k2, k3, k4⟩ := (HC.out.toks.below hA.bel).tok hat
   have ht0 := hA.toks
   rw [htv] at e ht0
   injection e with e
   injection e with e
   injection e with e1 e2
   subst e1; subst e2
   exact ⟨ht0, k0, k1, k2, k3, k4⟩
  have hltI : ((a1 : Nat) : Int) < (S.ts.length : Int) := by omega
  have ha0 : (0 : Int) ≤ ((a1 : Nat) : Int) := by omega
  rw [htv] at c0
  have HTV := Lib.hid htv
  clear he hat hlt htv
  go_cut [4] (fun s4 wx => ∃ R, s4 = .pointer (some ⟨R, 0, none⟩) ∧ Hid (Dec W0 W wx B X D T 84 S tv nv #[.string ⟨#[]⟩, .int .i64 0, .bool false, .int .i64 0, .int .i64 0, .slice none 0 0, .bool false, .string ⟨#[]⟩, .int .i64 0, .int .i64 0] #[.string ⟨#[]⟩, .int .i64 0, .bool false, .int .i64 0, .int .i64 0, .slice none 0 0, .bool false, .string ⟨#[]⟩, .int .i64 0, .int .i64 (posP S a : Nat)] (a1 + 1) 0) ∧ D < R ∧ wx.heap[R]? = some (.cells #[.int .i64 (t.kind : Nat), .int .i64 (t.pos : Nat), .int .i64 (t.stop : Nat), .int .u64 (t.num : Nat), .string (ba t.text)] 114 (0, 0)))
  case first =>
   obtain ⟨R, hR0⟩ : ∃ R, W2.heap.size = R := ⟨_, rfl⟩
   have hzR := heap_alloc_new W2 (.cells #[.int .i64 0, .int .i64 0, .int .i64 0, .int .u64 0, .string ⟨#[]⟩] 114)
   rw [hR0] at hzR
   have hRD := HD2.out.dlt
   rw [hR0] at hRD
   have HR0 := Lib.hid hR0
   have HRD := Lib.hid hRD
   have HZR := Lib.hid hzR
   clear hR0 hzR hRD
   refine wp_region_held_drew (S := fun W' => W'.cell? ⟨B, 0, none⟩ = some (.slice (some ⟨b, o, none⟩) S.ts.length cap) ∧ W'.cell? ⟨b, o + a1 * 5, none⟩ = some (.int .i64 (t.kind : Nat)) ∧ W'.cell? ⟨b, o + a1 * 5 + 1, none⟩ = some (.int .i64 (t.pos : Nat)) ∧ W'.cell? ⟨b, o + a1 * 5 + 2, none⟩ = some (.int .i64 (t.stop : Nat)) ∧ W'.cell? ⟨b, o + a1 * 5 + 3, none⟩ = some (.int .u64 (t.num : Nat)) ∧ W'.cell? ⟨b, o + a1 * 5 + 4, none⟩ = some (.string (ba t.text))) (by kernel_rfl) ⟨c0, n0, n1, n2, n3, n4⟩ (fun hHeld => ?_)
   refine takeQ_ (i := 0) (v := ?_) rfl (by kernel_rfl) (fun _ _ _ h => h) (by rfl) ?_ (by assumption) ?_
   rotate_left
   focus (intro w' hSw; (try dsimp only at hSw); go_simp; try with_reducible rfl)
   (try simp only [Act.put, puts_])
   refine takeQ_ (i := 1) (v := ?_) rfl (by kernel_rfl) (fun _ _ _ h => h) (by rfl) ?_ (by assumption) ?_
   rotate_left
   focus (intro w' hSw; (try dsimp only at hSw); go_simp; try with_reducible rfl)
   (try simp only [Act.put, puts_])
   refine takeQ_ (i := 2) (v := ?_) rfl (by kernel_rfl) (fun _ _ _ h => h) (by rfl) ?_ (by assumption) ?_
   rotate_left
   focus (intro w' hSw; (try dsimp only at hSw); go_simp; try with_reducible rfl)
   (try simp only [Act.put, puts_])
   refine takeQ_ (i := 3) (v := ?_) rfl (by kernel_rfl) (fun _ _ _ h => h) (by rfl) ?_ (by assumption) ?_
   rotate_left
   focus (intro w' hSw; (try dsimp only at hSw); go_simp; try with_reducible rfl)
   (try simp only [Act.put, puts_])
   refine takeQ_ (i := 4) (v := ?_) rfl (by kernel_rfl) (fun _ _ _ h => h) (by rfl) ?_ (by assumption) ?_
   rotate_left
   focus (intro w' hSw; (try dsimp only at hSw); go_simp; try with_reducible rfl)
   (try simp only [Act.put, puts_])
   refine takeQ_ (i := 5) (v := ?_) rfl (by kernel_rfl) (fun _ _ _ h => h) (by rfl) ?_ (by assumption) ?_
   rotate_left
   focus (intro w' hSw; (try dsimp only at hSw); go_simp; try with_reducible rfl)
   (try simp only [Act.put, puts_])
   refine takeQ_ (i := 6) (v := ?_) rfl (by kernel_rfl) (fun _ _ _ h => h) (by rfl) ?_ (by assumption) ?_
   rotate_left
   focus (intro w' hSw; (try dsimp only at hSw); go_simp; try with_reducible rfl)
   (try simp only [Act.put, puts_])
   refine takeQ_ (i := 7) (v := ?_) rfl (by kernel_rfl) (fun _ _ _ h => h) (by rfl) ?_ (by assumption) ?_
   rotate_left
   focus (intro w' hSw; (try dsimp only at hSw); go_simp; try with_reducible rfl)
   (try simp only [Act.put, puts_])
   refine takeQ_ (i := 8) (v := ?_) rfl (by kernel_rfl) (fun _ _ _ h => h) (by rfl) ?_ (by assumption) ?_
   rotate_left
   focus (intro w' hSw; (try dsimp only at hSw); go_simp; try with_reducible rfl)
   (try simp only [Act.put, puts_])
   refine takeQ_ (i := 9) (v := ?_) rfl (by kernel_rfl) (fun _ _ _ h => h) (by rfl) ?_ (by assumption) ?_
   rotate_left
   focus (intro w' hSw; (try dsimp only at hSw); go_simp; try with_reducible rfl)
   (try simp only [Act.put, puts_])
   refine wpAnyH_ready (rs := [10, 13]) (by kernel_rfl) (by simp) ?_
   refine AllReadyH.cons (o := _) rfl (fun K hK => ?_) ?_
   ·go_simp; refine (CW.out _ (Below.refl _ _).drew).mono ?_; rintro e1 w1 ⟨v, rfl, hv, hA1, hg1⟩; have hv : v = .int .i64 (a1 : Nat) := hv; subst hv; have HD3 := Lib.hid (HD2.out.call hA1 (g_trans (g_of (Below.refl _ _).drew) hg1)); clear hA1 hg1; dsimp only
    refine hK.out _ _ (HKS.out _ _ HD3.out.at_) (fun hHeld => ?_)
    clear hK K
    (try simp only [Act.put, puts_])
    refine takeQ_ (i := 11) (v := ?_) rfl (by kernel_rfl) (fun _ _ _ h => h) (by rfl) ?_ (by assumption) ?_
    rotate_left
    focus (intro w' hSw; (try dsimp only at hSw); go_simp; try with_reducible rfl)
    (try simp only [Act.put, puts_])
    refine takeQ_ (i := 12) (v := ?_) rfl (by kernel_rfl) (fun _ _ _ h => h) (by rfl) ?_ (by assumption) ?_
    rotate_left
    focus (intro w' hSw; (try dsimp only at hSw); go_simp; try with_reducible rfl)
    (try simp only [Act.put, puts_])
    refine wpAnyH_ready (rs := [13]) (by kernel_rfl) (by simp) ?_
    refine AllReadyH.cons (o := _) rfl (fun K hK => ?_) AllReadyH.nil
    go_simp
    refine hK.out _ _ (HKS.out _ _ (HD3.out.below ((Below.refl _ _).alloc (Nat.le_refl _) _)).at_) (fun hHeld => ?_)
    clear hK K
    (try simp only [Act.put, puts_])
    refine wpAnyH_ready (rs := [14]) (by kernel_rfl) (by simp) ?_
    refine AllReadyH.cons (o := _) rfl (fun K hK => ?_) AllReadyH.nil
    go_simp
    refine hK.out _ _ (HKS.out _ _ (HD3.out.below ((Below.refl _ _).alloc (Nat.le_refl _) _)).at_) (fun hHeld => ?_)
    clear hK K
    (try simp only [Act.put, puts_])
    refine wpAnyH_done (by kernel_rfl) ?_ _
    go_simp
    go_wp2_with fail
    go_meet
    exact ⟨_, rfl, HD3.out.below ((Below.refl _ _).alloc (Nat.le_refl _) _), HD3.out.dlt, heap_alloc_new w1 _⟩
   refine AllReadyH.cons (o := _) rfl (fun K hK => ?_) AllReadyH.nil
   go_simp
   refine hK.out _ _ (HKS.out _ _ (HD2.out.below ((Below.refl _ _).alloc (Nat.le_refl _) _).drew).at_) (fun hHeld => ?_)
   clear hK K
   (try simp only [Act.put, puts_])
   rw [HR0.out]
   refine wpAnyH_ready (rs := [10]) (by kernel_rfl) (by simp) ?_
   refine AllReadyH.cons (o := _) rfl (fun K hK => ?_) AllReadyH.nil
   go_simp; refine (CW.out _ ((Below.refl _ _).alloc (Nat.le_refl _) _).drew).mono ?_; rintro e1 w1 ⟨v, rfl, hv, hA1, hg1⟩; have hv : v = .int .i64 (a1 : Nat) := hv; subst hv; have HD3 := Lib.hid (HD2.out.call hA1 (g_trans (g_of ((Below.refl _ _).alloc (Nat.le_refl _) _).drew) hg1)); have hz1 : w1.heap[R]? = some (.cells #[.int .i64 0, .int .i64 0, .int .i64 0, .int .u64 0, .string ⟨#[]⟩] 114 (0, 0)) := (hg1.block R (by rw [World.size_drew, World.size_alloc]; have := HR0.out; omega) (fun e => by injection e with e; have := HRD.out; have := HD2.out.bx; have := HD2.out.xd; omega)).trans HZR.out; have y0 : w1.cell? ⟨R, 0, none⟩ = some (.int .i64 0) := (cell_of_row _ _ _ _ _ _ hz1).trans rfl; have y1 : w1.cell? ⟨R, 1, none⟩ = some (.int .i64 0) := (cell_of_row _ _ _ _ _ _ hz1).trans rfl; have y2 : w1.cell? ⟨R, 2, none⟩ = some (.int .i64 0) := (cell_of_row _ _ _ _ _ _ hz1).trans rfl; have y3 : w1.cell? ⟨R, 3, none⟩ = some (.int .u64 0) := (cell_of_row _ _ _ _ _ _ hz1).trans rfl; have y4 : w1.cell? ⟨R, 4, none⟩ = some (.string ⟨#[]⟩) := (cell_of_row _ _ _ _ _ _ hz1).trans rfl; have v0 := frozen_of_row w1 R 0 _ _ hz1; have v1 := frozen_of_row w1 R 1 _ _ hz1; have v2 := frozen_of_row w1 R 2 _ _ hz1; have v3 := frozen_of_row w1 R 3 _ _ hz1; have v4 := frozen_of_row w1 R 4 _ _ hz1; have yl := (Array.getElem?_eq_some_iff.1 hz1).1; have HZ1 := Lib.hid hz1; clear hA1 hg1 hz1; dsimp only
   refine hK.out _ _ (HKS.out _ _ HD3.out.at_) (fun hHeld => ?_)
   clear hK K
   (try simp only [Act.put, puts_])
   refine takeQ_ (i := 11) (v := ?_) rfl (by kernel_rfl) (fun _ _ _ h => h) (by rfl) ?_ (by assumption) ?_
   rotate_left
   focus (intro w' hSw; (try dsimp only at hSw); go_simp; try with_reducible rfl)
   (try simp only [Act.put, puts_])
   refine takeQ_ (i := 12) (v := ?_) rfl (by kernel_rfl) (fun _ _ _ h => h) (by rfl) ?_ (by assumption) ?_
   rotate_left
   focus (intro w' hSw; (try dsimp only at hSw); go_simp; try with_reducible rfl)
   (try simp only [Act.put, puts_])
   refine wpAnyH_ready (rs := [14]) (by kernel_rfl) (by simp) ?_
   refine AllReadyH.cons (o := _) rfl (fun K hK => ?_) AllReadyH.nil
   go_simp
   refine hK.out _ _ (HKS.out _ _ (HD3.out.far (set5t HZ1.out _ _ _ _ _).2 HRD.out).at_) (fun hHeld => ?_)
   clear hK K
   (try simp only [Act.put, puts_])
   refine wpAnyH_done (by kernel_rfl) ?_ _
   go_simp
   go_wp2_with fail
   go_meet
   exact ⟨_, rfl, HD3.out.far (set5t HZ1.out _ _ _ _ _).2 HRD.out, HRD.out, (set5t HZ1.out _ _ _ _ _).1⟩
  case rest =>
   obtain ⟨R, rfl, HD3, hdr, hr⟩ := hcut
   clear c0 hlB hb n0 n1 n2 n3 n4 hltI ha0 CW
   have r1 : wc.cell? ⟨R, 1, none⟩ = some (.int .i64 (t.pos : Nat)) := by rw [cell_of_row _ _ _ _ _ _ hr]; rfl
   have r4 : wc.cell? ⟨R, 4, none⟩ = some (.string (ba t.text)) := by rw [cell_of_row _ _ _ _ _ _ hr]; rfl
   have rl := (Array.getElem?_eq_some_iff.1 hr).1
   clear hr
   have k0 := HD3.out.cell (i := 0) rfl
   have k1 := HD3.out.cell (i := 1) rfl
   have fk0 := HD3.out.free 0
   have fk1 := HD3.out.free 1
   have dl := HD3.out.dlt
   go_upto_region 5 with fail
   refine wp_world (fun W4 => Dec W0 W W4 B X D T 84 S tv nv #[.string ⟨#[]⟩, .int .i64 0, .bool false, .int .i64 0, .int .i64 0, .slice none 0 0, .bool false, .string ⟨#[]⟩, .int .i64 0, .int .i64 0] #[.string (ba t.text), .int .i64 (t.pos : Nat), .bool false, .int .i64 0, .int .i64 0, .slice none 0 0, .bool false, .string ⟨#[]⟩, .int .i64 0, .int .i64 (posP S a : Nat)] (a1 + 1) 0) ((HD3.out.set 0 _).set 1 _) (fun W4 hW4 => ?_)
   have HD4 := Lib.hid hW4
   clear hW4 r1 r4 rl hdr
   clear k0 fk0 k1 fk1 dl
   obtain ⟨bw, hbw⟩ : ∃ bw, decide (kindP S (a1 + 1) = 13) = bw := ⟨_, rfl⟩
   obtain ⟨p1, hp1⟩ : ∃ p1, (if kindP S (a1 + 1) = 13 then (a1 + 1) + 1 else (a1 + 1)) = p1 := ⟨_, rfl⟩
   have HT1 := Lib.hid (takeP_of S 13 (a1 + 1))
   have CT := Lib.hid (ttake_any HC.out HD4.out.at_ 13 (by omega))
   rw [hbw, hp1] at CT HT1
   clear hbw hp1
   go_wp2_with fail
   refine CT.out.mono ?_
   rintro e5 w5 ⟨rfl, hA5, hg5⟩
   have HD5 := Lib.hid (HD4.out.call hA5 hg5)
   clear hA5 hg5 CT
   have k2 := HD5.out.cell (i := 2) rfl
   have fk2 := HD5.out.free 2
   have dl := HD5.out.dlt
   go_upto_region 6 with fail
   refine wp_world (fun W6 => Dec W0 W W6 B X D T 84 S tv nv #[.string ⟨#[]⟩, .int .i64 0, .bool false, .int .i64 0, .int .i64 0, .slice none 0 0, .bool false, .string ⟨#[]⟩, .int .i64 0, .int .i64 0] #[.string (ba t.text), .int .i64 (t.pos : Nat), .bool bw, .int .i64 0, .int .i64 0, .slice none 0 0, .bool false, .string ⟨#[]⟩, .int .i64 0, .int .i64 (posP S a : Nat)] p1 0) (HD5.out.set 2 _) (fun W6 hW6 => ?_)
   have HD6 := Lib.hid hW6
   clear hW6
   clear k2 fk2 dl
   have k2 := HD6.out.cell (i := 2) rfl
   have fk2 := HD6.out.free 2
   have dl := HD6.out.dlt
   go_upto_if 48 with fail
   go_cut [] (fun wx => ∃ (wt : Wt) (wq : Option Addr) (wn wc : Nat) (els : Bool) (p2 : Nat), Hid (routeP S a = routeL S a bw wt els p2) ∧ Hid (Dec W0 W wx B X D T 84 S tv nv #[.string ⟨#[]⟩, .int .i64 0, .bool false, .int .i64 0, .int .i64 0, .slice none 0 0, .bool false, .string ⟨#[]⟩, .int .i64 0, .int .i64 0] #[.string (ba t.text), .int .i64 (t.pos : Nat), .bool bw, .int .i64 wt.op, .int .i64 wt.num, .slice wq wn wc, .bool els, .string ⟨#[]⟩, .int .i64 0, .int .i64 (posP S a : Nat)] p2 0) ∧ Hid (RWt (fun b => D < b) wx [.int .i64 wt.op, .int .i64 wt.num, .slice wq wn wc] wt))
   case first =>
    clear k2 fk2 dl
    cases bw with
    | true =>
     have CE := Lib.hid (teither_any (W := W6) HC.out HD6.out.at_ (fuel S) fun W' b h' _ => tboth_any HC.out h' (fuel S) fun W'' b' h'' _ => tone_any (fuel S) HC.out h'' (by omega) (by unfold fuel; omega))
     go_wp2_with fail
     cases hwq : wantW S p1 with
     | bad p k =>
      have HWQ := Lib.hid hwq
      refine (show Calls _ _ _ _ (StepPost W0 B T S tv nv brk 0 RepW W6 (wantW S p1)) from CE.out).mono ?_
      rw [hwq]
      rintro e7 w7 ⟨rfl, h1, h2⟩
      have HE : Hid (routeP S a = .bad p k) := by show routeP S a = _; rw [routeP_eq, HA1.out, HW.out]; show PR.bind (takeP S 13 (a1 + 1)) _ = _; rw [HT1.out]; show PR.bind (PR.bind (wantW S p1) _) _ = _; rw [HWQ.out]; rfl
      refine ⟨rfl, ?_⟩
      rw [← HPP.out, HE.out]
      exact ⟨rfl, h1, g_trans HD6.out.gr h2⟩
     | ok wt p2 =>
      have HWQ := Lib.hid hwq
      refine (show Calls _ _ _ _ (StepPost W0 B T S tv nv brk 0 RepW W6 (wantW S p1)) from CE.out).mono ?_
      rw [hwq]
      rintro e7 w7 ⟨v7, rfl, ⟨wq, wn, wc, rfl, hv7⟩, hA7, hg7⟩
      have HD7 := Lib.hid (HD6.out.call hA7 hg7)
      have hdl6 := HD6.out.dlt
      have HV7 : Hid (RWt (fun b => D < b) w7 [.int .i64 wt.op, .int .i64 wt.num, .slice wq wn wc] wt) := goes_wt _ _ _ _ (fun b hb _ => ⟨rfl, by omega⟩) _ _ hv7
      clear hwq hA7 hg7 hv7 CE
      have k3 := HD7.out.cell (i := 3) rfl
      have k4 := HD7.out.cell (i := 4) rfl
      have k5 := HD7.out.cell (i := 5) rfl
      have fk3 := HD7.out.free 3
      have fk4 := HD7.out.free 4
      have fk5 := HD7.out.free 5
      have dl := HD7.out.dlt
      go_wp2_with fail
      go_meet
      exact ⟨wt, wq, wn, wc, false, p2, by show routeP S a = _; rw [routeP_eq, HA1.out, HW.out]; show PR.bind (takeP S 13 (a1 + 1)) _ = _; rw [HT1.out]; show PR.bind (PR.bind (wantW S p1) _) _ = _; rw [HWQ.out]; rfl, ((HD7.out.set 3 _).set 4 _).set 5 _, goes_wt _ _ _ _ stays_set _ _ (goes_wt _ _ _ _ stays_set _ _ (goes_wt _ _ _ _ stays_set _ _ HV7.out))⟩
    | false =>
     obtain ⟨be, hbe⟩ : ∃ be, decide (kindP S p1 = 7) = be := ⟨_, rfl⟩
     obtain ⟨p2, hp2⟩ : ∃ p2, (if kindP S p1 = 7 then p1 + 1 else p1) = p2 := ⟨_, rfl⟩
     have HT2 := Lib.hid (takeP_of S 7 p1)
     have CT := Lib.hid (ttake_any HC.out HD6.out.at_ 7 (by omega))
     rw [hbe, hp2] at CT HT2
     clear hbe hp2
     go_wp2_with fail
     refine CT.out.mono ?_
     rintro e7 w7 ⟨rfl, hA7, hg7⟩
     have HD7 := Lib.hid (HD6.out.call hA7 hg7)
     clear hA7 hg7 CT
     have k6 := HD7.out.cell (i := 6) rfl
     have fk6 := HD7.out.free 6
     have dl := HD7.out.dlt
     go_wp2_with fail
     go_meet
     exact ⟨wtZ, none, 0, 0, be, p2, by show routeP S a = _; rw [routeP_eq, HA1.out, HW.out]; show PR.bind (takeP S 13 (a1 + 1)) _ = _; rw [HT1.out]; show PR.bind (PR.bind (takeP S 7 p1) _) _ = _; rw [HT2.out]; rfl, HD7.out.set 6 _, leaf_wt (P := fun b => D < b) (wd := wtZ) rfl⟩
   case rest =>
    obtain ⟨wt, wq, wn, wc', els, p2, HL2, HD7, HV7⟩ := hcut
    clear k2 fk2 dl
    have CW := Lib.hid (twant_any HC.out HD7.out.at_ 21 (by omega))
    go_wp2_with fail
    cases hw : wantP S 21 p2 with
    | bad p k =>
     have HWB := Lib.hid hw
     rw [hw] at CW
     clear hw
     refine CW.out.mono ?_
     rintro e9 w9 ⟨rfl, h1, h2⟩
     have HE : Hid (routeP S a = .bad p k) := by show routeP S a = _; rw [HL2.out]; unfold routeL; rw [HWB.out]; rfl
     refine ⟨rfl, ?_⟩
     rw [← HPP.out, HE.out]
     exact ⟨rfl, h1, g_trans HD7.out.gr h2⟩
    | ok uu p9 =>
     have HWK9 := Lib.hid hw
     rw [hw] at CW
     clear hw
     refine CW.out.mono ?_
     rintro e9 w9 ⟨v, rfl, hv, hA9, hg9⟩
     have HD9 := Lib.hid (HD7.out.call hA9 hg9)
     have HV9 : Hid (RWt (fun b => D < b) w9 [.int .i64 wt.op, .int .i64 wt.num, .slice wq wn wc'] wt) := goes_wt _ _ _ _ (HD7.out.stays hg9) _ _ HV7.out
     clear hv hA9 hg9 CW
     have CN := Lib.hid (tname_any HC.out HD9.out.at_)
     go_wp2_with fail
     cases hn : nameP S p9 with
     | bad p k =>
      have HN := Lib.hid hn
      rw [hn] at CN
      clear hn
      refine CN.out.mono ?_
      rintro e10 w10 ⟨rfl, h1, h2⟩
      have HE : Hid (routeP S a = .bad p k) := by show routeP S a = _; rw [HL2.out]; unfold routeL; rw [HWK9.out]; show PR.bind (nameP S p9) _ = _; rw [HN.out]; rfl
      refine ⟨rfl, ?_⟩
      rw [← HPP.out, HE.out]
      exact ⟨rfl, h1, g_trans HD9.out.gr h2⟩
     | ok tu p10 =>
      have HN := Lib.hid hn
      rw [hn] at CN
      clear hn
      refine CN.out.mono ?_
      rintro e10 w10 ⟨v, rfl, hv, hA10, hg10⟩
      have hv : v = .agg #[.string tu.name, .int .i64 tu.pos] := hv
      subst hv
      have HD10 := Lib.hid (HD9.out.call hA10 hg10)
      have HV10 : Hid (RWt (fun b => D < b) w10 [.int .i64 wt.op, .int .i64 wt.num, .slice wq wn wc'] wt) := goes_wt _ _ _ _ (HD9.out.stays hg10) _ _ HV9.out
      clear hA10 hg10 CN
      have k7 := HD10.out.cell (i := 7) rfl
      have k8 := HD10.out.cell (i := 8) rfl
      have fk7 := HD10.out.free 7
      have fk8 := HD10.out.free 8
      have dl := HD10.out.dlt
      go_upto_region 11 with fail
      refine wp_world (fun W11 => Dec W0 W W11 B X D T 84 S tv nv #[.string ⟨#[]⟩, .int .i64 0, .bool false, .int .i64 0, .int .i64 0, .slice none 0 0, .bool false, .string ⟨#[]⟩, .int .i64 0, .int .i64 0] #[.string (ba t.text), .int .i64 (t.pos : Nat), .bool bw, .int .i64 wt.op, .int .i64 wt.num, .slice wq wn wc', .bool els, .string tu.name, .int .i64 tu.pos, .int .i64 (posP S a : Nat)] p10 0 ∧ RWt (fun b => D < b) W11 [.int .i64 wt.op, .int .i64 wt.num, .slice wq wn wc'] wt) ⟨(HD10.out.set 7 _).set 8 _, goes_wt _ _ _ _ stays_set _ _ (goes_wt _ _ _ _ stays_set _ _ HV10.out)⟩ (fun W11 hW11 => ?_)
      have HD11 := Lib.hid hW11.1
      have HV11 := Lib.hid hW11.2
      clear hW11
      clear k7 fk7 k8 fk8 dl
      have CW := Lib.hid (twant_any HC.out HD11.out.at_ 23 (by omega))
      go_wp2_with fail
      cases hw : wantP S 23 p10 with
      | bad p k =>
       have HWB := Lib.hid hw
       rw [hw] at CW
       clear hw
       refine CW.out.mono ?_
       rintro e12 w12 ⟨rfl, h1, h2⟩
       have HE : Hid (routeP S a = .bad p k) := by show routeP S a = _; rw [HL2.out]; unfold routeL; rw [HWK9.out]; show PR.bind (nameP S p9) _ = _; rw [HN.out]; show PR.bind (wantP S 23 p10) _ = _; rw [HWB.out]; rfl
       refine ⟨rfl, ?_⟩
       rw [← HPP.out, HE.out]
       exact ⟨rfl, h1, g_trans HD11.out.gr h2⟩
      | ok uu p12 =>
       have HWK12 := Lib.hid hw
       rw [hw] at CW
       clear hw
       refine CW.out.mono ?_
       rintro e12 w12 ⟨v, rfl, hv, hA12, hg12⟩
       have HD12 := Lib.hid (HD11.out.call hA12 hg12)
       have HV12 : Hid (RWt (fun b => D < b) w12 [.int .i64 wt.op, .int .i64 wt.num, .slice wq wn wc'] wt) := goes_wt _ _ _ _ (HD11.out.stays hg12) _ _ HV11.out
       clear hv hA12 hg12 CW
       have HE : Hid (routeP S a = .ok ⟨⟨ba t.text, (t.pos : Nat)⟩, bw, wt, els, tu, (posP S a : Nat)⟩ p12) := by show routeP S a = _; rw [HL2.out]; unfold routeL; rw [HWK9.out]; show PR.bind (nameP S p9) _ = _; rw [HN.out]; show PR.bind (wantP S 23 p10) _ = _; rw [HWK12.out]; show PR.ok (RouteT.mk ⟨textT S (a + 1), (posP S (a + 1) : Nat)⟩ bw wt els tu (posP S a : Nat)) p12 = _; rw [HA1.out, HTX.out, HPS.out]
       have k0 := HD12.out.cell (i := 0) rfl
       have k1 := HD12.out.cell (i := 1) rfl
       have k2 := HD12.out.cell (i := 2) rfl
       have k3 := HD12.out.cell (i := 3) rfl
       have k4 := HD12.out.cell (i := 4) rfl
       have k5 := HD12.out.cell (i := 5) rfl
       have k6 := HD12.out.cell (i := 6) rfl
       have k7 := HD12.out.cell (i := 7) rfl
       have k8 := HD12.out.cell (i := 8) rfl
       have k9 := HD12.out.cell (i := 9) rfl
       have fk0 := HD12.out.free 0
       have fk1 := HD12.out.free 1
       have fk2 := HD12.out.free 2
       have fk3 := HD12.out.free 3
       have fk4 := HD12.out.free 4
       have fk5 := HD12.out.free 5
       have fk6 := HD12.out.free 6
       have fk7 := HD12.out.free 7
       have fk8 := HD12.out.free 8
       have fk9 := HD12.out.free 9
       have dl := HD12.out.dlt
       have z0 := HD12.out.rcell (i := 0) rfl
       have z1 := HD12.out.rcell (i := 1) rfl
       have z2 := HD12.out.rcell (i := 2) rfl
       have z3 := HD12.out.rcell (i := 3) rfl
       have z4 := HD12.out.rcell (i := 4) rfl
       have z5 := HD12.out.rcell (i := 5) rfl
       have z6 := HD12.out.rcell (i := 6) rfl
       have z7 := HD12.out.rcell (i := 7) rfl
       have z8 := HD12.out.rcell (i := 8) rfl
       have z9 := HD12.out.rcell (i := 9) rfl
       have fz0 := HD12.out.rfree 0
       have fz1 := HD12.out.rfree 1
       have fz2 := HD12.out.rfree 2
       have fz3 := HD12.out.rfree 3
       have fz4 := HD12.out.rfree 4
       have fz5 := HD12.out.rfree 5
       have fz6 := HD12.out.rfree 6
       have fz7 := HD12.out.rfree 7
       have fz8 := HD12.out.rfree 8
       have fz9 := HD12.out.rfree 9
       have xl := (Array.getElem?_eq_some_iff.1 HD12.out.res).1
       go_wp2_with fail
       refine wp_post (fun W' => W'.heap[X]? = some (.cells #[.string (ba t.text), .int .i64 (t.pos : Nat), .bool bw, .int .i64 wt.op, .int .i64 wt.num, .slice wq wn wc', .bool els, .string tu.name, .int .i64 tu.pos, .int .i64 (posP S a : Nat)] 84 (0, 0)) ∧ w12.grownBy W' (some X)) (set10r HD12.out.res _ _ _ _ _ _ _ _ _ _) (fun W' hW => ?_)
       refine bodyPost_ret (res_route hW.1 rfl _ rfl) rfl ?_
       rw [← HPP.out, HE.out]
       obtain ⟨hA13, hg13⟩ := HD12.out.fin hW.2
       have hxd := HD12.out.xd
       have hwx := HD12.out.wx
       have hkk : ∀ b, D < b → b < w12.heap.size → W'.heap[b]? = w12.heap[b]? ∧ W.heap.size ≤ b := fun b hb hl => ⟨hW.2.block b hl (fun e => by injection e with e; omega), by omega⟩
       obtain ⟨kw, hkw⟩ := HV12.out
       exact ⟨_, rfl, ⟨kw, [.string (ba t.text), .int .i64 (t.pos : Nat), .bool bw, .int .i64 wt.op, .int .i64 wt.num, .slice wq wn wc', .bool els, .string tu.name, .int .i64 tu.pos, .int .i64 (posP S a : Nat)], rfl, _, _, _, rfl, hkw.kept hkk⟩, hA13, hg13⟩
 ·have HW : Hid (wantP S 3 a1 = .bad (posP S a1) 70) := by show _ = _; unfold wantP; rw [if_neg he]
  rw [HW.out] at CW
  have HE : Hid (routeP S a = .bad (posP S a1) 70) := by show routeP S a = _; rw [routeP_eq, HA1.out, HW.out]; rfl
  clear he
  refine wp_region_held_drew (S := fun W' => W'.cell? ⟨B, 0, none⟩ = some tv) (by kernel_rfl) c0 (fun hHeld => ?_)
  refine takeQ_ (i := 0) (v := ?_) rfl (by kernel_rfl) (fun _ _ _ h => h) (by rfl) ?_ (by assumption) ?_
  rotate_left
  focus (intro w' hSw; (try dsimp only at hSw); go_simp; try with_reducible rfl)
  (try simp only [Act.put, puts_])
  refine takeQ_ (i := 1) (v := ?_) rfl (by kernel_rfl) (fun _ _ _ h => h) (by rfl) ?_ (by assumption) ?_
  rotate_left
  focus (intro w' hSw; (try dsimp only at hSw); go_simp; try with_reducible rfl)
  (try simp only [Act.put, puts_])
  refine takeQ_ (i := 2) (v := ?_) rfl (by kernel_rfl) (fun _ _ _ h => h) (by rfl) ?_ (by assumption) ?_
  rotate_left
  focus (intro w' hSw; (try dsimp only at hSw); go_simp; try with_reducible rfl)
  (try simp only [Act.put, puts_])
  refine takeQ_ (i := 3) (v := ?_) rfl (by kernel_rfl) (fun _ _ _ h => h) (by rfl) ?_ (by assumption) ?_
  rotate_left
  focus (intro w' hSw; (try dsimp only at hSw); go_simp; try with_reducible rfl)
  (try simp only [Act.put, puts_])
  refine takeQ_ (i := 4) (v := ?_) rfl (by kernel_rfl) (fun _ _ _ h => h) (by rfl) ?_ (by assumption) ?_
  rotate_left
  focus (intro w' hSw; (try dsimp only at hSw); go_simp; try with_reducible rfl)
  (try simp only [Act.put, puts_])
  refine takeQ_ (i := 5) (v := ?_) rfl (by kernel_rfl) (fun _ _ _ h => h) (by rfl) ?_ (by assumption) ?_
  rotate_left
  focus (intro w' hSw; (try dsimp only at hSw); go_simp; try with_reducible rfl)
  (try simp only [Act.put, puts_])
  refine takeQ_ (i := 6) (v := ?_) rfl (by kernel_rfl) (fun _ _ _ h => h) (by rfl) ?_ (by assumption) ?_
  rotate_left
  focus (intro w' hSw; (try dsimp only at hSw); go_simp; try with_reducible rfl)
  (try simp only [Act.put, puts_])
  refine takeQ_ (i := 7) (v := ?_) rfl (by kernel_rfl) (fun _ _ _ h => h) (by rfl) ?_ (by assumption) ?_
  rotate_left
  focus (intro w' hSw; (try dsimp only at hSw); go_simp; try with_reducible rfl)
  (try simp only [Act.put, puts_])
  refine takeQ_ (i := 8) (v := ?_) rfl (by kernel_rfl) (fun _ _ _ h => h) (by rfl) ?_ (by assumption) ?_
  rotate_left
  focus (intro w' hSw; (try dsimp only at hSw); go_simp; try with_reducible rfl)
  (try simp only [Act.put, puts_])
  refine takeQ_ (i := 9) (v := ?_) rfl (by kernel_rfl) (fun _ _ _ h => h) (by rfl) ?_ (by assumption) ?_
  rotate_left
  focus (intro w' hSw; (try dsimp only at hSw); go_simp; try with_reducible rfl)
  (try simp only [Act.put, puts_])
  refine wpAnyH_ready (rs := [10, 13]) (by kernel_rfl) (by simp) ?_
  refine AllReadyH.cons (o := _) rfl (fun K hK => ?_) ?_
  ·go_simp
   refine (CW.out _ (Below.refl _ _).drew).mono ?_
   rintro e1 w1 ⟨rfl, h1, h2⟩
   refine ⟨rfl, ?_⟩
   rw [← HPP.out, HE.out]
   exact ⟨rfl, h1, g_trans HD2.out.gr (g_trans (g_of (Below.refl _ _).drew) h2)⟩
  refine AllReadyH.cons (o := _) rfl (fun K hK => ?_) AllReadyH.nil
  go_simp
  refine hK.out _ _ (by rw [← c0]; exact ((Below.refl _ W2).alloc (Nat.le_refl _) _).cell (by assumption)) (fun hHeld => ?_)
  clear hK K
  (try simp only [Act.put, puts_])
  refine wpAnyH_ready (rs := [10]) (by kernel_rfl) (by simp) ?_
  refine AllReadyH.cons (o := _) rfl (fun K hK => ?_) AllReadyH.nil
  go_simp
  refine (CW.out _ ((Below.refl _ _).alloc (Nat.le_refl _) _).drew).mono ?_
  rintro e1 w1 ⟨rfl, h1, h2⟩
  refine ⟨rfl, ?_⟩
  rw [← HPP.out, HE.out]
  exact ⟨rfl, h1, g_trans HD2.out.gr (g_trans (g_of ((Below.refl _ _).alloc (Nat.le_refl _) _).drew) h2)⟩
end Go.Proofs.YtbdllefnghddcaaGreatDoor
