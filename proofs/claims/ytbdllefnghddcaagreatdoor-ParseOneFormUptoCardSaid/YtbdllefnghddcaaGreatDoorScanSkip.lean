/- THE PROGRAM's skip: over blanks and comments. -/
import Derived.Test.YtbdllefnghddcaaGreatDoorPScan3
namespace Go.Proofs.YtbdllefnghddcaaGreatDoor
open Go Go.RowKit

def scnAt (w : World) (g : Nat) : Nat := match w.cell? ⟨g, 1, none⟩ with
 | some (.int _ n) => n.toNat
 | _ => 0
theorem scnAt_of {w : World} {g p : Nat} {v : Value} (h : Scn w g v p) : scnAt w g = p := by unfold scnAt; rw [h.cell1]; simp

def SkAt (l : List UInt8) (p0 p1 : Nat) : Prop := p0 ≤ p1 ∧ p1 ≤ l.length ∧ ∀ r, scanAt (l.drop p0) p0 r = scanAt (l.drop p1) p1 r
theorem skAt_step {l : List UInt8} {p0 p1 n : Nat} (h : SkAt l p0 p1) (hs : skipN (l.drop p1) = some n) (hn : 0 < n) : SkAt l p0 (p1 + n) := by
 have hle := skipN_le hs
 rw [List.length_drop] at hle
 refine ⟨by have := h.1; omega, by have := h.2.1; omega, fun r => ?_⟩
 rw [h.2.2 r, scanAt_skip p1 r hs hn, List.drop_drop]
theorem pre_cmt (c : UInt8) (r : List UInt8) : ([47, 42] : List UInt8).isPrefixOf (c :: r) = decide (c = 47 ∧ r.head? = some 42) := by
 rw [Bool.eq_iff_iff, decide_eq_true_eq]
 cases r with
 | nil => simp [List.isPrefixOf]
 | cons d t => simp [List.isPrefixOf]; exact ⟨fun h => ⟨h.1.symm, h.2.symm⟩, fun h => ⟨h.1.symm, h.2.symm⟩⟩

theorem skip_yes {w w1 : World} {g : Nat} {v : Value} {l : List UInt8} {p0 p1 : Nat} (h : SkAt l p0 p1) (hS : Scn w1 g v p1) (hg : w.grownBy w1 (some g)) (hs : p1 < l.length → skipN (l.drop p1) = some 0) : SkipPost w g v l p0 (.returned (.bool true)) w1 :=
 ⟨p1, true, rfl, h.1, h.2.1, hS, hg, h.2.2, fun _ => hs, fun h => by cases h⟩
theorem skip_no {w w1 : World} {g : Nat} {v : Value} {l : List UInt8} {p0 p1 : Nat} (h : SkAt l p0 p1) (hS : Scn w1 g v p1) (hg : w.grownBy w1 (some g)) (hs : skipN (l.drop p1) = none) (hlt : p1 < l.length) : SkipPost w g v l p0 (.returned (.bool false)) w1 :=
 ⟨p1, false, rfl, h.1, h.2.1, hS, hg, h.2.2, (fun h => by cases h), fun _ => ⟨hlt, hs⟩⟩

set_option maxRecDepth 100000 in
set_option maxHeartbeats 8000000 in
theorem skip_any (g : Nat) (v : Value) (l : List UInt8) (p0 : Nat) (w : World) (hE : Env w) (hV : Bs w v l) (hS : Scn w g v p0) (hl : l.length ≤ 1048577) (hp : p0 ≤ l.length) :
  Calls Tryz.prog 68 #[.pointer (some ⟨g, 0, none⟩)] w (SkipPost w g v l p0) := by
 have A0 : Hid (SkAt l p0 p0) := ⟨Nat.le_refl _, hp, fun _ => rfl⟩
 have HE := Lib.hid hE
 have HV := Lib.hid hV
 have HS := Lib.hid hS
 obtain ⟨pv, cap, rfl, hcap, hm, -⟩ := id hV
 clear hE hV hS
 obtain ⟨PP, hPP⟩ : ∃ PP, SkipPost w g (.slice pv l.length cap) l p0 = PP := ⟨_, rfl⟩
 rw [hPP]
 have HPP := Lib.hid hPP
 clear hPP
 have kc1 := conv_lit1
 have kc2 := conv_lit2
 go_enter Tryz.func68, Tryz.ntmps68
 go_wp2
 go_loopw [3, 4, 5] (fun _ _ _ wr => ∃ (p1 : Nat), Hid (SkAt l p0 p1) ∧ Hid (Scn wr g (.slice pv l.length cap) p1) ∧ Hid (w.grownBy wr (some g))) (fun _ _ _ wr => l.length - scnAt wr g)
 case atStart => exact ⟨p0, A0, HS, g_refl _ _⟩
 case round =>
  obtain ⟨p1, HA, HS1, HG⟩ := hrel
  have hp1 := HA.out.2.1
  have hc0 := HS1.out.cell0
  have hc1 := HS1.out.cell1
  have HE1 : Hid (Env wr) := HE.out.beside HV.out HS.out HG.out
  have HV1 : Hid (Bs wr (.slice pv l.length cap) l) := HV.out.beside HS.out HG.out
  have HM := Lib.hid (scnAt_of HS1.out)
  by_cases hlt : p1 < l.length
  ·have hlt' : (p1 : Int) < (l.length : Int) := by omega
   obtain ⟨b, o, cap', hv, hbl⟩ := HV1.out.form (by omega)
   injection hv with e1 _ e2
   subst e1; subst e2
   obtain ⟨q, cq, hcut, hR, hq⟩ := HV1.out.cut (k := p1) (by omega)
   obtain ⟨o2, rfl⟩ := hq b o rfl
   clear hq
   obtain ⟨c, hc⟩ : ∃ c, l[p1]? = some c := ⟨_, List.getElem?_eq_getElem hlt⟩
   have hdr := drop_one hc
   have HK := Lib.hid (fun n h hn => skAt_step (n := n) HA.out h hn)
   have HSk : Hid (skipN (l.drop p1) = skipN (l.drop p1)) := rfl
   obtain ⟨R, hRd⟩ : ∃ R, l.drop p1 = R := ⟨_, rfl⟩
   rw [hRd] at hcut hR hdr HK
   have HRd := Lib.hid hRd
   clear hRd HSk
   obtain ⟨r, hr⟩ : ∃ r, l.drop (p1 + 1) = r := ⟨_, rfl⟩
   rw [hr] at hdr
   clear hr hc
   have hRc : wr.cell? ⟨b, o2, none⟩ = some (.int .u8 (c.toNat : Nat)) := by have := hR.cell (i := 0) (x := c) (by rw [hdr]; rfl); simpa using this
   have hRl : 0 < R.length := by rw [hdr]; simp
   have hRl2 : R.length ≤ 1048577 := by rw [← HRd.out, List.length_drop]; omega
   have CC := Lib.hid (fun w => class_any c w)
   have HRb := Lib.hid hR
   have HD := Lib.hid hdr
   clear hR hdr
   by_cases hb : clsS c.toNat = 3
   ·have HN := Lib.hid (HK.out 1 (by rw [HD.out]; exact skipN_blank _ hb) (by omega))
    rw [hb] at CC
    have hfz := HS1.out.frozen 1
    clear hb
    go_wp2
    go_quiet (fail)
    go_wp2
    go_quiet (fail)
    go_wp2_with (go_at_call 110; refine (CC.out _).mono ?_; rintro e w2 ⟨rfl, rfl⟩)
    refine ⟨⟨p1 + 1, HN, (HS1.out.drewN _).set _ (by go_num), g_set (g_drewN HG.out _) _⟩, ?_⟩
    rw [HM.out, scnAt_of ((HS1.out.drewN _).set (p1 + 1) (by go_num))]; omega
   ·have hbi : ((clsS c.toNat : Nat) : Int) ≠ 3 := by omega
    have hbb : (((clsS c.toNat : Nat) : Int) == 3) = false := beq_eq_false_iff_ne.2 hbi
    by_cases h35 : c = 35
    ·subst h35
     obtain ⟨n, hn⟩ : ∃ n, lineS R = n := ⟨_, rfl⟩
     have hn0 : 0 < n ∧ n ≤ R.length := by
      rw [← hn]
      refine ⟨?_, lineS_le R⟩
      rw [HD.out, lineS, if_neg (by decide)]; omega
     obtain ⟨hn1, hn2⟩ := hn0
     have HN := Lib.hid (HK.out n (by rw [← hn, HD.out, skipN_line, lineS, if_neg (by decide)]) hn1)
     have CI := Lib.hid (fun w h => indexByte_any (.slice (some ⟨b, o2, none⟩) R.length cq) R w h hRl)
     have hix := lineS_idx R
     rw [hn] at hix
     have hfz := HS1.out.frozen 1
     have HRn := Lib.hid hn
     clear hn hb hbi
     by_cases hneg : Lib.indexByte R 10 < 0
     ·have hnl : n = R.length := hix.1 hneg
      have HNL := Lib.hid hnl
      generalize Lib.indexByte R 10 = ix at *
      clear hnl hix
      have HQ : Hid (∀ u : Value, u = .int .i64 ((p1 : Int) + (R.length : Int)) → u = .int .i64 ((p1 + n : Nat) : Int)) := fun u h => by rw [h, HNL.out]; rfl
      go_wp2
      go_quiet (fail)
      go_wp2
      go_quiet (fail)
      go_wp2_with (first
       | (go_at_call 110; refine (CC.out _).mono ?_; rintro e w2 ⟨rfl, rfl⟩)
       | (go_at_call 111; refine (CI.out _ (HRb.out.drewN _)).mono ?_; rintro e w2 ⟨rfl, rfl⟩))
      refine ⟨⟨p1 + n, HN, (HS1.out.drewN _).set _ (HQ.out _ rfl), g_set (g_drewN HG.out _) _⟩, ?_⟩
      rw [HM.out, scnAt_of ((HS1.out.drewN _).set (p1 + n) (HQ.out _ rfl))]; omega
     ·have hix2 := hix.2 (by omega)
      rw [hix2] at CI
      clear hix hix2 hneg
      go_wp2
      go_quiet (fail)
      go_wp2
      go_quiet (fail)
      go_wp2_with (first
       | (go_at_call 110; refine (CC.out _).mono ?_; rintro e w2 ⟨rfl, rfl⟩)
       | (go_at_call 111; refine (CI.out _ (HRb.out.drewN _)).mono ?_; rintro e w2 ⟨rfl, rfl⟩))
      refine ⟨⟨p1 + n, HN, (HS1.out.drewN _).set _ (by go_num), g_set (g_drewN HG.out _) _⟩, ?_⟩
      rw [HM.out, scnAt_of ((HS1.out.drewN _).set (p1 + n) (by go_num))]; omega
    ·have e35 : ((c.toNat : Int) == 35) = false := beq_eq_false_iff_ne.2 (fun h => h35 (UInt8.toNat_inj.1 (show c.toNat = 35 by omega)))
     have CH : Hid (∀ w v2, Bs w (.slice (some ⟨b, o2, none⟩) R.length cq) R → Bs w v2 [47, 42] → Calls Tryz.prog 112 #[.slice (some ⟨b, o2, none⟩) R.length cq, v2] w fun e w' => e = .returned (.bool (([47, 42] : List UInt8).isPrefixOf R)) ∧ w = w') := fun w v2 h1 h2 => hasPrefix_any _ v2 R [47, 42] w h1 h2
     by_cases hcm : c = 47 ∧ r.head? = some 42
     ·obtain ⟨rfl, h42⟩ := hcm
      obtain ⟨R2, rfl⟩ : ∃ R2, r = 42 :: R2 := by
       cases r with
       | nil => simp at h42
       | cons d t => exact ⟨t, by simp at h42; rw [h42]⟩
      have hpre : ([47, 42] : List UInt8).isPrefixOf R = true := by rw [HD.out, pre_cmt]; simp
      rw [hpre] at CH
      obtain ⟨q2, cq2, hcut2, hR2, hq2⟩ := HRb.out.cut (k := 2) (by rw [HD.out]; simp)
      obtain ⟨o3, rfl⟩ := hq2 b o2 rfl
      have hRd2 : R.drop 2 = R2 := by rw [HD.out]; rfl
      rw [hRd2] at hcut2 hR2
      have hcut2 : ∀ w' : World, Sem.run Tryz.prog (Instr.slice 22 (.slice (some ⟨b, o2, none⟩) R.length cq) (some (Value.int IntKind.i64 2)) none none) w' = .ok (.slice (some ⟨b, o3, none⟩) R2.length cq2) w' := hcut2
      have hRl3 : R2.length ≤ 1048577 := by rw [← hRd2, List.length_drop]; omega
      have HR2 := Lib.hid hR2
      have CX : Hid (∀ w v2, Env w → Bs w (.slice (some ⟨b, o3, none⟩) R2.length cq2) R2 → Bs w v2 [42, 47] → Calls Tryz.prog 113 #[.slice (some ⟨b, o3, none⟩) R2.length cq2, v2] w fun e w' => e = .returned (.int .i64 (Lib.index R2 [42, 47])) ∧ Below w.heap.size w w') := fun w v2 h0 h1 h2 => index_any b o3 R2.length cq2 v2 R2 [42, 47] w h0 h1 h2 (by simp) hRl3 (by simp)
      have hix := cmtS_idx R2
      have hge := Lib.index_ge R2 [42, 47]
      have HSK : Hid (skipN R = (cmtS R2).map (· + 2)) := by show _ = _; rw [HD.out]; exact skipN_cmt R2
      clear hR2 hRd2 h42 hpre hb hbi h35 hq2
      generalize hIX : Lib.index R2 [42, 47] = ix at *
      have HB3 : Hid (∀ q o1 o2, Below wr.heap.size wr (((wr.drewN q).alloc o1).alloc o2)) := fun q o1 o2 => ((below_drewN (Below.refl _ wr) q).alloc (Nat.le_refl _) _).alloc (by simp) _
      clear hIX
      by_cases hneg : ix < 0
      ·have HN : Hid (skipN (l.drop p1) = none) := by show _ = _; rw [HRd.out, HSK.out, hix.1 hneg]; rfl
       have HY := Lib.hid (fun w1 h1 h2 => skip_no (w := w) (w1 := w1) (g := g) (v := .slice (some ⟨b, o, none⟩) l.length cap) HA.out h1 h2 HN.out hlt)
       clear hix
       go_wp2
       go_quiet (fail)
       go_wp2
       go_quiet (fail)
       go_wp2_with (first
        | (go_at_call 110; refine (CC.out _).mono ?_; rintro e w2 ⟨rfl, rfl⟩)
        | (go_at_call 112; refine (CH.out _ _ (by exact (HRb.out.drewN _).below ((Below.refl _ _).alloc (Nat.le_refl _) _)) (by exact Bs.lit _ [47, 42] (by simp) _)).mono ?_; rintro e w2 ⟨rfl, rfl⟩)
        | (go_at_call 113; refine (CX.out _ _ (by exact HE1.out.below (HB3.out _ _ _)) (by exact HR2.out.below (HB3.out _ _ _)) (by refine Bs.lit_at [42, 47] (by simp) ?_; simp)).mono ?_; rintro e w3 ⟨rfl, hb3⟩))
       have hbb := (HB3.out _ _ _).trans (hb3.mono (by simp; omega))
       rw [← HPP.out]
       exact HY.out _ (HS1.out.below hbb) (g_below HG.out hbb)
      ·obtain ⟨i, rfl⟩ : ∃ i : Nat, ix = (i : Nat) := ⟨ix.toNat, by omega⟩
       have hsome := hix.2 i rfl
       have hil := cmtS_le _ _ hsome
       have HN := Lib.hid (HK.out (i + 4) (by rw [HSK.out, hsome]; rfl) (by omega))
       have hle : p1 + (i + 4) ≤ l.length := HN.out.2.1
       clear hix hsome hneg
       go_wp2
       go_quiet (fail)
       go_wp2
       go_quiet (fail)
       go_wp2_with (first
        | (go_at_call 110; refine (CC.out _).mono ?_; rintro e w2 ⟨rfl, rfl⟩)
        | (go_at_call 112; refine (CH.out _ _ (by exact (HRb.out.drewN _).below ((Below.refl _ _).alloc (Nat.le_refl _) _)) (by exact Bs.lit _ [47, 42] (by simp) _)).mono ?_; rintro e w2 ⟨rfl, rfl⟩)
        | (go_at_call 113; refine (CX.out _ _ (by exact HE1.out.below (HB3.out _ _ _)) (by exact HR2.out.below (HB3.out _ _ _)) (by refine Bs.lit_at [42, 47] (by simp) ?_; simp)).mono ?_; rintro e w3 ⟨rfl, hb3⟩; have hbb := (HB3.out _ _ _).trans (hb3.mono (by simp; omega)); have hS3 := HS1.out.below hbb; have hc13 := hS3.cell1; have hfz3 := hS3.frozen 1; have HS3 := Lib.hid hS3; have HG3 := Lib.hid (g_below HG.out hbb); clear hS3 hb3 hbb))
       refine ⟨⟨p1 + (i + 4), HN, HS3.out.set _ (by go_num), g_set HG3.out _⟩, ?_⟩
       rw [HM.out, scnAt_of (HS3.out.set (p1 + (i + 4)) (by go_num))]; omega
     ·have HN : Hid (skipN (l.drop p1) = some 0) := by show _ = _; rw [HRd.out, HD.out]; exact skipN_zero hb h35 hcm
      have hpre : ([47, 42] : List UInt8).isPrefixOf R = false := by rw [HD.out, pre_cmt, decide_eq_false hcm]
      rw [hpre] at CH
      have HY := Lib.hid (fun w1 h1 h2 => skip_yes (w := w) (w1 := w1) (g := g) (v := .slice (some ⟨b, o, none⟩) l.length cap) HA.out h1 h2 (fun _ => HN.out))
      clear hpre hcm hb hbi h35
      go_wp2
      go_quiet (fail)
      go_wp2
      go_quiet (fail)
      go_wp2_with (first
       | (go_at_call 110; refine (CC.out _).mono ?_; rintro e w2 ⟨rfl, rfl⟩)
       | (go_at_call 112; refine (CH.out _ _ (by exact (HRb.out.drewN _).below ((Below.refl _ _).alloc (Nat.le_refl _) _)) (by exact Bs.lit _ [47, 42] (by simp) _)).mono ?_; rintro e w2 ⟨rfl, rfl⟩))
      rw [← HPP.out]
      exact HY.out _ ((HS1.out.drewN _).below ((Below.refl _ _).alloc (Nat.le_refl _) _)) (g_below (g_drewN HG.out _) ((Below.refl _ _).alloc (Nat.le_refl _) _))
  ·have hge : ¬ (p1 : Int) < (l.length : Int) := by omega
   have HN := Lib.hid (fun w1 h1 h2 => skip_yes (w := w) (w1 := w1) (g := g) (v := .slice pv l.length cap) HA.out h1 h2 (fun h => absurd h hlt))
   go_wp2
   go_quiet (fail)
   go_wp2
   rw [← HPP.out]
   exact HN.out _ (HS1.out.drewN _) (g_drewN HG.out _)
end Go.Proofs.YtbdllefnghddcaaGreatDoor
