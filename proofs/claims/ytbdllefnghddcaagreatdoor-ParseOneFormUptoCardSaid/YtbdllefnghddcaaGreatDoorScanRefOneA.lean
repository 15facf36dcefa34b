/- THE REFERENCE's one, at a word and at a text. -/
import Derived.Test.YtbdllefnghddcaaGreatDoorPRefS
import Derived.Test.YtbdllefnghddcaaGreatDoorPScan4
namespace Go.Proofs.YtbdllefnghddcaaGreatDoor
open Go Go.RowKit

theorem resR {W : World} {B : Nat} {cs : Array Value} (h : W.heap[B]? = some (.cells cs 114 (0, 0))) (hs : cs.size = 5) (tmps : Array Value) (h4 : tmps.getD 4 undef = .pointer (some ⟨B, 0, none⟩)) :
  (results Tryz.f73 tmps).run Tryz.prog W = .ok (.tuple #[.agg cs, tmps.getD 5 undef]) W := by
 have h4' : tmps[4]?.getD undef = .pointer (some ⟨B, 0, none⟩) := by simpa using h4
 have hl := run_loadVar_row (P := Tryz.prog) W B 114 114 cs (0, 0) _ h Tryz.underlying114 rfl (by rw [hs]; kernel_rfl)
 simp [results, Tryz.results73, h4', asAddr, hl]
theorem NW.start0 (w : World) (p : Nat) : NW w ((w.alloc (.cells #[.int .i64 0, .int .i64 0, .int .i64 0, .int .u64 0, .string ⟨#[]⟩] 114)).alloc (.cells #[.int .i64 0, .int .i64 (p : Nat), .int .i64 0, .int .u64 0, .string ⟨#[]⟩] 114)) 0 p 0 0 ⟨#[]⟩ :=
 ⟨((Below.refl _ _).alloc (Nat.le_refl _) _).alloc (by simp) _, by
  have h1 := heap_alloc_new w (.cells #[.int .i64 0, .int .i64 0, .int .i64 0, .int .u64 0, .string ⟨#[]⟩] 114)
  exact (Below.heap_alloc _ _ _ (by rw [World.size_alloc]; omega)).trans h1, by
  have h1 := heap_alloc_new (w.alloc (.cells #[.int .i64 0, .int .i64 0, .int .i64 0, .int .u64 0, .string ⟨#[]⟩] 114)) (.cells #[.int .i64 0, .int .i64 (p : Nat), .int .i64 0, .int .u64 0, .string ⟨#[]⟩] 114)
  rw [World.size_alloc] at h1
  exact h1⟩
theorem cls_dl {c : UInt8} (h : clsS c.toNat = 2) : letB c = false ∧ digB c = true := by unfold letB digB; rw [h]; exact ⟨rfl, rfl⟩
theorem cls_other {c : UInt8} (h1 : ¬ clsS c.toNat = 1) (h2 : ¬ clsS c.toNat = 2) : letB c = false ∧ digB c = false := ⟨beq_eq_false_iff_ne.2 h1, beq_eq_false_iff_ne.2 h2⟩
theorem alnB_or (c : UInt8) : alnB c = (digB c || letB c) := rfl
theorem runS_at' {l : List UInt8} {p : UInt8 → Bool} {k : Nat} {c : UInt8} (h : l[k]? = some c) : runS p (l.drop k) = if p c then runS p (l.drop (k + 1)) + 1 else 0 := by
 rw [drop_one h]; rfl

set_option maxRecDepth 100000 in
set_option maxHeartbeats 8000000 in
theorem refOne_word (v : Value) (l : List UInt8) (p : Nat) (c : UInt8) (w : World) (hV : Bs w v l) (hl : l.length ≤ 1048577) (hp : p < l.length) (hc : l[p]? = some c) (hcl : clsS c.toNat = 1) :
  Calls Tryz.prog 73 #[v, .int .i64 (p : Nat)] w (NextPost w l p) := by
 obtain ⟨b, o, cap, rfl, hbl⟩ := hV.form (by omega)
 have hdr := drop_one hc
 obtain ⟨n, hn⟩ : ∃ n, runS alnB (l.drop p) = n := ⟨_, rfl⟩
 have hn0 : 0 < n := by rw [← hn, hdr]; exact runS_pos _ _ _ (by simp [alnB, hcl])
 have hnl : n ≤ (l.drop p).length := by rw [← hn]; exact runS_le _ _
 rw [List.length_drop] at hnl
 obtain ⟨q3, cq3, hwin, hW3, hcv⟩ := hV.piece (p := p) (n := n) (by omega)
 have HO : Hid (oneS (l.drop p) p = if kindS ((l.drop p).take n) = 0 then (if 32 < n then 63 else 0, ⟨1, p, p + n, 0, []⟩) else (0, ⟨kindS ((l.drop p).take n), p, p + n, 0, []⟩)) := by
  show _ = _
  rw [hdr, oneS_word _ _ hcl, ← hdr, hn]
 obtain ⟨K, hK⟩ : ∃ K, kindS ((l.drop p).take n) = K := ⟨_, rfl⟩
 rw [hK] at HO
 have CK : Hid (∀ w', Calls Tryz.prog 128 #[.string (ba ((l.drop p).take n))] w' fun e w2 => e = .returned (.int .i64 (K : Nat)) ∧ Below w'.heap.size w' w2) := fun w' => by
  have := refKind_any (ba ((l.drop p).take n)) w'
  rwa [ba_bytes, hK] at this
 obtain ⟨PP, hPP⟩ : ∃ PP, NextPost w l p = PP := ⟨_, rfl⟩
 rw [hPP]
 have HPP := Lib.hid hPP
 clear hPP
 obtain ⟨T, hT⟩ : ∃ T, ba ((l.drop p).take n) = T := ⟨_, rfl⟩
 rw [hT] at CK hcv
 have hck := hV.cell hc
 have hp' : (p : Int) < (l.length : Int) := by omega
 have HCL := Lib.hid (fun c w => refLetter_any c w)
 have HCD := Lib.hid (fun c w => refDigit_any c w)
 have CL : Hid (∀ w, Calls Tryz.prog 126 #[.int .u8 (c.toNat : Nat)] w fun e w' => e = .returned (.bool true) ∧ w = w') := fun w => by
  have h1 := refLetter_any c w
  rw [show letB c = true by unfold letB; rw [hcl]; rfl] at h1; exact h1
 have H0 : Hid (p + n = p + runS alnB (l.drop p)) := by show _ = _; rw [hn]
 have HS := Lib.hid (fun k c h => @runS_at' l alnB k c h)
 have HB := Lib.hid hV
 have HCV := Lib.hid hcv
 clear hdr hcl hc hn hK hT hV hW3 hcv
 go_enter Tryz.func73, Tryz.ntmps73
 go_wp2_with fail
 refine k_calls (fun W => NW w W 0 p 0 0 ⟨#[]⟩) (by exact NW.start0 w p) (fun W HN => ?_)
 have HNh := Lib.hid HN
 have HV := Lib.hid (fun (j : Nat) (x : UInt8) (hj : l[j]? = some x) => (HB.out.below HN.bel).cell hj)
 clear HN hck
 refine (CL.out _).mono ?_
 rintro e w2 ⟨rfl, rfl⟩
 go_wp2
 go_loop [7] (fun i => ∃ k : Nat, p ≤ k ∧ k ≤ p + n ∧ i = .int .i64 (k : Nat) ∧ Hid (p + n = k + runS alnB (l.drop k))) (fun i => l.length - (intOf i).toNat)
 case atStart => exact ⟨p, Nat.le_refl _, by omega, rfl, H0⟩
 case round =>
  obtain ⟨k, hk1, hk2, rfl, HK⟩ := hrel
  by_cases hlt : k < p + n
  ·obtain ⟨d, hd⟩ : ∃ d, l[k]? = some d := ⟨_, List.getElem?_eq_getElem (by omega)⟩
   have hdk := HV.out k d hd
   have hkl : (k : Int) < (l.length : Int) := by omega
   have hs := HS.out k d hd
   have hal : alnB d = true := by
    have h1 := HK.out
    cases ha : alnB d
    ·rw [hs, ha, if_neg (by simp)] at h1; omega
    ·rfl
   have HN2 : Hid (p + n = (k + 1) + runS alnB (l.drop (k + 1))) := by
    show _ = _
    have h1 := HK.out
    rw [hs, if_pos hal] at h1; omega
   rw [alnB_or] at hal
   clear hd hs
   cases hld : letB d
   ·have hdd : digB d = true := by rw [hld] at hal; simpa using hal
    have C1 : Hid (∀ w, Calls Tryz.prog 126 #[.int .u8 (d.toNat : Nat)] w fun e w' => e = .returned (.bool false) ∧ w = w') := fun w => by
     have h1 := HCL.out d w; rw [hld] at h1; exact h1
    have C2 : Hid (∀ w, Calls Tryz.prog 127 #[.int .u8 (d.toNat : Nat)] w fun e w' => e = .returned (.bool true) ∧ w = w') := fun w => by
     have h1 := HCD.out d w; rw [hdd] at h1; exact h1
    clear hld hal hdd
    go_wp2_with fail
    refine (C1.out _).mono ?_
    rintro e w2 ⟨rfl, rfl⟩
    go_wp2_with fail
    refine (C2.out _).mono ?_
    rintro e w2 ⟨rfl, rfl⟩
    go_wp2
    go_round
    case rel => exact ⟨k + 1, by omega, by omega, by go_num, HN2⟩
    case measure => simp [intOf]; omega
   ·have C1 : Hid (∀ w, Calls Tryz.prog 126 #[.int .u8 (d.toNat : Nat)] w fun e w' => e = .returned (.bool true) ∧ w = w') := fun w => by
     have h1 := HCL.out d w; rw [hld] at h1; exact h1
    clear hld hal
    go_wp2_with fail
    refine (C1.out _).mono ?_
    rintro e w2 ⟨rfl, rfl⟩
    go_wp2
    go_round
    case rel => exact ⟨k + 1, by omega, by omega, by go_num, HN2⟩
    case measure => simp [intOf]; omega
  ·obtain rfl : k = p + n := by omega
   have hend : p + n = l.length ∨ ∃ d, l[p + n]? = some d ∧ letB d = false ∧ digB d = false := by
    rcases Nat.lt_or_ge (p + n) l.length with h1 | h1
    ·have hd := List.getElem?_eq_getElem h1
     have h2 := HK.out
     rw [HS.out _ _ hd] at h2
     refine .inr ⟨_, hd, ?_⟩
     cases ha : alnB (l[p + n]'h1)
     ·rw [alnB_or] at ha; simpa [Bool.or_eq_false_iff, and_comm] using ha
     ·rw [ha, if_pos rfl] at h2; omega
    ·exact .inl (by omega)
   have e1 : ((p + n : Nat) : Int) = (p : Int) + (n : Int) := by omega
   rw [e1]
   have f2 := HNh.out.frozen 2
   have ⟨k0, k1, k2, k3, k4⟩ := HNh.out.cells
   have hcv2 : ∀ u, (convert 22 9 (.slice q3 n cq3)).run Tryz.prog (W.setCell ⟨w.heap.size + 1, 2, none⟩ u) = .ok (.string T) (W.setCell ⟨w.heap.size + 1, 2, none⟩ u) := fun u => HCV.out _ (HNh.out.bel.setCell (p := ⟨w.heap.size + 1, 2, none⟩) (by simp) u)
   rcases hend with hend | ⟨d, hd, hd1, hd2⟩
   ·have hkl : ¬ ((p : Int) + (n : Int)) < (l.length : Int) := by omega
    clear hend
    go_wp2_with fail
    refine k_calls (fun W => NW w W 0 p (p + n) 0 ⟨#[]⟩) (by exact HNh.out.set2 _ (by go_num)) (fun W2 HN2 => ?_)
    refine (CK.out _).mono ?_
    rintro e W3 ⟨rfl, hb3⟩
    have HN3 := HN2.below hb3
    clear f2 hcv2 HN2 hb3 HV k0 k1 k2 k3 k4
    have ⟨k0, k1, k2, k3, k4⟩ := HN3.cells
    have ⟨r0, r1, r2, r3, r4⟩ := HN3.cellR
    have f0 := HN3.frozen 0
    have f0r := HN3.frozenR
    have HN3h := Lib.hid HN3
    clear HN3
    by_cases h0 : K = 0
    ·subst h0
     by_cases h32 : 32 < n
     ·have HE : Hid ((oneS (l.drop p) p).1 = 63) := by show _ = _; rw [HO.out, if_pos rfl, if_pos h32]
      have h32' : (32 : Int) < (n : Int) := by omega
      go_wp2
      refine bodyPost_ret (resR (next_done ((HN3h.out.set0 0 rfl).set0 1 rfl) _ _ _ _ _).1 rfl _ rfl) rfl ?_
      rw [← HPP.out]
      exact next_err (t := ⟨1, p, p + n, 0, []⟩) HE.out (by decide) (next_done ((HN3h.out.set0 0 rfl).set0 1 rfl) _ _ _ _ _).2
     ·have HE : Hid (oneS (l.drop p) p = (0, ⟨1, p, p + n, 0, []⟩)) := by show _ = _; rw [HO.out, if_pos rfl, if_neg h32]
      have h32' : ¬ (32 : Int) < (n : Int) := by omega
      go_wp2
      refine bodyPost_ret (resR (next_done ((HN3h.out.set0 0 rfl).set0 1 rfl) _ _ _ _ _).1 rfl _ rfl) rfl ?_
      rw [← HPP.out]
      exact next_ok (t := ⟨1, p, p + n, 0, []⟩) HE.out (next_done ((HN3h.out.set0 0 rfl).set0 1 rfl) _ _ _ _ _).2
    ·have HE : Hid (oneS (l.drop p) p = (0, ⟨K, p, p + n, 0, []⟩)) := by show _ = _; rw [HO.out, if_neg h0]
     have h0' : ((K : Int) == 0) = false := beq_eq_false_iff_ne.2 (by omega)
     go_wp2
     refine bodyPost_ret (resR (next_done (HN3h.out.set0 K rfl) _ _ _ _ _).1 rfl _ rfl) rfl ?_
     rw [← HPP.out]
     exact next_ok (t := ⟨K, p, p + n, 0, []⟩) HE.out (next_done (HN3h.out.set0 K rfl) _ _ _ _ _).2
   ·have hkl : ((p : Int) + (n : Int)) < (l.length : Int) := by have := (List.getElem?_eq_some_iff.1 hd).1; omega
    have hdk := HV.out _ d hd
    have C1 : Hid (∀ w, Calls Tryz.prog 126 #[.int .u8 (d.toNat : Nat)] w fun e w' => e = .returned (.bool false) ∧ w = w') := fun w => by
     have h1 := HCL.out d w; rw [hd1] at h1; exact h1
    have C2 : Hid (∀ w, Calls Tryz.prog 127 #[.int .u8 (d.toNat : Nat)] w fun e w' => e = .returned (.bool false) ∧ w = w') := fun w => by
     have h1 := HCD.out d w; rw [hd2] at h1; exact h1
    have hz1 : (0 : Int) ≤ (p : Int) + (n : Int) := by omega
    have hz3 : ((p : Int) + (n : Int)).toNat = p + n := by omega
    clear hd hd1 hd2
    go_wp2_with fail
    refine (C1.out _).mono ?_
    rintro e w2 ⟨rfl, rfl⟩
    go_wp2_with fail
    refine (C2.out _).mono ?_
    rintro e w2 ⟨rfl, rfl⟩
    go_wp2_with fail
    refine k_calls (fun W => NW w W 0 p (p + n) 0 ⟨#[]⟩) (by exact HNh.out.set2 _ (by go_num)) (fun W2 HN2 => ?_)
    refine (CK.out _).mono ?_
    rintro e W3 ⟨rfl, hb3⟩
    have HN3 := HN2.below hb3
    clear f2 hcv2 HN2 hb3 HV k0 k1 k2 k3 k4
    have ⟨k0, k1, k2, k3, k4⟩ := HN3.cells
    have ⟨r0, r1, r2, r3, r4⟩ := HN3.cellR
    have f0 := HN3.frozen 0
    have f0r := HN3.frozenR
    have HN3h := Lib.hid HN3
    clear HN3
    by_cases h0 : K = 0
    ·subst h0
     by_cases h32 : 32 < n
     ·have HE : Hid ((oneS (l.drop p) p).1 = 63) := by show _ = _; rw [HO.out, if_pos rfl, if_pos h32]
      have h32' : (32 : Int) < (n : Int) := by omega
      go_wp2
      refine bodyPost_ret (resR (next_done ((HN3h.out.set0 0 rfl).set0 1 rfl) _ _ _ _ _).1 rfl _ rfl) rfl ?_
      rw [← HPP.out]
      exact next_err (t := ⟨1, p, p + n, 0, []⟩) HE.out (by decide) (next_done ((HN3h.out.set0 0 rfl).set0 1 rfl) _ _ _ _ _).2
     ·have HE : Hid (oneS (l.drop p) p = (0, ⟨1, p, p + n, 0, []⟩)) := by show _ = _; rw [HO.out, if_pos rfl, if_neg h32]
      have h32' : ¬ (32 : Int) < (n : Int) := by omega
      go_wp2
      refine bodyPost_ret (resR (next_done ((HN3h.out.set0 0 rfl).set0 1 rfl) _ _ _ _ _).1 rfl _ rfl) rfl ?_
      rw [← HPP.out]
      exact next_ok (t := ⟨1, p, p + n, 0, []⟩) HE.out (next_done ((HN3h.out.set0 0 rfl).set0 1 rfl) _ _ _ _ _).2
    ·have HE : Hid (oneS (l.drop p) p = (0, ⟨K, p, p + n, 0, []⟩)) := by show _ = _; rw [HO.out, if_neg h0]
     have h0' : ((K : Int) == 0) = false := beq_eq_false_iff_ne.2 (by omega)
     go_wp2
     refine bodyPost_ret (resR (next_done (HN3h.out.set0 K rfl) _ _ _ _ _).1 rfl _ rfl) rfl ?_
     rw [← HPP.out]
     exact next_ok (t := ⟨K, p, p + n, 0, []⟩) HE.out (next_done (HN3h.out.set0 K rfl) _ _ _ _ _).2
end Go.Proofs.YtbdllefnghddcaaGreatDoor
