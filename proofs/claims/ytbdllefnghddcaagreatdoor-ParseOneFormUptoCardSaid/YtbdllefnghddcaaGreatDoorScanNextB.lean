/- THE PROGRAM's next, at a number. -/
import Derived.Test.YtbdllefnghddcaaGreatDoorPScan4
import Derived.Deep.RegionHeld3
import Derived.Deep.RegionWith
namespace Go.Proofs.YtbdllefnghddcaaGreatDoor
open Go Go.RowKit

theorem runS_all (q : UInt8 → Bool) : ∀ l : List UInt8, ∀ d ∈ l.take (runS q l), q d = true
 | [], d, h => by simp at h
 | c :: r, d, h => by
  unfold runS at h
  by_cases hc : q c = true
  ·rw [if_pos hc, List.take_succ_cons] at h
   rcases List.mem_cons.1 h with rfl | h
   ·exact hc
   ·exact runS_all q r d h
  ·rw [if_neg hc] at h; simp at h
theorem keepS {w W : World} {k p s n : Nat} {x : ByteArray} {g p0 : Nat} {v : Value} (hS : Scn w g v p0) (h : NW w W k p s n x) :
  W.cell? ⟨g, 0, none⟩ = some v ∧ W.cell? ⟨w.heap.size + 1, 1, none⟩ = some (.int .i64 (p : Nat)) ∧ W.cell? ⟨w.heap.size + 1, 2, none⟩ = some (.int .i64 (s : Nat)) :=
 ⟨(hS.below h.bel).cell0, h.cells.2.1, h.cells.2.2.1⟩

set_option maxRecDepth 100000 in
set_option maxHeartbeats 8000000 in
theorem next_num (g : Nat) (v : Value) (l : List UInt8) (p : Nat) (c : UInt8) (w : World) (hV : Bs w v l) (hS : Scn w g v p) (hl : l.length ≤ 1048577) (hp : p < l.length) (hc : l[p]? = some c) (hcl : clsS c.toNat = 2) :
  Calls Tryz.prog 69 #[.pointer (some ⟨g, 0, none⟩)] w (NextPost w l p) := by
 obtain ⟨b, o, cap, rfl, hbl⟩ := hV.form (by omega)
 obtain ⟨q, cq, hcut, hR, hq⟩ := hV.cut (k := p) (by omega)
 obtain ⟨o2, rfl⟩ := hq b o rfl
 clear hq
 have hdr := drop_one hc
 obtain ⟨n, hn⟩ : ∃ n, runS digB (l.drop p) = n := ⟨_, rfl⟩
 have hn0 : 0 < n := by rw [← hn, hdr]; exact runS_pos _ _ _ (by simp [digB, hcl])
 have hnl : n ≤ (l.drop p).length := by rw [← hn]; exact runS_le _ _
 rw [List.length_drop] at hnl
 obtain ⟨q3, cq3, hwin, hW3, hcv⟩ := hV.piece (p := p) (n := n) (by omega)
 obtain ⟨r, hrr⟩ : ∃ r, l.drop (p + 1) = r := ⟨_, rfl⟩
 rw [hrr] at hdr
 have hpl : ((l.drop p).take n).length = n := by rw [List.length_take, List.length_drop]; omega
 have HO : Hid ((numOk ((l.drop p).take n) = true → oneS (l.drop p) p = (0, ⟨2, p, p + n, numV ((l.drop p).take n), []⟩)) ∧ (numOk ((l.drop p).take n) = false → (oneS (l.drop p) p).1 = 64)) := by
  have e : oneS (l.drop p) p = (if 18446744073709551615 < numV ((l.drop p).take n) ∨ (c = 48 ∧ 1 < n) then 64 else 0, ⟨2, p, p + n, numV ((l.drop p).take n), []⟩) := by
   rw [hdr, oneS_num _ _ hcl, ← hdr, hn]
  have hh : ((l.drop p).take n).head? = some c := by
   rw [hdr]
   cases n with
   | zero => omega
   | succ m => rfl
  have hk : numOk ((l.drop p).take n) = (decide (numV ((l.drop p).take n) ≤ 18446744073709551615) && (!(c == 48) || n == 1)) := by
   unfold numOk; rw [hh, hpl]; rfl
  rw [hk, e]
  refine ⟨fun h => ?_, fun h => ?_⟩
  ·simp only [Bool.and_eq_true, decide_eq_true_eq, Bool.or_eq_true, Bool.not_eq_true', beq_eq_false_iff_ne, ne_eq, beq_iff_eq] at h
   rw [if_neg]
   rintro (h1 | ⟨h1, h2⟩)
   ·omega
   ·rcases h.2 with h3 | h3
    ·exact h3 h1
    ·omega
  ·simp only [Bool.and_eq_false_iff, decide_eq_false_iff_not, Bool.or_eq_false_iff, Bool.not_eq_false', beq_iff_eq, beq_eq_false_iff_ne, ne_eq] at h
   show (if _ then 64 else 0) = 64
   rw [if_pos]
   rcases h with h1 | ⟨h1, h2⟩
   ·exact .inl (by omega)
   ·exact .inr ⟨h1, by omega⟩
 have CR : Hid (∀ w', Below w.heap.size w w' → Calls Tryz.prog 114 #[.pointer (some ⟨g, 0, none⟩), .bool false] w' (RunPost w' n)) := fun w' hb => by
  have := run_any g _ l p false w' (hV.below hb) hl hp (hS.below hb).cell0 (hS.below hb).cell1
  rwa [show runS (runP false) (l.drop p) = n from hn] at this
 have hdg : ∀ d ∈ (l.drop p).take n, digB d = true := by rw [← hn]; exact runS_all digB _
 have CK : Hid (∀ w', Below w.heap.size w w' → Calls Tryz.prog 116 #[.slice q3 n cq3] w' (NumPost w' ((l.drop p).take n))) := fun w' hb =>
  number_any _ _ w' (hW3.below hb) (by rw [hpl]; omega) (by rw [hpl]; exact hn0) hdg
 obtain ⟨PP, hPP⟩ : ∃ PP, NextPost w l p = PP := ⟨_, rfl⟩
 rw [hPP]
 have HPP := Lib.hid hPP
 clear hPP
 obtain ⟨R, hRd⟩ : ∃ R, l.drop p = R := ⟨_, rfl⟩
 rw [hRd] at hcut hR CK HO
 have hdr : R = c :: r := by rw [← hRd]; exact hdr
 obtain ⟨T, hT⟩ : ∃ T, R.take n = T := ⟨_, rfl⟩
 rw [hT] at CK HO
 have hRc : w.cell? ⟨b, o2, none⟩ = some (.int .u8 (c.toNat : Nat)) := by have := hR.cell (i := 0) (x := c) (by rw [hdr]; rfl); simpa using this
 have hRl : 0 < R.length := by rw [hdr]; simp
 have hp' : (p : Int) < (l.length : Int) := by omega
 have CC := Lib.hid (fun w => class_any c w)
 rw [hcl] at CC
 have hc0 := hS.cell0
 have hc1 := hS.cell1
 have hg := hS.lt
 have hne1 : ¬ g = w.heap.size + 1 := by omega
 clear hdr hcl hc hn hT hpl hdg hrr
 have HS := Lib.hid hS
 have hw1 : IntKind.i64.wrap ((p : Int) + (n : Int)) = (p : Int) + (n : Int) := IntWalk.i64_in _ (by omega)
 have HRd := Lib.hid hRd
 clear hRd hR hS hV hcv hW3
 go_enter Tryz.func69, Tryz.ntmps69
 go_wp2
 go_region_held3 (fun w' => w'.cell? ⟨g, 1, none⟩ = some (.int .i64 (p : Nat))) (go_keep) (fail)
 go_wp2
 go_quiet (fail)
 go_wp2_with (go_at_call 110; refine (CC.out _).mono ?_; rintro e w2 ⟨rfl, rfl⟩)
 refine wp_world (fun W => NW w W 2 p p 0 ⟨#[]⟩) (by exact (NW.start w p _).set0 2 rfl) (fun W HN => ?_)
 have ⟨k0, k1, k2, k3, k4⟩ := HN.cells
 have f2 := HN.frozen 2
 have HNh := Lib.hid HN
 clear HN
 go_region_with (first | (go_at_call 114; refine (CR.out _ (by exact below_drewN HNh.out.bel _)).mono ?_; rintro e w2 ⟨rfl, q4, rfl⟩))
 all_goals
  go_wp2
  refine wp_world (fun W => NW w W 2 p (p + n) 0 ⟨#[]⟩) (by exact (HNh.out.drewN _).set2 _ (by go_num)) (fun W2 HN2 => ?_)
  clear k0 k1 k2 k3 k4 f2 HNh
  have ⟨k0, k1, k2, k3, k4⟩ := HN2.cells
  have g0 := (HS.out.below HN2.bel).cell0
  have f3 := HN2.frozen 3
  have HN2h := Lib.hid HN2
  clear HN2
  go_region_held3 (fun w' => w'.cell? ⟨g, 0, none⟩ = some (.slice (some ⟨b, o, none⟩) l.length cap) ∧ w'.cell? ⟨w.heap.size + 1, 1, none⟩ = some (.int .i64 (p : Nat)) ∧ w'.cell? ⟨w.heap.size + 1, 2, none⟩ = some (.int .i64 ((p : Int) + (n : Int)))) (first | exact keepS HS.out HN2h.out.drew_ | exact keepS HS.out (HN2h.out.set3 n0 rfl).drew_) (first | (go_at_call 116; refine (CK.out _ (by exact HN2h.out.bel.drew)).mono ?_; rintro e w2 ⟨n0, rfl, hn0v, rfl⟩))
  all_goals
   refine k_world (fun W => NW w W 2 p (p + n) n0 ⟨#[]⟩) (by exact (HN2h.out.set3 n0 rfl).drew_) (fun W3 HN3 => ?_)
   clear k0 k1 k2 k3 k4 f3 g0 HN2h
   have ⟨k0, k1, k2, k3, k4⟩ := HN3.cells
   have ⟨r0, r1, r2, r3, r4⟩ := HN3.cellR
   have f0r := HN3.frozenR
   have HN3h := Lib.hid HN3
   clear HN3
   have HV0 := Lib.hid hn0v
   clear hn0v
   cases hk : numOk T
   ·have HE : Hid ((oneS (l.drop p) p).1 = 64) := by show _ = _; rw [HRd.out]; exact HO.out.2 hk
    clear hk
    go_wp2
    refine bodyPost_ret (resT (next_done HN3h.out _ _ _ _ _).1 rfl _ rfl) rfl ?_
    rw [← HPP.out]
    exact next_err (t := ⟨2, p, p + n, n0, []⟩) HE.out (by decide) (next_done HN3h.out _ _ _ _ _).2
   ·have HE : Hid (oneS (l.drop p) p = (0, ⟨2, p, p + n, n0, []⟩)) := by show _ = _; rw [HRd.out, HV0.out hk]; exact HO.out.1 hk
    clear hk
    go_wp2
    refine bodyPost_ret (resT (next_done HN3h.out _ _ _ _ _).1 rfl _ rfl) rfl ?_
    rw [← HPP.out]
    exact next_ok (t := ⟨2, p, p + n, n0, []⟩) HE.out (next_done HN3h.out _ _ _ _ _).2
end Go.Proofs.YtbdllefnghddcaaGreatDoor
