/- THE PROGRAM's next, at a word. -/
import Derived.Test.YtmbejmhnoeoohaaDoorScanTok
import Derived.Deep.RegionHeld3
import Derived.Deep.RegionWith
namespace Go.Proofs.YtmbejmhnoeoohaaDoor
open Go Go.RowKit

set_option maxRecDepth 100000 in
set_option maxHeartbeats 8000000 in
theorem next_word (g : Nat) (v : Value) (l : List UInt8) (p : Nat) (c : UInt8) (w : World) (hE : Env w) (hV : Bs w v l) (hS : Scn w g v p) (hl : l.length ≤ 1048577) (hp : p < l.length) (hc : l[p]? = some c) (hcl : clsS c.toNat = 1) :
    Calls Tryd.prog 23 #[.pointer (some ⟨g, 0, none⟩)] w (NextPost w l p) := by
  obtain ⟨b, o, cap, rfl, hbl⟩ := hV.form (by omega)
  obtain ⟨q, cq, hcut, hR, hq⟩ := hV.cut (k := p) (by omega)
  obtain ⟨o2, rfl⟩ := hq b o rfl
  clear hq
  have hdr := drop_one hc
  obtain ⟨n, hn⟩ : ∃ n, runS alnB (l.drop p) = n := ⟨_, rfl⟩
  have hn0 : 0 < n := by rw [← hn, hdr]; exact runS_pos _ _ _ (by simp [alnB, hcl])
  have hnl : n ≤ (l.drop p).length := by rw [← hn]; exact runS_le _ _
  rw [List.length_drop] at hnl
  obtain ⟨q3, cq3, hwin, hW3, hcv⟩ := hV.piece (p := p) (n := n) (by omega)
  have HO : Hid (oneS (l.drop p) p = if kindS ((l.drop p).take n) = 0 then (if 32 < n then 63 else 0, ⟨1, p, p + n, 0, []⟩) else (0, ⟨kindS ((l.drop p).take n), p, p + n, 0, []⟩)) := by
    show _ = _
    rw [hdr, oneS_word _ _ hcl, ← hdr, hn]
  have CR : Hid (∀ w', Below w.heap.size w w' → Calls Tryd.prog 36 #[.pointer (some ⟨g, 0, none⟩), .bool true] w' (RunPost w' n)) := fun w' hb => by
    have := run_any g _ l p true w' (hV.below hb) hl hp (hS.below hb).cell0 (hS.below hb).cell1
    rwa [show runS (runP true) (l.drop p) = n from hn] at this
  obtain ⟨K, hK⟩ : ∃ K, kindS ((l.drop p).take n) = K := ⟨_, rfl⟩
  rw [hK] at HO
  have CK : Hid (∀ w', Below w.heap.size w w' → Calls Tryd.prog 12 #[.string (ba ((l.drop p).take n))] w' fun e w2 => e = .returned (.int .i64 (K : Nat)) ∧ w' = w2) := fun w' hb => by
    have := kind_any (ba ((l.drop p).take n)) w' (hE.1.below hb)
    rwa [ba_bytes, hK] at this
  obtain ⟨PP, hPP⟩ : ∃ PP, NextPost w l p = PP := ⟨_, rfl⟩
  rw [hPP]
  have HPP := Lib.hid hPP
  clear hPP
  obtain ⟨R, hRd⟩ : ∃ R, l.drop p = R := ⟨_, rfl⟩
  rw [hRd] at hcut hR hdr CK hcv
  obtain ⟨T, hT⟩ : ∃ T, ba (R.take n) = T := ⟨_, rfl⟩
  rw [hT] at CK hcv
  have hRc : w.cell? ⟨b, o2, none⟩ = some (.int .u8 (c.toNat : Nat)) := by have := hR.cell (i := 0) (x := c) (by rw [hdr]; rfl); simpa using this
  have hRl : 0 < R.length := by rw [hdr]; simp
  have hp' : (p : Int) < (l.length : Int) := by omega
  have CC := Lib.hid (fun w => class_any c w)
  rw [hcl] at CC
  have hc0 := hS.cell0
  have hc1 := hS.cell1
  have hg := hS.lt
  have hne1 : ¬ g = w.heap.size + 1 := by omega
  clear hdr hcl hc hn hK hT
  have HS := Lib.hid hS
  have HCV := Lib.hid hcv
  have hw1 : IntKind.i64.wrap ((p : Int) + (n : Int)) = (p : Int) + (n : Int) := IntWalk.i64_in _ (by omega)
  clear hRd hR hS hV hE hcv hW3
  go_enter Tryd.func23, Tryd.ntmps23
  go_wp2
  go_region_held3 (fun w' => w'.cell? ⟨g, 1, none⟩ = some (.int .i64 (p : Nat))) (go_keep) (fail)
  go_wp2
  go_quiet (fail)
  go_wp2_with (go_at_call 32; refine (CC.out _).mono ?_; rintro e w2 ⟨rfl, rfl⟩)
  refine wp_world (fun W => NW w W 0 p p 0 ⟨#[]⟩) (by exact NW.start w p _) (fun W HN => ?_)
  have ⟨k0, k1, k2, k3, k4⟩ := HN.cells
  have f2 := HN.frozen 2
  have HNh := Lib.hid HN
  clear HN
  go_region_with (first | (go_at_call 36; refine (CR.out _ (by exact below_drewN HNh.out.bel _)).mono ?_; rintro e w2 ⟨rfl, q4, rfl⟩))
  all_goals
    go_wp2
    refine wp_world (fun W => NW w W 0 p (p + n) 0 ⟨#[]⟩) (by exact (HNh.out.drewN _).set2 _ (by go_num)) (fun W2 HN2 => ?_)
    clear k0 k1 k2 k3 k4 f2 HNh
    have ⟨k0, k1, k2, k3, k4⟩ := HN2.cells
    have g0 := (HS.out.below HN2.bel).cell0
    have f0 := HN2.frozen 0
    have HN2h := Lib.hid HN2
    have hcv2 : (convert 22 9 (.slice q3 n cq3)).run Tryd.prog W2.drew = .ok (.string T) W2.drew := HCV.out _ HN2.bel.drew
    clear HN2
    go_region_held3 (fun w' => w'.cell? ⟨g, 0, none⟩ = some (.slice (some ⟨b, o, none⟩) l.length cap) ∧ w'.cell? ⟨w.heap.size + 1, 1, none⟩ = some (.int .i64 (p : Nat)) ∧ w'.cell? ⟨w.heap.size + 1, 2, none⟩ = some (.int .i64 ((p : Int) + (n : Int))) ∧ (convert 22 9 (.slice q3 n cq3)).run Tryd.prog w' = .ok (.string T) w') (first | exact keepC HCV.out HS.out HN2h.out.drew_ | exact keepC HCV.out HS.out (HN2h.out.set0 K rfl).drew_) (first | (go_at_call 12; refine (CK.out _ (by exact below_drewN HN2h.out.bel _)).mono ?_; rintro e w2 ⟨rfl, rfl⟩))
    all_goals
      refine k_world (fun W => NW w W K p (p + n) 0 ⟨#[]⟩) (by exact (HN2h.out.set0 K rfl).drew_) (fun W3 HN3 => ?_)
      clear k0 k1 k2 k3 k4 f0 g0 HN2h hcv2
      have ⟨k0, k1, k2, k3, k4⟩ := HN3.cells
      have ⟨r0, r1, r2, r3, r4⟩ := HN3.cellR
      have f0 := HN3.frozen 0
      have f0r := HN3.frozenR
      have HN3h := Lib.hid HN3
      clear HN3
      by_cases h0 : K = 0
      · subst h0
        by_cases h32 : 32 < n
        · have HE : Hid ((oneS (l.drop p) p).1 = 63) := by show _ = _; rw [HO.out, if_pos rfl, if_pos h32]
          have h32' : (32 : Int) < (n : Int) := by omega
          go_wp2
          refine bodyPost_ret (resT (next_done (HN3h.out.set0 1 rfl) _ _ _ _ _).1 rfl _ rfl) rfl ?_
          rw [← HPP.out]
          exact next_err (t := ⟨1, p, p + n, 0, []⟩) HE.out (by decide) (next_done (HN3h.out.set0 1 rfl) _ _ _ _ _).2
        · have HE : Hid (oneS (l.drop p) p = (0, ⟨1, p, p + n, 0, []⟩)) := by show _ = _; rw [HO.out, if_pos rfl, if_neg h32]
          have h32' : ¬ (32 : Int) < (n : Int) := by omega
          go_wp2
          refine bodyPost_ret (resT (next_done (HN3h.out.set0 1 rfl) _ _ _ _ _).1 rfl _ rfl) rfl ?_
          rw [← HPP.out]
          exact next_ok (t := ⟨1, p, p + n, 0, []⟩) HE.out (next_done (HN3h.out.set0 1 rfl) _ _ _ _ _).2
      · have HE : Hid (oneS (l.drop p) p = (0, ⟨K, p, p + n, 0, []⟩)) := by show _ = _; rw [HO.out, if_neg h0]
        have h0' : ((K : Int) == 0) = false := beq_eq_false_iff_ne.2 (by omega)
        go_wp2
        refine bodyPost_ret (resT (next_done HN3h.out _ _ _ _ _).1 rfl _ rfl) rfl ?_
        rw [← HPP.out]
        exact next_ok (t := ⟨K, p, p + n, 0, []⟩) HE.out (next_done HN3h.out _ _ _ _ _).2
end Go.Proofs.YtmbejmhnoeoohaaDoor
