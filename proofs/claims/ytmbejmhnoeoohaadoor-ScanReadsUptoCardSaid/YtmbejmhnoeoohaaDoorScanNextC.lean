/- THE PROGRAM's next, at a text. -/
import Derived.Test.YtmbejmhnoeoohaaDoorScanNextB
namespace Go.Proofs.YtmbejmhnoeoohaaDoor
open Go Go.RowKit

set_option maxRecDepth 100000 in
set_option maxHeartbeats 8000000 in
theorem next_text (g : Nat) (v : Value) (l : List UInt8) (p : Nat) (w : World) (hV : Bs w v l) (hS : Scn w g v p) (hl : l.length ≤ 1048577) (hp : p < l.length) (hc : l[p]? = some 34) :
    Calls Tryd.prog 23 #[.pointer (some ⟨g, 0, none⟩)] w (NextPost w l p) := by
  obtain ⟨b, o, cap, rfl, hbl⟩ := hV.form (by omega)
  obtain ⟨q, cq, hcut, hR, hq⟩ := hV.cut (k := p) (by omega)
  obtain ⟨o2, rfl⟩ := hq b o rfl
  clear hq
  have hdr := drop_one hc
  obtain ⟨r, hrr⟩ : ∃ r, l.drop (p + 1) = r := ⟨_, rfl⟩
  rw [hrr] at hdr
  obtain ⟨PP, hPP⟩ : ∃ PP, NextPost w l p = PP := ⟨_, rfl⟩
  rw [hPP]
  have HPP := Lib.hid hPP
  clear hPP
  have HRd : Hid (l.drop p = 34 :: r) := hdr
  have hrl : r.length + 1 + p = l.length := by
    have := congrArg List.length hdr
    rw [List.length_drop] at this; simp at this; omega
  have CQ : Hid (∀ w', Below w.heap.size w w' → Calls Tryd.prog 28 #[.slice (some ⟨b, o2, none⟩) (l.drop p).length cq] w' (QPost w' (qS r))) := fun w' hb => by
    have h1 := hR.below hb
    rw [hdr] at h1 ⊢
    exact quoted_any 34 r _ w' h1 (by simp; omega)
  have hRc : w.cell? ⟨b, o2, none⟩ = some (.int .u8 34) := by have := hR.cell (i := 0) (x := 34) (by rw [hdr]; rfl); simpa using this
  have hRl : 0 < (l.drop p).length := by rw [hdr]; simp
  obtain ⟨m, hm⟩ : ∃ m, (l.drop p).length = m := ⟨_, rfl⟩
  rw [hm] at hcut CQ hRl
  have hp' : (p : Int) < (l.length : Int) := by omega
  have CC : Hid (∀ w, Calls Tryd.prog 32 #[.int .u8 34] w fun e w' => e = .returned (.int .i64 0) ∧ w = w') := fun w => class_any 34 w
  have hc0 := hS.cell0
  have hc1 := hS.cell1
  have hg := hS.lt
  have hne1 : ¬ g = w.heap.size + 1 := by omega
  clear hdr hc hrr hm
  have HS := Lib.hid hS
  clear hR hS hV
  go_enter Tryd.func23, Tryd.ntmps23
  go_wp2
  go_region_held3 (fun w' => w'.cell? ⟨g, 1, none⟩ = some (.int .i64 (p : Nat))) (go_keep) (fail)
  go_wp2
  go_quiet (fail)
  go_wp2_with (go_at_call 32; refine (CC.out _).mono ?_; rintro e w2 ⟨rfl, rfl⟩)
  refine k_calls (fun W => NW w W 0 p p 0 ⟨#[]⟩) (by exact NW.start w p _) (fun W HN => ?_)
  have ⟨k0, k1, k2, k3, k4⟩ := HN.cells
  have f4 := HN.frozen 4
  have HNh := Lib.hid HN
  clear HN
  refine (CQ.out _ HNh.out.bel).mono ?_
  rintro e w2 ⟨rfl, hb2⟩
  have HN2 := HNh.out.below hb2
  clear k0 k1 k2 k3 k4 f4 HNh hb2
  have ⟨k0, k1, k2, k3, k4⟩ := HN2.cells
  have ⟨r0, r1, r2, r3, r4⟩ := HN2.cellR
  have f4 := HN2.frozen 4
  have f0r := HN2.frozenR
  have HN2h := Lib.hid HN2
  clear HN2
  cases hqs : qS r with
  | none =>
    have HE : Hid ((oneS (l.drop p) p).1 = 65) := by show _ = _; rw [HRd.out, oneS_text_none r p hqs]
    simp only [qV]
    clear hqs
    go_wp2
    refine bodyPost_ret (resT (next_done (HN2h.out.set4 ⟨#[]⟩ rfl) _ _ _ _ _).1 rfl _ rfl) rfl ?_
    rw [← HPP.out]
    exact next_err (t := ⟨0, p, p, 0, []⟩) HE.out (by decide) (next_done (HN2h.out.set4 ⟨#[]⟩ rfl) _ _ _ _ _).2
  | some x =>
    obtain ⟨t, k⟩ := x
    have hkl := qS_le _ r _ (Nat.le_refl _) hqs
    simp only at hkl
    have HE : Hid (oneS (l.drop p) p = (0, ⟨3, p, p + k + 1, 0, t⟩)) := by show _ = _; rw [HRd.out, oneS_text_some r p hqs]
    have hk0 : (((k : Int) + 1) == 0) = false := beq_eq_false_iff_ne.2 (by omega)
    simp only [qV]
    clear hqs
    go_wp2
    refine wp_world (fun W => NW w W 0 p p 0 (ba t)) (by exact HN2h.out.set4 _ rfl) (fun W3 HN3 => ?_)
    clear k0 k1 k2 k3 k4 r0 r1 r2 r3 r4 f4 f0r HN2h
    have g1 := (HS.out.below HN3.bel).cell1
    have ⟨k0, k1, k2, k3, k4⟩ := HN3.cells
    have f0 := HN3.frozen 0
    have f2 := HN3.frozen 2
    have HN3h := Lib.hid HN3
    clear HN3
    have hw1 : IntKind.i64.wrap ((p : Int) + ((k : Int) + 1)) = (p : Int) + ((k : Int) + 1) := IntWalk.i64_in _ (by omega)
    go_region_held3 (fun w' => w'.cell? ⟨g, 1, none⟩ = some (.int .i64 (p : Nat))) (first | exact keep1 HS.out HN3h.out.drew_ | exact keep1 HS.out (HN3h.out.set0 3 rfl).drew_ | exact keep1 HS.out (HN3h.out.set2 (p + k + 1) (by go_num)).drew_ | exact keep1 HS.out ((HN3h.out.set0 3 rfl).set2 (p + k + 1) (by go_num)).drew_ | exact keep1 HS.out ((HN3h.out.set2 (p + k + 1) (by go_num)).set0 3 rfl).drew_) (fail)
    all_goals
      first
        | refine k_world (fun W => NW w W 3 p (p + k + 1) 0 (ba t)) (by exact ((HN3h.out.set0 3 rfl).set2 (p + k + 1) (by go_num)).drew_) (fun W4 HN4 => ?_)
        | refine k_world (fun W => NW w W 3 p (p + k + 1) 0 (ba t)) (by exact ((HN3h.out.set2 (p + k + 1) (by go_num)).set0 3 rfl).drew_) (fun W4 HN4 => ?_)
      clear k0 k1 k2 k3 k4 f0 f2 g1 HN3h
      have ⟨k0, k1, k2, k3, k4⟩ := HN4.cells
      have ⟨r0, r1, r2, r3, r4⟩ := HN4.cellR
      have f0r := HN4.frozenR
      have HN4h := Lib.hid HN4
      clear HN4
      go_wp2
      refine bodyPost_ret (resT (next_done HN4h.out _ _ _ _ _).1 rfl _ rfl) rfl ?_
      rw [← HPP.out]
      exact next_ok (t := ⟨3, p, p + k + 1, 0, t⟩) HE.out (next_done HN4h.out _ _ _ _ _).2
end Go.Proofs.YtmbejmhnoeoohaaDoor
