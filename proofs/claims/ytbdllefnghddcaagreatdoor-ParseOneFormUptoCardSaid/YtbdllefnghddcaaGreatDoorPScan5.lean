/- THE PROGRAM's next, at a text. THE PROGRAM's next, at a mark or nothing. -/
import Derived.Test.YtbdllefnghddcaaGreatDoorScanNextB
namespace Go.Proofs.YtbdllefnghddcaaGreatDoor
section
open Go Go.RowKit

set_option maxRecDepth 100000 in
set_option maxHeartbeats 8000000 in
theorem next_text (g : Nat) (v : Value) (l : List UInt8) (p : Nat) (w : World) (hV : Bs w v l) (hS : Scn w g v p) (hl : l.length ≤ 1048577) (hp : p < l.length) (hc : l[p]? = some 34) :
  Calls Tryz.prog 69 #[.pointer (some ⟨g, 0, none⟩)] w (NextPost w l p) := by
 obtain ⟨b, o, cap, rfl, hbl⟩ := hV.form (by omega)
 obtain ⟨q, cq, hcut, hR, hq⟩ := hV.cut (k := p) (by omega)
 obtain ⟨o2, rfl⟩ := hq b o rfl
 clear hq
 have hdr := drop_one hc
 obtain ⟨r, hrr⟩ : ∃ r, l.drop (p + 1) = r := ⟨_, rfl⟩
 rw [hrr] at hdr
 obtain ⟨PP, hPP⟩ : ∃ PP, NextPost w l p = PP := ⟨_, rfl⟩
 rw [hPP]
 have HPP := Lib.hid hPP
 clear hPP
 have HRd : Hid (l.drop p = 34 :: r) := hdr
 have hrl : r.length + 1 + p = l.length := by
  have := congrArg List.length hdr
  rw [List.length_drop] at this; simp at this; omega
 have CQ : Hid (∀ w', Below w.heap.size w w' → Calls Tryz.prog 117 #[.slice (some ⟨b, o2, none⟩) (l.drop p).length cq] w' (QPost w' (qS r))) := fun w' hb => by
  have h1 := hR.below hb
  rw [hdr] at h1 ⊢
  exact quoted_any 34 r _ w' h1 (by simp; omega)
 have hRc : w.cell? ⟨b, o2, none⟩ = some (.int .u8 34) := by have := hR.cell (i := 0) (x := 34) (by rw [hdr]; rfl); simpa using this
 have hRl : 0 < (l.drop p).length := by rw [hdr]; simp
 obtain ⟨m, hm⟩ : ∃ m, (l.drop p).length = m := ⟨_, rfl⟩
 rw [hm] at hcut CQ hRl
 have hp' : (p : Int) < (l.length : Int) := by omega
 have CC : Hid (∀ w, Calls Tryz.prog 110 #[.int .u8 34] w fun e w' => e = .returned (.int .i64 0) ∧ w = w') := fun w => class_any 34 w
 have hc0 := hS.cell0
 have hc1 := hS.cell1
 have hg := hS.lt
 have hne1 : ¬ g = w.heap.size + 1 := by omega
 clear hdr hc hrr hm
 have HS := Lib.hid hS
 clear hR hS hV
 go_enter Tryz.func69, Tryz.ntmps69
 go_wp2
 go_region_held3 (fun w' => w'.cell? ⟨g, 1, none⟩ = some (.int .i64 (p : Nat))) (go_keep) (fail)
 go_wp2
 go_quiet (fail)
 go_wp2_with (go_at_call 110; refine (CC.out _).mono ?_; rintro e w2 ⟨rfl, rfl⟩)
 refine k_calls (fun W => NW w W 0 p p 0 ⟨#[]⟩) (by exact NW.start w p _) (fun W HN => ?_)
 have ⟨k0, k1, k2, k3, k4⟩ := HN.cells
 have f4 := HN.frozen 4
 have HNh := Lib.hid HN
 clear HN
 refine (CQ.out _ HNh.out.bel).mono ?_
 rintro e w2 ⟨rfl, hb2⟩
 have HN2 := HNh.out.below hb2
 clear k0 k1 k2 k3 k4 f4 HNh hb2
 have ⟨k0, k1, k2, k3, k4⟩ := HN2.cells
 have ⟨r0, r1, r2, r3, r4⟩ := HN2.cellR
 have f4 := HN2.frozen 4
 have f0r := HN2.frozenR
 have HN2h := Lib.hid HN2
 clear HN2
 cases hqs : qS r with
 | none =>
  have HE : Hid ((oneS (l.drop p) p).1 = 65) := by show _ = _; rw [HRd.out, oneS_text_none r p hqs]
  simp only [qV]
  clear hqs
  go_wp2
  refine bodyPost_ret (resT (next_done (HN2h.out.set4 ⟨#[]⟩ rfl) _ _ _ _ _).1 rfl _ rfl) rfl ?_
  rw [← HPP.out]
  exact next_err (t := ⟨0, p, p, 0, []⟩) HE.out (by decide) (next_done (HN2h.out.set4 ⟨#[]⟩ rfl) _ _ _ _ _).2
 | some x =>
  obtain ⟨t, k⟩ := x
  have hkl := qS_le _ r _ (Nat.le_refl _) hqs
  simp only at hkl
  have HE : Hid (oneS (l.drop p) p = (0, ⟨3, p, p + k + 1, 0, t⟩)) := by show _ = _; rw [HRd.out, oneS_text_some r p hqs]
  have hk0 : (((k : Int) + 1) == 0) = false := beq_eq_false_iff_ne.2 (by omega)
  simp only [qV]
  clear hqs
  go_wp2
  refine wp_world (fun W => NW w W 0 p p 0 (ba t)) (by exact HN2h.out.set4 _ rfl) (fun W3 HN3 => ?_)
  clear k0 k1 k2 k3 k4 r0 r1 r2 r3 r4 f4 f0r HN2h
  have g1 := (HS.out.below HN3.bel).cell1
  have ⟨k0, k1, k2, k3, k4⟩ := HN3.cells
  have f0 := HN3.frozen 0
  have f2 := HN3.frozen 2
  have HN3h := Lib.hid HN3
  clear HN3
  have hw1 : IntKind.i64.wrap ((p : Int) + ((k : Int) + 1)) = (p : Int) + ((k : Int) + 1) := IntWalk.i64_in _ (by omega)
  go_region_held3 (fun w' => w'.cell? ⟨g, 1, none⟩ = some (.int .i64 (p : Nat))) (first | exact keep1 HS.out HN3h.out.drew_ | exact keep1 HS.out (HN3h.out.set0 3 rfl).drew_ | exact keep1 HS.out (HN3h.out.set2 (p + k + 1) (by go_num)).drew_ | exact keep1 HS.out ((HN3h.out.set0 3 rfl).set2 (p + k + 1) (by go_num)).drew_ | exact keep1 HS.out ((HN3h.out.set2 (p + k + 1) (by go_num)).set0 3 rfl).drew_) (fail)
  all_goals
   first
    | refine k_world (fun W => NW w W 3 p (p + k + 1) 0 (ba t)) (by exact ((HN3h.out.set0 3 rfl).set2 (p + k + 1) (by go_num)).drew_) (fun W4 HN4 => ?_)
    | refine k_world (fun W => NW w W 3 p (p + k + 1) 0 (ba t)) (by exact ((HN3h.out.set2 (p + k + 1) (by go_num)).set0 3 rfl).drew_) (fun W4 HN4 => ?_)
   clear k0 k1 k2 k3 k4 f0 f2 g1 HN3h
   have ⟨k0, k1, k2, k3, k4⟩ := HN4.cells
   have ⟨r0, r1, r2, r3, r4⟩ := HN4.cellR
   have f0r := HN4.frozenR
   have HN4h := Lib.hid HN4
   clear HN4
   go_wp2
   refine bodyPost_ret (resT (next_done HN4h.out _ _ _ _ _).1 rfl _ rfl) rfl ?_
   rw [← HPP.out]
   exact next_ok (t := ⟨3, p, p + k + 1, 0, t⟩) HE.out (next_done HN4h.out _ _ _ _ _).2
end
section
open Go Go.RowKit

theorem Bs.front {w : World} {pv : Option Addr} {n cap : Nat} {l : List UInt8} (h : Bs w (.slice pv n cap) l) {m : Nat} (hm : m ≤ l.length) :
  (∀ w' : World, Sem.run Tryz.prog (Instr.slice 22 (.slice pv n cap) none (some (Value.int IntKind.i64 (m : Nat))) none) w' = .ok (.slice pv m cap) w') ∧
   (∀ W' : World, Below w.heap.size w W' → (convert 22 9 (.slice pv m cap)).run Tryz.prog W' = .ok (.string (ba (l.take m))) W') := by
 obtain ⟨e, h1, h2⟩ := h.len
 subst e
 refine ⟨fun w' => ?_, fun W' hb => ?_⟩
 ·have c2 : (m : Int) ≤ cap := by omega
  cases pv <;> go_simp
 ·have hh : Bs W' (.slice pv m cap) (l.take m) := by
   have e : (l.take m).length = m := by rw [List.length_take]; omega
   refine ⟨pv, cap, by rw [e], by rw [e]; omega, h2, fun hn => ?_⟩
   rw [e] at hn
   obtain ⟨b, o, cap', hv, _⟩ := h.form (by omega)
   injection hv with e1 _ _
   subst e1
   refine ⟨b, o, rfl, fun j x hj => ?_⟩
   have hj' : l[j]? = some x := by
    have hjm : j < m := by
     rcases Nat.lt_or_ge j m with hh | hh
     ·exact hh
     ·rw [List.getElem?_eq_none (by rw [e]; exact hh)] at hj; cases hj
    rwa [List.getElem?_take_of_lt hjm] at hj
   exact (h.below hb).cell hj'
  exact hh.text

theorem keepM {w W : World} {k p s n : Nat} {x T : ByteArray} {g p0 : Nat} {v V : Value} (hcv : ∀ W' : World, Below w.heap.size w W' → (convert 22 9 V).run Tryz.prog W' = .ok (.string T) W') (hS : Scn w g v p0) (h : NW w W k p s n x) :
  W.cell? ⟨g, 1, none⟩ = some (.int .i64 (p0 : Nat)) ∧ (convert 22 9 V).run Tryz.prog W = .ok (.string T) W :=
 ⟨(hS.below h.bel).cell1, hcv _ h.bel⟩

set_option maxRecDepth 100000 in
set_option maxHeartbeats 8000000 in
theorem next_mark (g : Nat) (v : Value) (l : List UInt8) (p : Nat) (c : UInt8) (w : World) (hE : Env w) (hV : Bs w v l) (hS : Scn w g v p) (hl : l.length ≤ 1048577) (hp : p < l.length) (hc : l[p]? = some c)
  (hn1 : ¬ clsS c.toNat = 1) (hn2 : ¬ clsS c.toNat = 2) (hn3 : ¬ c = 34) :
  Calls Tryz.prog 69 #[.pointer (some ⟨g, 0, none⟩)] w (NextPost w l p) := by
 obtain ⟨b, o, cap, rfl, hbl⟩ := hV.form (by omega)
 obtain ⟨q, cq, hcut, hR, hq⟩ := hV.cut (k := p) (by omega)
 obtain ⟨o2, rfl⟩ := hq b o rfl
 clear hq
 have hdr := drop_one hc
 obtain ⟨r, hrr⟩ : ∃ r, l.drop (p + 1) = r := ⟨_, rfl⟩
 rw [hrr] at hdr
 obtain ⟨PP, hPP⟩ : ∃ PP, NextPost w l p = PP := ⟨_, rfl⟩
 rw [hPP]
 have HPP := Lib.hid hPP
 clear hPP
 have HRd : Hid (l.drop p = c :: r) := hdr
 have hrl : r.length + 1 + p = l.length := by
  have := congrArg List.length hdr
  rw [List.length_drop] at this; simp at this; omega
 rw [hdr] at hR hcut
 have hRc : w.cell? ⟨b, o2, none⟩ = some (.int .u8 (c.toNat : Nat)) := by have := hR.cell (i := 0) (x := c) rfl; simpa using this
 obtain ⟨hf1, hv1⟩ := hR.front (m := 1) (by simp)
 have hv1 : ∀ W' : World, Below w.heap.size w W' → (convert 22 9 (.slice (some ⟨b, o2, none⟩) 1 cq)).run Tryz.prog W' = .ok (.string (ba [c])) W' := hv1
 have hf1 : ∀ w' : World, Sem.run Tryz.prog (Instr.slice 22 (.slice (some ⟨b, o2, none⟩) (c :: r).length cq) none (some (Value.int IntKind.i64 1)) none) w' = .ok (.slice (some ⟨b, o2, none⟩) 1 cq) w' := hf1
 obtain ⟨K1, hK1⟩ : ∃ K1, kindS [c] = K1 := ⟨_, rfl⟩
 obtain ⟨T1, hT1⟩ : ∃ T1, ba [c] = T1 := ⟨_, rfl⟩
 have CK1 : Hid (∀ w', Below w.heap.size w w' → Calls Tryz.prog 115 #[.string T1] w' fun e w2 => e = .returned (.int .i64 (K1 : Nat)) ∧ w' = w2) := fun w' hb => by
  have := kind_any T1 w' (hE.1.below hb)
  rwa [← hT1, ba_bytes, hK1, hT1] at this
 rw [hT1] at hv1
 have HV1 := Lib.hid hv1
 have hp' : (p : Int) < (l.length : Int) := by omega
 have CC := Lib.hid (fun w => class_any c w)
 have hcl := clsS_le c.toNat
 have e34 : ((c.toNat : Int) == 34) = false := beq_eq_false_iff_ne.2 (fun h => hn3 (UInt8.toNat_inj.1 (show c.toNat = 34 by omega)))
 have e1 : ((clsS c.toNat : Nat) : Int) ≠ 1 := by omega
 have e1' : (((clsS c.toNat : Nat) : Int) == 1) = false := beq_eq_false_iff_ne.2 e1
 have e2 : ((clsS c.toNat : Nat) : Int) ≠ 2 := by omega
 have e2' : (((clsS c.toNat : Nat) : Int) == 2) = false := beq_eq_false_iff_ne.2 e2
 have hc0 := hS.cell0
 have hc1 := hS.cell1
 have hg := hS.lt
 have hne1 : ¬ g = w.heap.size + 1 := by omega
 have HS := Lib.hid hS
 have HO1 : Hid (¬ (2 ≤ (c :: r).length ∧ kindS ((c :: r).take 2) ≠ 0) → ¬ K1 = 0 → oneS (l.drop p) p = (0, ⟨K1, p, p + 1, 0, []⟩)) := fun h1 h2 => by
  rw [HRd.out]; have := oneS_mark (c := c) (r := r) p hn1 hn2 hn3 h1 (by rw [hK1]; exact h2); rwa [hK1] at this
 have HO0 : Hid (¬ (2 ≤ (c :: r).length ∧ kindS ((c :: r).take 2) ≠ 0) → K1 = 0 → (oneS (l.drop p) p).1 = 61) := fun h1 h2 => by
  rw [HRd.out, oneS_none (c := c) (r := r) p hn1 hn2 hn3 h1 (by rw [hK1]; omega)]
 have HO2 : Hid (2 ≤ (c :: r).length ∧ kindS ((c :: r).take 2) ≠ 0 → oneS (l.drop p) p = (0, ⟨kindS ((c :: r).take 2), p, p + 2, 0, []⟩)) := fun h1 => by
  rw [HRd.out]; exact oneS_two p hn1 hn2 hn3 h1
 by_cases hlen : 2 ≤ (c :: r).length
 ·obtain ⟨hf2, hv2⟩ := hR.front (m := 2) hlen
  have hf2 : ∀ w' : World, Sem.run Tryz.prog (Instr.slice 22 (.slice (some ⟨b, o2, none⟩) (c :: r).length cq) none (some (Value.int IntKind.i64 2)) none) w' = .ok (.slice (some ⟨b, o2, none⟩) 2 cq) w' := hf2
  obtain ⟨K2, hK2⟩ : ∃ K2, kindS ((c :: r).take 2) = K2 := ⟨_, rfl⟩
  rw [hK2] at HO1 HO0 HO2
  obtain ⟨T2, hT2⟩ : ∃ T2, ba ((c :: r).take 2) = T2 := ⟨_, rfl⟩
  have CK2 : Hid (∀ w', Below w.heap.size w w' → Calls Tryz.prog 115 #[.string T2] w' fun e w2 => e = .returned (.int .i64 (K2 : Nat)) ∧ w' = w2) := fun w' hb => by
   have := kind_any T2 w' (hE.1.below hb)
   rwa [← hT2, ba_bytes, hK2, hT2] at this
  rw [hT2] at hv2
  have HV2 := Lib.hid hv2
  obtain ⟨m, hm⟩ : ∃ m, (c :: r).length = m := ⟨_, rfl⟩
  rw [hm] at hf1 hf2 hcut hlen HO1 HO2 HO0
  have hlen' : (2 : Int) ≤ (m : Int) := by omega
  clear hv1 hv2 hR hS hV hE hdr hc hrr hm hK1 hK2 hT1 hT2 hn1 hn2 hn3
  have hmin : min (2 : Int) (m : Int) = 2 := by omega
  have hw2 : IntKind.i64.wrap ((p : Int) + 2) = (p : Int) + 2 := IntWalk.i64_in _ (by omega)
  have hw1 : IntKind.i64.wrap ((p : Int) + 1) = (p : Int) + 1 := IntWalk.i64_in _ (by omega)
  go_enter Tryz.func69, Tryz.ntmps69
  go_wp2
  go_region_held3 (fun w' => w'.cell? ⟨g, 1, none⟩ = some (.int .i64 (p : Nat))) (go_keep) (fail)
  go_wp2
  go_quiet (fail)
  go_wp2_with (go_at_call 110; refine (CC.out _).mono ?_; rintro e w2 ⟨rfl, rfl⟩)
  go_loopw [9] (fun n wr => ∃ (j k s : Nat), n = .int .i64 j ∧ Hid (NW w wr k p s 0 ⟨#[]⟩) ∧ ((j = 2 ∧ k = 0) ∨ (j = 1 ∧ k = K2 ∧ s = p + 2) ∨ (j = 0 ∧ K2 = 0 ∧ k = K1 ∧ s = p + 1))) (fun n _ => (intOf n).toNat)
  case atStart => exact ⟨2, 0, p, rfl, NW.start w p _, .inl ⟨rfl, rfl⟩⟩
  case round =>
   obtain ⟨j, k, s, rfl, HN, hst⟩ := hrel
   rcases hst with ⟨rfl, rfl⟩ | ⟨rfl, rfl, rfl⟩ | ⟨rfl, h20, rfl, rfl⟩
   ·have ⟨k0, k1, k2, k3, k4⟩ := HN.out.cells
    have f0 := HN.out.frozen 0
    have f2 := HN.out.frozen 2
    have g1 := (HS.out.below HN.out.bel).cell1
    go_wp2
    go_region_held3 (fun w' => w'.cell? ⟨g, 1, none⟩ = some (.int .i64 (p : Nat)) ∧ (convert 22 9 (.slice (some ⟨b, o2, none⟩) 2 cq)).run Tryz.prog w' = .ok (.string T2) w') (first | exact keepM HV2.out HS.out HN.out.drew_ | exact keepM HV2.out HS.out (HN.out.set0 K2 rfl).drew_ | exact keepM HV2.out HS.out (HN.out.set2 (p + 2) (by go_num)).drew_ | exact keepM HV2.out HS.out ((HN.out.set0 K2 rfl).set2 (p + 2) (by go_num)).drew_ | exact keepM HV2.out HS.out ((HN.out.set2 (p + 2) (by go_num)).set0 K2 rfl).drew_) (first | (go_at_call 115; refine (CK2.out _ (by exact HN.out.bel.drew)).mono ?_; rintro e w2 ⟨rfl, rfl⟩))
    all_goals
     first
      | refine k_world (fun W => NW w W K2 p (p + 2) 0 ⟨#[]⟩) (by exact ((HN.out.set0 K2 rfl).set2 (p + 2) (by go_num)).drew_) (fun W4 HN4 => ?_)
      | refine k_world (fun W => NW w W K2 p (p + 2) 0 ⟨#[]⟩) (by exact ((HN.out.set2 (p + 2) (by go_num)).set0 K2 rfl).drew_) (fun W4 HN4 => ?_)
     have HN4h := Lib.hid HN4
     clear HN4 k0 k1 k2 k3 k4 f0 f2 g1
     go_wp2
     go_roundw
     case rel => exact ⟨1, K2, p + 2, rfl, HN4h, .inr (.inl ⟨rfl, rfl, rfl⟩)⟩
     case measure => simp [intOf]
   ·by_cases h20 : k = 0
    ·subst h20
     have ⟨k0, k1, k2, k3, k4⟩ := HN.out.cells
     have f0 := HN.out.frozen 0
     have f2 := HN.out.frozen 2
     have g1 := (HS.out.below HN.out.bel).cell1
     go_wp2
     go_region_held3 (fun w' => w'.cell? ⟨g, 1, none⟩ = some (.int .i64 (p : Nat)) ∧ (convert 22 9 (.slice (some ⟨b, o2, none⟩) 1 cq)).run Tryz.prog w' = .ok (.string T1) w') (first | exact keepM HV1.out HS.out HN.out.drew_ | exact keepM HV1.out HS.out (HN.out.set0 K1 rfl).drew_ | exact keepM HV1.out HS.out (HN.out.set2 (p + 1) (by go_num)).drew_ | exact keepM HV1.out HS.out ((HN.out.set0 K1 rfl).set2 (p + 1) (by go_num)).drew_ | exact keepM HV1.out HS.out ((HN.out.set2 (p + 1) (by go_num)).set0 K1 rfl).drew_) (first | (go_at_call 115; refine (CK1.out _ (by exact HN.out.bel.drew)).mono ?_; rintro e w2 ⟨rfl, rfl⟩))
     all_goals
      first
       | refine k_world (fun W => NW w W K1 p (p + 1) 0 ⟨#[]⟩) (by exact ((HN.out.set0 K1 rfl).set2 (p + 1) (by go_num)).drew_) (fun W4 HN4 => ?_)
       | refine k_world (fun W => NW w W K1 p (p + 1) 0 ⟨#[]⟩) (by exact ((HN.out.set2 (p + 1) (by go_num)).set0 K1 rfl).drew_) (fun W4 HN4 => ?_)
      have HN4h := Lib.hid HN4
      clear HN4 k0 k1 k2 k3 k4 f0 f2 g1
      go_wp2
      go_roundw
      case rel => exact ⟨0, K1, p + 1, rfl, HN4h, .inr (.inr (by simp))⟩
      case measure => simp [intOf]
    ·have HE := Lib.hid (HO2.out ⟨hlen, h20⟩)
     have hk0 : ((k : Int) == 0) = false := beq_eq_false_iff_ne.2 (by omega)
     have ⟨k0, k1, k2, k3, k4⟩ := HN.out.cells
     have f0 := HN.out.frozen 0
     have f2 := HN.out.frozen 2
     have g1 := (HS.out.below HN.out.bel).cell1
     have ⟨r0, r1, r2, r3, r4⟩ := HN.out.cellR
     have f0r := HN.out.frozenR
     go_wp2
     refine bodyPost_ret (resT (next_done HN.out _ _ _ _ _).1 rfl _ rfl) rfl ?_
     rw [← HPP.out]
     exact next_ok (t := ⟨k, p, p + 2, 0, []⟩) HE.out (next_done HN.out _ _ _ _ _).2
   ·by_cases h10 : k = 0
    ·subst h10
     have HE := Lib.hid (HO0.out (fun h => h.2 h20) rfl)
     have ⟨k0, k1, k2, k3, k4⟩ := HN.out.cells
     have f0 := HN.out.frozen 0
     have f2 := HN.out.frozen 2
     have g1 := (HS.out.below HN.out.bel).cell1
     have ⟨r0, r1, r2, r3, r4⟩ := HN.out.cellR
     have f0r := HN.out.frozenR
     go_wp2
     refine bodyPost_ret (resT (next_done HN.out _ _ _ _ _).1 rfl _ rfl) rfl ?_
     rw [← HPP.out]
     exact next_err (t := ⟨0, p, p + 1, 0, []⟩) HE.out (by decide) (next_done HN.out _ _ _ _ _).2
    ·have HE := Lib.hid (HO1.out (fun h => h.2 h20) h10)
     have hk0 : ((k : Int) == 0) = false := beq_eq_false_iff_ne.2 (by omega)
     have ⟨k0, k1, k2, k3, k4⟩ := HN.out.cells
     have f0 := HN.out.frozen 0
     have f2 := HN.out.frozen 2
     have g1 := (HS.out.below HN.out.bel).cell1
     have ⟨r0, r1, r2, r3, r4⟩ := HN.out.cellR
     have f0r := HN.out.frozenR
     go_wp2
     refine bodyPost_ret (resT (next_done HN.out _ _ _ _ _).1 rfl _ rfl) rfl ?_
     rw [← HPP.out]
     exact next_ok (t := ⟨k, p, p + 1, 0, []⟩) HE.out (next_done HN.out _ _ _ _ _).2
 ·have hm1 : (c :: r).length = 1 := by simp at hlen ⊢; omega
  rw [hm1] at hf1 hcut
  have hnot : ¬ (2 ≤ (c :: r).length ∧ kindS ((c :: r).take 2) ≠ 0) := fun h => hlen h.1
  have hN := Lib.hid hnot
  have hw1 : IntKind.i64.wrap ((p : Int) + 1) = (p : Int) + 1 := IntWalk.i64_in _ (by omega)
  clear hv1 hR hS hV hE hdr hc hrr hK1 hT1 hn1 hn2 hn3 HO2 hnot hlen hm1
  go_enter Tryz.func69, Tryz.ntmps69
  go_wp2
  go_region_held3 (fun w' => w'.cell? ⟨g, 1, none⟩ = some (.int .i64 (p : Nat))) (go_keep) (fail)
  go_wp2
  go_quiet (fail)
  go_wp2_with (go_at_call 110; refine (CC.out _).mono ?_; rintro e w2 ⟨rfl, rfl⟩)
  go_loopw [9] (fun n wr => ∃ (j k s : Nat), n = .int .i64 j ∧ Hid (NW w wr k p s 0 ⟨#[]⟩) ∧ ((j = 1 ∧ k = 0) ∨ (j = 0 ∧ k = K1 ∧ s = p + 1))) (fun n _ => (intOf n).toNat)
  case atStart => exact ⟨1, 0, p, rfl, NW.start w p _, .inl ⟨rfl, rfl⟩⟩
  case round =>
   obtain ⟨j, k, s, rfl, HN, hst⟩ := hrel
   rcases hst with ⟨rfl, rfl⟩ | ⟨rfl, rfl, rfl⟩
   ·have ⟨k0, k1, k2, k3, k4⟩ := HN.out.cells
    have f0 := HN.out.frozen 0
    have f2 := HN.out.frozen 2
    have g1 := (HS.out.below HN.out.bel).cell1
    go_wp2
    go_region_held3 (fun w' => w'.cell? ⟨g, 1, none⟩ = some (.int .i64 (p : Nat)) ∧ (convert 22 9 (.slice (some ⟨b, o2, none⟩) 1 cq)).run Tryz.prog w' = .ok (.string T1) w') (first | exact keepM HV1.out HS.out HN.out.drew_ | exact keepM HV1.out HS.out (HN.out.set0 K1 rfl).drew_ | exact keepM HV1.out HS.out (HN.out.set2 (p + 1) (by go_num)).drew_ | exact keepM HV1.out HS.out ((HN.out.set0 K1 rfl).set2 (p + 1) (by go_num)).drew_ | exact keepM HV1.out HS.out ((HN.out.set2 (p + 1) (by go_num)).set0 K1 rfl).drew_) (first | (go_at_call 115; refine (CK1.out _ (by exact HN.out.bel.drew)).mono ?_; rintro e w2 ⟨rfl, rfl⟩))
    all_goals
     first
      | refine k_world (fun W => NW w W K1 p (p + 1) 0 ⟨#[]⟩) (by exact ((HN.out.set0 K1 rfl).set2 (p + 1) (by go_num)).drew_) (fun W4 HN4 => ?_)
      | refine k_world (fun W => NW w W K1 p (p + 1) 0 ⟨#[]⟩) (by exact ((HN.out.set2 (p + 1) (by go_num)).set0 K1 rfl).drew_) (fun W4 HN4 => ?_)
     have HN4h := Lib.hid HN4
     clear HN4 k0 k1 k2 k3 k4 f0 f2 g1
     go_wp2
     go_roundw
     case rel => exact ⟨0, K1, p + 1, rfl, HN4h, .inr ⟨rfl, rfl, rfl⟩⟩
     case measure => simp [intOf]
   ·by_cases h10 : k = 0
    ·subst h10
     have HE := Lib.hid (HO0.out hN.out rfl)
     have ⟨k0, k1, k2, k3, k4⟩ := HN.out.cells
     have f0 := HN.out.frozen 0
     have f2 := HN.out.frozen 2
     have g1 := (HS.out.below HN.out.bel).cell1
     have ⟨r0, r1, r2, r3, r4⟩ := HN.out.cellR
     have f0r := HN.out.frozenR
     go_wp2
     refine bodyPost_ret (resT (next_done HN.out _ _ _ _ _).1 rfl _ rfl) rfl ?_
     rw [← HPP.out]
     exact next_err (t := ⟨0, p, p + 1, 0, []⟩) HE.out (by decide) (next_done HN.out _ _ _ _ _).2
    ·have HE := Lib.hid (HO1.out hN.out h10)
     have hk0 : ((k : Int) == 0) = false := beq_eq_false_iff_ne.2 (by omega)
     have ⟨k0, k1, k2, k3, k4⟩ := HN.out.cells
     have f0 := HN.out.frozen 0
     have f2 := HN.out.frozen 2
     have g1 := (HS.out.below HN.out.bel).cell1
     have ⟨r0, r1, r2, r3, r4⟩ := HN.out.cellR
     have f0r := HN.out.frozenR
     go_wp2
     refine bodyPost_ret (resT (next_done HN.out _ _ _ _ _).1 rfl _ rfl) rfl ?_
     rw [← HPP.out]
     exact next_ok (t := ⟨k, p, p + 1, 0, []⟩) HE.out (next_done HN.out _ _ _ _ _).2

theorem next_any (g : Nat) (v : Value) (l : List UInt8) (p : Nat) (w : World) (hE : Env w) (hV : Bs w v l) (hS : Scn w g v p) (hl : l.length ≤ 1048577) (hp : p < l.length) :
  Calls Tryz.prog 69 #[.pointer (some ⟨g, 0, none⟩)] w (NextPost w l p) := by
 obtain ⟨c, hc⟩ : ∃ c, l[p]? = some c := ⟨_, List.getElem?_eq_getElem hp⟩
 by_cases h1 : clsS c.toNat = 1
 ·exact next_word g v l p c w hE hV hS hl hp hc h1
 ·by_cases h2 : clsS c.toNat = 2
  ·exact next_num g v l p c w hV hS hl hp hc h2
  ·by_cases h3 : c = 34
   ·subst h3; exact next_text g v l p w hV hS hl hp hc
   ·exact next_mark g v l p c w hE hV hS hl hp hc h1 h2 h3
end
end Go.Proofs.YtbdllefnghddcaaGreatDoor
