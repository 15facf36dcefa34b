/- THE REFERENCE's one, at a text and at a mark. -/
import Derived.Test.YtbdllefnghddcaaGreatDoorScanRefOneA
namespace Go.Proofs.YtbdllefnghddcaaGreatDoor
set_option maxHeartbeats 8000000
set_option maxRecDepth 100000
open Go Go.RowKit

theorem refOne_text (v : Value) (l : List UInt8) (p : Nat) (w : World) (hV : Bs w v l) (hl : l.length ≤ 1048577) (hp : p < l.length) (hc : l[p]? = some 34) :
  Calls Tryz.prog 73 #[v, .int .i64 (p : Nat)] w (NextPost w l p) := by
 obtain ⟨b, o, cap, rfl, hbl⟩ := hV.form (by omega)
 have hdr := drop_one hc
 obtain ⟨r, hrr⟩ : ∃ r, l.drop (p + 1) = r := ⟨_, rfl⟩
 rw [hrr] at hdr
 obtain ⟨PP, hPP⟩ : ∃ PP, NextPost w l p = PP := ⟨_, rfl⟩
 rw [hPP]
 have HPP := Lib.hid hPP
 clear hPP
 have HRd : Hid (l.drop p = 34 :: r) := hdr
 have hrl : r.length + 1 + p = l.length := by
  have := congrArg List.length hdr
  rw [List.length_drop] at this; simp at this; omega
 have CQ : Hid (∀ w', Below w.heap.size w w' → Calls Tryz.prog 129 #[.slice (some ⟨b, o, none⟩) l.length cap, .int .i64 (p : Nat)] w' (RQPost w' p (qS r))) := fun w' hb =>
  refQuoted_any 34 r l p _ w' (hV.below hb) (by omega) hdr.symm
 have hck := hV.cell hc
 have hp' : (p : Int) < (l.length : Int) := by omega
 have CL : Hid (∀ w, Calls Tryz.prog 126 #[.int .u8 34] w fun e w' => e = .returned (.bool false) ∧ w = w') := fun w => refLetter_any 34 w
 have CD : Hid (∀ w, Calls Tryz.prog 127 #[.int .u8 34] w fun e w' => e = .returned (.bool false) ∧ w = w') := fun w => refDigit_any 34 w
 have HB := Lib.hid hV
 clear hdr hc hrr hV
 go_enter Tryz.func73, Tryz.ntmps73
 go_wp2_with fail
 refine k_calls (fun W => NW w W 0 p 0 0 ⟨#[]⟩ ∧ W.cell? ⟨b, o + p, none⟩ = some (.int .u8 34)) (by exact ⟨NW.start0 w p, ((NW.start0 w p).bel.cell (p := ⟨b, o + p, none⟩) hbl).trans hck⟩) (fun W HN => ?_)
 obtain ⟨HN, hck2⟩ := HN
 have HNh := Lib.hid HN
 clear HN
 refine (CL.out _).mono ?_
 rintro e w2 ⟨rfl, rfl⟩
 go_wp2_with fail
 refine (CD.out _).mono ?_
 rintro e w2 ⟨rfl, rfl⟩
 go_wp2_with fail
 refine (CQ.out _ HNh.out.bel).mono ?_
 rintro e W2 ⟨rfl, hb2⟩
 have HN2 := HNh.out.below hb2
 clear hb2 hck hck2
 have ⟨k0, k1, k2, k3, k4⟩ := HN2.cells
 have ⟨r0, r1, r2, r3, r4⟩ := HN2.cellR
 have f0 := HN2.frozen
 have f0r := HN2.frozenR
 have HN2h := Lib.hid HN2
 clear HN2
 cases hqs : qS r with
 | none =>
  have HE : Hid ((oneS (l.drop p) p).1 = 65) := by show _ = _; rw [HRd.out, oneS_text_none r p hqs]
  simp only [rqV]
  clear hqs
  go_wp2
  refine bodyPost_ret (resR (next_done HN2h.out _ _ _ _ _).1 rfl _ rfl) rfl ?_
  rw [← HPP.out]
  exact next_err (t := ⟨0, p, 0, 0, []⟩) HE.out (by decide) (next_done HN2h.out _ _ _ _ _).2
 | some x =>
  obtain ⟨t, k⟩ := x
  have hkl := qS_le _ r _ (Nat.le_refl _) hqs
  simp only at hkl
  have HE : Hid (oneS (l.drop p) p = (0, ⟨3, p, p + k + 1, 0, t⟩)) := by show _ = _; rw [HRd.out, oneS_text_some r p hqs]
  have e1 : ((p + 1 + k : Nat) : Int) = ((p + k + 1 : Nat) : Int) := by omega
  simp only [rqV, e1]
  obtain ⟨S, hS⟩ : ∃ S, p + k + 1 = S := ⟨_, rfl⟩
  rw [hS] at HE ⊢
  have hk0 : ¬ (S : Int) < 0 := by omega
  clear hqs e1
  go_wp2
  refine bodyPost_ret (resR (next_done (((HN2h.out.set0 3 rfl).set4 (ba t) rfl).set2 S rfl) _ _ _ _ _).1 rfl _ rfl) rfl ?_
  rw [← HPP.out]
  exact next_ok (t := ⟨3, p, S, 0, t⟩) HE.out (next_done (((HN2h.out.set0 3 rfl).set4 (ba t) rfl).set2 S rfl) _ _ _ _ _).2

theorem kFrom_at : ∀ (ws : List (List UInt8)) (n : Nat) (s : List UInt8), kFrom ws n s = 0 ∨ ∃ i, ws[i]? = some s ∧ kFrom ws n s = n + i
 | [], n, s => .inl rfl
 | x :: r, n, s => by
  unfold kFrom
  by_cases h : x = s
  ·rw [if_pos h]; exact .inr ⟨0, by rw [h]; rfl, rfl⟩
  ·rw [if_neg h]
   rcases kFrom_at r (n + 1) s with h1 | ⟨i, h1, h2⟩
   ·exact .inl h1
   ·exact .inr ⟨i + 1, by simpa using h1, by omega⟩
theorem words_letter : ∀ i, i < 11 → ∃ c r, wordsS[i]? = some (c :: r) ∧ clsS c.toNat = 1
 | 0, _ | 1, _ | 2, _ | 3, _ | 4, _ | 5, _ | 6, _ | 7, _ | 8, _ | 9, _ | 10, _ => ⟨_, _, rfl, by decide⟩
 | i + 11, h => by omega
theorem kind_mark (s : List UInt8) : kindS s = 0 ∨ 15 ≤ kindS s ∨ ∃ c r, s = c :: r ∧ clsS c.toNat = 1 := by
 unfold kindS
 rcases kFrom_at wordsS 4 s with h | ⟨i, h1, h2⟩
 ·exact .inl h
 ·rw [h2]
  rcases Nat.lt_or_ge i 11 with hi | hi
  ·obtain ⟨c, r, h3, h4⟩ := words_letter i hi
   rw [h3] at h1; injection h1 with h1
   exact .inr (.inr ⟨c, r, h1.symm, h4⟩)
  ·exact .inr (.inl (by omega))
theorem kind_mark' {c : UInt8} {r : List UInt8} (h : ¬ clsS c.toNat = 1) : kindS (c :: r) = 0 ∨ 15 ≤ kindS (c :: r) := by
 rcases kind_mark (c :: r) with h1 | h1 | ⟨c', r', h1, h2⟩
 ·exact .inl h1
 ·exact .inr h1
 ·injection h1 with h1 _; subst h1; exact absurd h2 h

theorem refOne_mark (v : Value) (l : List UInt8) (p : Nat) (c : UInt8) (w : World) (hV : Bs w v l) (hl : l.length ≤ 1048577) (hp : p < l.length) (hc : l[p]? = some c)
  (hn1 : ¬ clsS c.toNat = 1) (hn2 : ¬ clsS c.toNat = 2) (hn3 : ¬ c = 34) :
  Calls Tryz.prog 73 #[v, .int .i64 (p : Nat)] w (NextPost w l p) := by
 obtain ⟨b, o, cap, rfl, hbl⟩ := hV.form (by omega)
 have hdr := drop_one hc
 obtain ⟨r, hrr⟩ : ∃ r, l.drop (p + 1) = r := ⟨_, rfl⟩
 rw [hrr] at hdr
 obtain ⟨PP, hPP⟩ : ∃ PP, NextPost w l p = PP := ⟨_, rfl⟩
 rw [hPP]
 have HPP := Lib.hid hPP
 clear hPP
 have HRd : Hid (l.drop p = c :: r) := hdr
 have hrl : r.length + 1 + p = l.length := by
  have := congrArg List.length hdr
  rw [List.length_drop] at this; simp at this; omega
 obtain ⟨q1, cq1, hwin1, -, hcv1⟩ := hV.piece (p := p) (n := 1) (by omega)
 rw [hdr] at hcv1
 have hwin1 : ∀ w' : World, Sem.run Tryz.prog (Instr.slice 22 (.slice (some ⟨b, o, none⟩) l.length cap) (some (Value.int IntKind.i64 (p : Nat))) (some (Value.int IntKind.i64 ((p : Int) + 1))) none) w' = .ok (.slice q1 1 cq1) w' := hwin1
 have hcv1 : ∀ W' : World, Below w.heap.size w W' → (convert 22 9 (.slice q1 1 cq1)).run Tryz.prog W' = .ok (.string (ba [c])) W' := hcv1
 have hm1 := kind_mark' (r := []) hn1
 obtain ⟨K1, hK1⟩ : ∃ K1, kindS [c] = K1 := ⟨_, rfl⟩
 obtain ⟨T1, hT1⟩ : ∃ T1, ba [c] = T1 := ⟨_, rfl⟩
 have CK1 : Hid (∀ w', Calls Tryz.prog 128 #[.string T1] w' fun e w2 => e = .returned (.int .i64 (K1 : Nat)) ∧ Below w'.heap.size w' w2) := fun w' => by
  have := refKind_any T1 w'
  rwa [← hT1, ba_bytes, hK1, hT1] at this
 rw [hT1] at hcv1
 rw [hK1] at hm1
 have HV1 := Lib.hid hcv1
 have hck := hV.cell hc
 have hp' : (p : Int) < (l.length : Int) := by omega
 obtain ⟨hll, hdd⟩ := cls_other hn1 hn2
 have CL : Hid (∀ w, Calls Tryz.prog 126 #[.int .u8 (c.toNat : Nat)] w fun e w' => e = .returned (.bool false) ∧ w = w') := fun w => by
  have h1 := refLetter_any c w
  rw [hll] at h1; exact h1
 have CD : Hid (∀ w, Calls Tryz.prog 127 #[.int .u8 (c.toNat : Nat)] w fun e w' => e = .returned (.bool false) ∧ w = w') := fun w => by
  have h1 := refDigit_any c w
  rw [hdd] at h1; exact h1
 have e34 : ((c.toNat : Int) == 34) = false := beq_eq_false_iff_ne.2 (fun h => hn3 (UInt8.toNat_inj.1 (show c.toNat = 34 by omega)))
 have HO1 : Hid (¬ (2 ≤ (c :: r).length ∧ kindS ((c :: r).take 2) ≠ 0) → ¬ K1 = 0 → oneS (l.drop p) p = (0, ⟨K1, p, p + 1, 0, []⟩)) := fun h1 h2 => by
  rw [HRd.out]; have := oneS_mark (c := c) (r := r) p hn1 hn2 hn3 h1 (by rw [hK1]; exact h2); rwa [hK1] at this
 have HO0 : Hid (¬ (2 ≤ (c :: r).length ∧ kindS ((c :: r).take 2) ≠ 0) → K1 = 0 → (oneS (l.drop p) p).1 = 61) := fun h1 h2 => by
  rw [HRd.out, oneS_none (c := c) (r := r) p hn1 hn2 hn3 h1 (by rw [hK1]; omega)]
 have HO2 : Hid (2 ≤ (c :: r).length ∧ kindS ((c :: r).take 2) ≠ 0 → oneS (l.drop p) p = (0, ⟨kindS ((c :: r).take 2), p, p + 2, 0, []⟩)) := fun h1 => by
  rw [HRd.out]; exact oneS_two p hn1 hn2 hn3 h1
 have hn1' : ((p : Int) + 1) ≤ (l.length : Int) := by omega
 by_cases hlen : p + 2 ≤ l.length
 ·obtain ⟨q2, cq2, hwin2, -, hcv2⟩ := hV.piece (p := p) (n := 2) hlen
  rw [hdr] at hcv2
  have hwin2 : ∀ w' : World, Sem.run Tryz.prog (Instr.slice 22 (.slice (some ⟨b, o, none⟩) l.length cap) (some (Value.int IntKind.i64 (p : Nat))) (some (Value.int IntKind.i64 ((p : Int) + 2))) none) w' = .ok (.slice q2 2 cq2) w' := hwin2
  have hm2 : kindS ((c :: r).take 2) = 0 ∨ 15 ≤ kindS ((c :: r).take 2) := kind_mark' (r := r.take 1) hn1
  obtain ⟨K2, hK2⟩ : ∃ K2, kindS ((c :: r).take 2) = K2 := ⟨_, rfl⟩
  rw [hK2] at HO1 HO0 HO2 hm2
  obtain ⟨T2, hT2⟩ : ∃ T2, ba ((c :: r).take 2) = T2 := ⟨_, rfl⟩
  have CK2 : Hid (∀ w', Calls Tryz.prog 128 #[.string T2] w' fun e w2 => e = .returned (.int .i64 (K2 : Nat)) ∧ Below w'.heap.size w' w2) := fun w' => by
   have := refKind_any T2 w'
   rwa [← hT2, ba_bytes, hK2, hT2] at this
  rw [hT2] at hcv2
  have HV2 := Lib.hid hcv2
  have h2l : 2 ≤ (c :: r).length := by simp; omega
  have hn2' : ((p : Int) + 2) ≤ (l.length : Int) := by omega
  have HX2 : Hid (¬ K2 = 0 → oneS (l.drop p) p = (0, ⟨K2, p, p + 2, 0, []⟩)) := fun h => HO2.out ⟨h2l, h⟩
  have HX1 : Hid (K2 = 0 → ¬ K1 = 0 → oneS (l.drop p) p = (0, ⟨K1, p, p + 1, 0, []⟩)) := fun h h1 => HO1.out (fun h2 => h2.2 h) h1
  have HX0 : Hid (K2 = 0 → K1 = 0 → (oneS (l.drop p) p).1 = 61) := fun h h1 => HO0.out (fun h2 => h2.2 h) h1
  clear HO0 HO1 HO2 hcv1 hcv2 hdr hc hrr hK1 hK2 hT1 hT2 hn1 hn2 hn3 hll hdd h2l hlen
  go_enter Tryz.func73, Tryz.ntmps73
  go_wp2_with fail
  refine k_calls (fun W => NW w W 0 p 0 0 ⟨#[]⟩ ∧ W.cell? ⟨b, o + p, none⟩ = some (.int .u8 (c.toNat : Nat))) (by exact ⟨NW.start0 w p, ((NW.start0 w p).bel.cell (p := ⟨b, o + p, none⟩) hbl).trans hck⟩) (fun W HN => ?_)
  obtain ⟨HN, hck2⟩ := HN
  have HNh := Lib.hid HN
  have HW1 := HV1.out _ HN.bel
  have HW2 := HV2.out _ HN.bel
  clear HN hck
  refine (CL.out _).mono ?_
  rintro e w2 ⟨rfl, rfl⟩
  go_wp2_with fail
  refine (CD.out _).mono ?_
  rintro e w2 ⟨rfl, rfl⟩
  go_wp2_with fail
  go_loopw [12, 13] (fun n _ wr => ∃ (j : Nat), n = .int .i64 j ∧ Hid (NW w wr 0 p 0 0 ⟨#[]⟩) ∧ (j = 2 ∨ (j = 1 ∧ K2 = 0) ∨ (j = 0 ∧ K2 = 0 ∧ K1 = 0))) (fun n _ _ => (intOf n).toNat)
  case atStart => exact ⟨2, rfl, HNh, .inl rfl⟩
  case round =>
   obtain ⟨j, rfl, HN, hst⟩ := hrel
   have HW1 := HV1.out _ HN.out.bel
   have HW2 := HV2.out _ HN.out.bel
   rcases hst with rfl | ⟨rfl, rfl⟩ | ⟨rfl, rfl, rfl⟩
   ·go_wp2_with fail
    refine (CK2.out _).mono ?_
    rintro e W3 ⟨rfl, hb3⟩
    have HN3 := Lib.hid (HN.out.below hb3)
    have ⟨k0, k1, k2, k3, k4⟩ := HN3.out.cells
    have ⟨r0, r1, r2, r3, r4⟩ := HN3.out.cellR
    have f0 := HN3.out.frozen
    have f0r := HN3.out.frozenR
    rcases hm2 with hm2 | hm2
    ·subst hm2
     clear hb3 HW1 HW2
     go_wp2
     go_roundw
     case rel => exact ⟨1, rfl, HN3, .inr (.inl ⟨rfl, by trivial⟩)⟩
     case measure => simp [intOf]
    ·have HE := Lib.hid (HX2.out (by omega))
     have hm2' : (15 : Int) ≤ (K2 : Int) := by omega
     clear hb3 HW1 HW2
     go_wp2
     refine bodyPost_ret (resR (next_done ((HN3.out.set0 K2 rfl).set2 (p + 2) (by go_num)) _ _ _ _ _).1 rfl _ rfl) rfl ?_
     rw [← HPP.out]
     exact next_ok (t := ⟨K2, p, p + 2, 0, []⟩) HE.out (next_done ((HN3.out.set0 K2 rfl).set2 (p + 2) (by go_num)) _ _ _ _ _).2
   ·go_wp2_with fail
    refine (CK1.out _).mono ?_
    rintro e W3 ⟨rfl, hb3⟩
    have HN3 := Lib.hid (HN.out.below hb3)
    have ⟨k0, k1, k2, k3, k4⟩ := HN3.out.cells
    have ⟨r0, r1, r2, r3, r4⟩ := HN3.out.cellR
    have f0 := HN3.out.frozen
    have f0r := HN3.out.frozenR
    rcases hm1 with hm1 | hm1
    ·subst hm1
     clear hb3 HW1 HW2
     go_wp2
     go_roundw
     case rel => exact ⟨0, rfl, HN3, .inr (.inr ⟨rfl, by trivial, by trivial⟩)⟩
     case measure => simp [intOf]
    ·have HE := Lib.hid (HX1.out (by trivial) (by omega))
     have hm1' : (15 : Int) ≤ (K1 : Int) := by omega
     clear hb3 HW1 HW2
     go_wp2
     refine bodyPost_ret (resR (next_done ((HN3.out.set0 K1 rfl).set2 (p + 1) (by go_num)) _ _ _ _ _).1 rfl _ rfl) rfl ?_
     rw [← HPP.out]
     exact next_ok (t := ⟨K1, p, p + 1, 0, []⟩) HE.out (next_done ((HN3.out.set0 K1 rfl).set2 (p + 1) (by go_num)) _ _ _ _ _).2
   ·have HE := Lib.hid (HX0.out (by trivial) (by trivial))
    have ⟨k0, k1, k2, k3, k4⟩ := HN.out.cells
    have ⟨r0, r1, r2, r3, r4⟩ := HN.out.cellR
    have f0 := HN.out.frozen
    have f0r := HN.out.frozenR
    clear HW1 HW2
    go_wp2
    refine bodyPost_ret (resR (next_done HN.out _ _ _ _ _).1 rfl _ rfl) rfl ?_
    rw [← HPP.out]
    exact next_err (t := ⟨0, p, 0, 0, []⟩) HE.out (by decide) (next_done HN.out _ _ _ _ _).2
 ·have hN : ¬ (2 ≤ (c :: r).length ∧ kindS ((c :: r).take 2) ≠ 0) := fun h => hlen (by have := h.1; simp at this; omega)
  have hn2' : ¬ ((p : Int) + 2) ≤ (l.length : Int) := by omega
  have HX1 : Hid (¬ K1 = 0 → oneS (l.drop p) p = (0, ⟨K1, p, p + 1, 0, []⟩)) := fun h1 => HO1.out hN h1
  have HX0 : Hid (K1 = 0 → (oneS (l.drop p) p).1 = 61) := fun h1 => HO0.out hN h1
  clear HO0 HO1 HO2 hcv1 hdr hc hrr hK1 hT1 hn1 hn2 hn3 hll hdd hlen hN
  go_enter Tryz.func73, Tryz.ntmps73
  go_wp2_with fail
  refine k_calls (fun W => NW w W 0 p 0 0 ⟨#[]⟩ ∧ W.cell? ⟨b, o + p, none⟩ = some (.int .u8 (c.toNat : Nat))) (by exact ⟨NW.start0 w p, ((NW.start0 w p).bel.cell (p := ⟨b, o + p, none⟩) hbl).trans hck⟩) (fun W HN => ?_)
  obtain ⟨HN, hck2⟩ := HN
  have HNh := Lib.hid HN
  clear HN hck
  refine (CL.out _).mono ?_
  rintro e w2 ⟨rfl, rfl⟩
  go_wp2_with fail
  refine (CD.out _).mono ?_
  rintro e w2 ⟨rfl, rfl⟩
  go_wp2_with fail
  go_loopw [12, 13] (fun n _ wr => ∃ (j : Nat), n = .int .i64 j ∧ Hid (NW w wr 0 p 0 0 ⟨#[]⟩) ∧ (j = 2 ∨ j = 1 ∨ (j = 0 ∧ K1 = 0))) (fun n _ _ => (intOf n).toNat)
  case atStart => exact ⟨2, rfl, HNh, .inl rfl⟩
  case round =>
   obtain ⟨j, rfl, HN, hst⟩ := hrel
   have HW1 := HV1.out _ HN.out.bel
   rcases hst with rfl | rfl | ⟨rfl, rfl⟩
   ·go_wp2
    go_roundw
    case rel => exact ⟨1, rfl, HN, .inr (.inl rfl)⟩
    case measure => simp [intOf]
   ·go_wp2_with fail
    refine (CK1.out _).mono ?_
    rintro e W3 ⟨rfl, hb3⟩
    have HN3 := Lib.hid (HN.out.below hb3)
    have ⟨k0, k1, k2, k3, k4⟩ := HN3.out.cells
    have ⟨r0, r1, r2, r3, r4⟩ := HN3.out.cellR
    have f0 := HN3.out.frozen
    have f0r := HN3.out.frozenR
    rcases hm1 with hm1 | hm1
    ·subst hm1
     clear hb3 HW1
     go_wp2
     go_roundw
     case rel => exact ⟨0, rfl, HN3, .inr (.inr ⟨rfl, by trivial⟩)⟩
     case measure => simp [intOf]
    ·have HE := Lib.hid (HX1.out (by omega))
     have hm1' : (15 : Int) ≤ (K1 : Int) := by omega
     clear hb3 HW1
     go_wp2
     refine bodyPost_ret (resR (next_done ((HN3.out.set0 K1 rfl).set2 (p + 1) (by go_num)) _ _ _ _ _).1 rfl _ rfl) rfl ?_
     rw [← HPP.out]
     exact next_ok (t := ⟨K1, p, p + 1, 0, []⟩) HE.out (next_done ((HN3.out.set0 K1 rfl).set2 (p + 1) (by go_num)) _ _ _ _ _).2
   ·have HE := Lib.hid (HX0.out (by trivial))
    have ⟨k0, k1, k2, k3, k4⟩ := HN.out.cells
    have ⟨r0, r1, r2, r3, r4⟩ := HN.out.cellR
    have f0 := HN.out.frozen
    have f0r := HN.out.frozenR
    clear HW1
    go_wp2
    refine bodyPost_ret (resR (next_done HN.out _ _ _ _ _).1 rfl _ rfl) rfl ?_
    rw [← HPP.out]
    exact next_err (t := ⟨0, p, 0, 0, []⟩) HE.out (by decide) (next_done HN.out _ _ _ _ _).2
end Go.Proofs.YtbdllefnghddcaaGreatDoor
