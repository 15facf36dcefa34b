/- THE REFERENCE's one, at a number; one whole. -/
import Derived.Test.YtmbejmhnoeoohaaDoorScanRefOneB
import Derived.Test.YtmbejmhnoeoohaaDoorScanNextB
namespace Go.Proofs.YtmbejmhnoeoohaaDoor
open Go Go.RowKit

theorem numV_at {l : List UInt8} {p k : Nat} {d : UInt8} (hk : p ≤ k) (hd : l[k]? = some d) : numV ((l.drop p).take (k + 1 - p)) = 10 * numV ((l.drop p).take (k - p)) + (d.toNat - 48) := by
  rw [show k + 1 - p = (k - p) + 1 by omega]
  exact numV_take (by rw [List.getElem?_drop, show p + (k - p) = k by omega]; exact hd)

set_option maxRecDepth 100000 in
set_option maxHeartbeats 8000000 in
theorem refOne_num (v : Value) (l : List UInt8) (p : Nat) (c : UInt8) (w : World) (hV : Bs w v l) (hl : l.length ≤ 1048577) (hp : p < l.length) (hc : l[p]? = some c) (hcl : clsS c.toNat = 2) :
    Calls Tryd.prog 25 #[v, .int .i64 (p : Nat)] w (NextPost w l p) := by
  obtain ⟨b, o, cap, rfl, hbl⟩ := hV.form (by omega)
  have hdr := drop_one hc
  obtain ⟨n, hn⟩ : ∃ n, runS digB (l.drop p) = n := ⟨_, rfl⟩
  have hn0 : 0 < n := by rw [← hn, hdr]; exact runS_pos _ _ _ (by simp [digB, hcl])
  have hnl : n ≤ (l.drop p).length := by rw [← hn]; exact runS_le _ _
  rw [List.length_drop] at hnl
  have HO : Hid (oneS (l.drop p) p = (if 18446744073709551615 < numV ((l.drop p).take n) ∨ (c = 48 ∧ 1 < n) then 64 else 0, ⟨2, p, p + n, numV ((l.drop p).take n), []⟩)) := by
    show _ = _
    rw [hdr, oneS_num _ _ hcl, ← hdr, hn]
  obtain ⟨PP, hPP⟩ : ∃ PP, NextPost w l p = PP := ⟨_, rfl⟩
  rw [hPP]
  have HPP := Lib.hid hPP
  clear hPP
  have hck := hV.cell hc
  have hp' : (p : Int) < (l.length : Int) := by omega
  have HCD := Lib.hid (fun c w => refDigit_any c w)
  obtain ⟨hll, hdd⟩ := cls_dl hcl
  have CL : Hid (∀ w, Calls Tryd.prog 39 #[.int .u8 (c.toNat : Nat)] w fun e w' => e = .returned (.bool false) ∧ w = w') := fun w => by
    have h1 := refLetter_any c w
    rw [hll] at h1; exact h1
  have CD : Hid (∀ w, Calls Tryd.prog 40 #[.int .u8 (c.toNat : Nat)] w fun e w' => e = .returned (.bool true) ∧ w = w') := fun w => by
    have h1 := refDigit_any c w
    rw [hdd] at h1; exact h1
  have H0 : Hid (p + n = p + runS digB (l.drop p)) := by show _ = _; rw [hn]
  have HS := Lib.hid (fun k c h => @runS_at' l digB k c h)
  have HNV := Lib.hid (fun k d hk hd => @numV_at l p k d hk hd)
  have HB := Lib.hid hV
  have HC := Lib.hid hc
  clear hdr hcl hc hn hV hll hdd
  go_enter Tryd.func25, Tryd.ntmps25
  go_wp2_with fail
  refine k_calls (fun W => NW w W 0 p 0 0 ⟨#[]⟩ ∧ W.cell? ⟨b, o + p, none⟩ = some (.int .u8 (c.toNat : Nat))) (by exact ⟨NW.start0 w p, ((NW.start0 w p).bel.cell (p := ⟨b, o + p, none⟩) hbl).trans hck⟩) (fun W HN => ?_)
  obtain ⟨HN, hck2⟩ := HN
  have HNh := Lib.hid HN
  clear HN hck
  refine (CL.out _).mono ?_
  rintro e w2 ⟨rfl, rfl⟩
  go_wp2_with fail
  refine (CD.out _).mono ?_
  rintro e w2 ⟨rfl, rfl⟩
  go_wp2_with fail
  go_loopw [7, 8, 9] (fun i bd _ wr => ∃ (k m : Nat) (bad : Bool), p ≤ k ∧ k ≤ p + n ∧ i = .int .i64 (k : Nat) ∧ bd = .bool bad ∧ m ≤ 18446744073709551615 ∧ Hid (p + n = k + runS digB (l.drop k)) ∧ Hid (NW w wr 0 p 0 m ⟨#[]⟩) ∧
    Hid ((bad = true → 18446744073709551615 < numV ((l.drop p).take (k - p))) ∧ (bad = false → m = numV ((l.drop p).take (k - p))))) (fun i _ _ _ => l.length - (intOf i).toNat)
  case atStart => exact ⟨p, 0, false, Nat.le_refl _, by omega, rfl, rfl, by omega, H0, HNh, (fun h => by cases h), fun _ => by rw [Nat.sub_self]; rfl⟩
  case round =>
    obtain ⟨k, m, bad, hk1, hk2, rfl, rfl, hm, HK, HN, HM⟩ := hrel
    have ⟨k0, k1, k2, k3, k4⟩ := HN.out.cells
    have f3 := HN.out.frozen
    by_cases hlt : k < p + n
    · obtain ⟨d, hd⟩ : ∃ d, l[k]? = some d := ⟨_, List.getElem?_eq_getElem (by omega)⟩
      have hdk := (HB.out.below HN.out.bel).cell hd
      have hkl : (k : Int) < (l.length : Int) := by omega
      have hs := HS.out k d hd
      have hdb : digB d = true := by
        have h1 := HK.out
        cases ha : digB d
        · rw [hs, ha, if_neg (by simp)] at h1; omega
        · rfl
      have HN2 : Hid (p + n = (k + 1) + runS digB (l.drop (k + 1))) := by
        show _ = _
        have h1 := HK.out
        rw [hs, if_pos hdb] at h1; omega
      have HV2 := Lib.hid (HNV.out k d hk1 hd)
      obtain ⟨hd1, hd2⟩ := (digB_iff d).1 hdb
      have C1 : Hid (∀ w, Calls Tryd.prog 40 #[.int .u8 (d.toNat : Nat)] w fun e w' => e = .returned (.bool true) ∧ w = w') := fun w => by
        have h1 := HCD.out d w; rw [hdb] at h1; exact h1
      clear hd hs hdb
      generalize d.toNat = x at *
      by_cases ho : 18446744073709551615 < 10 * m + (x - 48)
      · have hgt : (18446744073709551615 - ((x : Int) - 48)) / 10 < (m : Int) := by omega
        have HB2 : Hid (18446744073709551615 < numV ((l.drop p).take (k + 1 - p))) := by
          show _ < _
          rw [HV2.out]
          cases bad
          · have := HM.out.2 rfl; omega
          · have := HM.out.1 rfl; omega
        clear HM HV2 ho
        go_wp2_with fail
        refine (C1.out _).mono ?_
        rintro e w2 ⟨rfl, rfl⟩
        go_wp2
        obtain ⟨m', hm', hle⟩ : ∃ m' : Nat, IntKind.u64.wrap (IntKind.u64.wrap ((m : Int) * 10) + ((x : Int) - 48)) = (m' : Nat) ∧ m' ≤ 18446744073709551615 :=
          ⟨(IntKind.u64.wrap (IntKind.u64.wrap ((m : Int) * 10) + ((x : Int) - 48))).toNat, by rw [IntKind.wrap_u64]; omega, by rw [IntKind.wrap_u64]; omega⟩
        refine ⟨⟨k + 1, m', true, by omega, by omega, by go_num, rfl, hle, HN2, HN.out.set3 m' (by rw [hm']), ⟨fun _ => HB2.out, fun h => by cases h⟩⟩, ?_⟩
        simp [intOf]; omega
      · have hgt : ¬ (18446744073709551615 - ((x : Int) - 48)) / 10 < (m : Int) := by omega
        have HB2 : Hid ((bad = true → 18446744073709551615 < numV ((l.drop p).take (k + 1 - p))) ∧ (bad = false → 10 * m + (x - 48) = numV ((l.drop p).take (k + 1 - p)))) :=
          ⟨fun h => by rw [HV2.out]; have := HM.out.1 h; omega, fun h => by rw [HV2.out]; have := HM.out.2 h; omega⟩
        clear HM HV2
        go_wp2_with fail
        refine (C1.out _).mono ?_
        rintro e w2 ⟨rfl, rfl⟩
        go_wp2
        refine ⟨⟨k + 1, 10 * m + (x - 48), bad, by omega, by omega, by go_num, rfl, by omega, HN2, HN.out.set3 (10 * m + (x - 48)) (by first | go_num | (congr 1; rw [IntKind.wrap_u64, IntKind.wrap_u64]; omega) | (congr 1; omega)), HB2⟩, ?_⟩
        simp [intOf]; omega
    · obtain rfl : k = p + n := by omega
      have hend : p + n = l.length ∨ ∃ d, l[p + n]? = some d ∧ digB d = false := by
        rcases Nat.lt_or_ge (p + n) l.length with h1 | h1
        · have hd := List.getElem?_eq_getElem h1
          have h2 := HK.out
          rw [HS.out _ _ hd] at h2
          refine .inr ⟨_, hd, ?_⟩
          cases ha : digB (l[p + n]'h1)
          · rfl
          · rw [ha, if_pos rfl] at h2; omega
        · exact .inl (by omega)
      have e1 : ((p + n : Nat) : Int) = (p : Int) + (n : Int) := by omega
      rw [e1]
      have ht : p + n - p = n := by omega
      rw [ht] at HM
      have ⟨r0, r1, r2, r3, r4⟩ := HN.out.cellR
      have f0r := HN.out.frozenR
      have hckw : wr.cell? ⟨b, o + p, none⟩ = some (.int .u8 (c.toNat : Nat)) := (HB.out.below HN.out.bel).cell HC.out
      have hwn : IntKind.i64.wrap ((p : Int) + (n : Int) - (p : Int)) = (n : Int) := by rw [show (p : Int) + (n : Int) - (p : Int) = (n : Int) by omega]; exact IntWalk.i64_in _ (by omega)
      have HE : Hid ((oneS (l.drop p) p).1 = 64) ∧ (bad = true ∨ (bad = false ∧ c = 48 ∧ 1 < n)) ∨ Hid (oneS (l.drop p) p = (0, ⟨2, p, p + n, m, []⟩)) ∧ bad = false ∧ ((¬ c = 48) ∨ (c = 48 ∧ ¬ 1 < n)) := by
        cases bad
        · have h1 := HM.out.2 rfl
          by_cases h48 : c = 48 ∧ 1 < n
          · exact .inl ⟨by show _ = _; rw [HO.out, if_pos (.inr h48)], .inr ⟨rfl, h48⟩⟩
          · refine .inr ⟨?_, rfl, ?_⟩
            · show _ = _
              rw [HO.out, if_neg (by rintro (h2 | h2); omega; exact h48 h2), ← h1]
            · by_cases hc : c = 48
              · exact .inr ⟨hc, fun h => h48 ⟨hc, h⟩⟩
              · exact .inl hc
        · exact .inl ⟨by show _ = _; rw [HO.out, if_pos (.inl (HM.out.1 rfl))], .inl rfl⟩
      clear HM ht e1 hm
      rcases hend with hend | ⟨d, hd, hd2⟩
      · have hkl : ¬ ((p : Int) + (n : Int)) < (l.length : Int) := by omega
        have hkk : True := trivial
        clear hend
        rcases HE with ⟨HE, rfl | ⟨rfl, h48, h1n⟩⟩ | ⟨HE, rfl, h48 | ⟨h48, h1n⟩⟩
        · clear hkk
          go_wp2
          refine bodyPost_ret (resR (next_done ((HN.out.set2 (p + n) (by go_num)).set0 2 rfl) _ _ _ _ _).1 rfl _ rfl) rfl ?_
          rw [← HPP.out]
          exact next_err (t := ⟨2, p, p + n, m, []⟩) HE.out (by decide) (next_done ((HN.out.set2 (p + n) (by go_num)).set0 2 rfl) _ _ _ _ _).2
        · have e48 : ((c.toNat : Int) == 48) = true := by rw [h48]; decide
          have h1n' : (1 : Int) < (n : Int) := by omega
          clear h48 hkk
          go_wp2
          refine bodyPost_ret (resR (next_done ((HN.out.set2 (p + n) (by go_num)).set0 2 rfl) _ _ _ _ _).1 rfl _ rfl) rfl ?_
          rw [← HPP.out]
          exact next_err (t := ⟨2, p, p + n, m, []⟩) HE.out (by decide) (next_done ((HN.out.set2 (p + n) (by go_num)).set0 2 rfl) _ _ _ _ _).2
        · have e48 : ((c.toNat : Int) == 48) = false := beq_eq_false_iff_ne.2 (fun h => h48 (UInt8.toNat_inj.1 (show c.toNat = 48 by omega)))
          clear h48 hkk
          go_wp2
          refine bodyPost_ret (resR (next_done ((HN.out.set2 (p + n) (by go_num)).set0 2 rfl) _ _ _ _ _).1 rfl _ rfl) rfl ?_
          rw [← HPP.out]
          exact next_ok (t := ⟨2, p, p + n, m, []⟩) HE.out (next_done ((HN.out.set2 (p + n) (by go_num)).set0 2 rfl) _ _ _ _ _).2
        · have e48 : ((c.toNat : Int) == 48) = true := by rw [h48]; decide
          have h1n' : ¬ (1 : Int) < (n : Int) := by omega
          clear h48 hkk
          go_wp2
          refine bodyPost_ret (resR (next_done ((HN.out.set2 (p + n) (by go_num)).set0 2 rfl) _ _ _ _ _).1 rfl _ rfl) rfl ?_
          rw [← HPP.out]
          exact next_ok (t := ⟨2, p, p + n, m, []⟩) HE.out (next_done ((HN.out.set2 (p + n) (by go_num)).set0 2 rfl) _ _ _ _ _).2
      · have hkl : ((p : Int) + (n : Int)) < (l.length : Int) := by have := (List.getElem?_eq_some_iff.1 hd).1; omega
        have hdk := (HB.out.below HN.out.bel).cell hd
        have C1 : Hid (∀ w, Calls Tryd.prog 40 #[.int .u8 (d.toNat : Nat)] w fun e w' => e = .returned (.bool false) ∧ w = w') := fun w => by
          have h1 := HCD.out d w; rw [hd2] at h1; exact h1
        have hz1 : (0 : Int) ≤ (p : Int) + (n : Int) := by omega
        have hz3 : ((p : Int) + (n : Int)).toNat = p + n := by omega
        have hkk : True := trivial
        clear hd hd2
        rcases HE with ⟨HE, rfl | ⟨rfl, h48, h1n⟩⟩ | ⟨HE, rfl, h48 | ⟨h48, h1n⟩⟩
        · clear hkk
          go_wp2_with fail
          refine (C1.out _).mono ?_
          rintro e w2 ⟨rfl, rfl⟩
          go_wp2
          refine bodyPost_ret (resR (next_done ((HN.out.set2 (p + n) (by go_num)).set0 2 rfl) _ _ _ _ _).1 rfl _ rfl) rfl ?_
          rw [← HPP.out]
          exact next_err (t := ⟨2, p, p + n, m, []⟩) HE.out (by decide) (next_done ((HN.out.set2 (p + n) (by go_num)).set0 2 rfl) _ _ _ _ _).2
        · have e48 : ((c.toNat : Int) == 48) = true := by rw [h48]; decide
          have h1n' : (1 : Int) < (n : Int) := by omega
          clear h48 hkk
          go_wp2_with fail
          refine (C1.out _).mono ?_
          rintro e w2 ⟨rfl, rfl⟩
          go_wp2
          refine bodyPost_ret (resR (next_done ((HN.out.set2 (p + n) (by go_num)).set0 2 rfl) _ _ _ _ _).1 rfl _ rfl) rfl ?_
          rw [← HPP.out]
          exact next_err (t := ⟨2, p, p + n, m, []⟩) HE.out (by decide) (next_done ((HN.out.set2 (p + n) (by go_num)).set0 2 rfl) _ _ _ _ _).2
        · have e48 : ((c.toNat : Int) == 48) = false := beq_eq_false_iff_ne.2 (fun h => h48 (UInt8.toNat_inj.1 (show c.toNat = 48 by omega)))
          clear h48 hkk
          go_wp2_with fail
          refine (C1.out _).mono ?_
          rintro e w2 ⟨rfl, rfl⟩
          go_wp2
          refine bodyPost_ret (resR (next_done ((HN.out.set2 (p + n) (by go_num)).set0 2 rfl) _ _ _ _ _).1 rfl _ rfl) rfl ?_
          rw [← HPP.out]
          exact next_ok (t := ⟨2, p, p + n, m, []⟩) HE.out (next_done ((HN.out.set2 (p + n) (by go_num)).set0 2 rfl) _ _ _ _ _).2
        · have e48 : ((c.toNat : Int) == 48) = true := by rw [h48]; decide
          have h1n' : ¬ (1 : Int) < (n : Int) := by omega
          clear h48 hkk
          go_wp2_with fail
          refine (C1.out _).mono ?_
          rintro e w2 ⟨rfl, rfl⟩
          go_wp2
          refine bodyPost_ret (resR (next_done ((HN.out.set2 (p + n) (by go_num)).set0 2 rfl) _ _ _ _ _).1 rfl _ rfl) rfl ?_
          rw [← HPP.out]
          exact next_ok (t := ⟨2, p, p + n, m, []⟩) HE.out (next_done ((HN.out.set2 (p + n) (by go_num)).set0 2 rfl) _ _ _ _ _).2
/-- the token that begins at a place -/
theorem refOne_any (v : Value) (l : List UInt8) (p : Nat) (w : World) (hV : Bs w v l) (hl : l.length ≤ 1048577) (hp : p < l.length) :
    Calls Tryd.prog 25 #[v, .int .i64 (p : Nat)] w (NextPost w l p) := by
  obtain ⟨c, hc⟩ : ∃ c, l[p]? = some c := ⟨_, List.getElem?_eq_getElem hp⟩
  by_cases h1 : clsS c.toNat = 1
  · exact refOne_word v l p c w hV hl hp hc h1
  · by_cases h2 : clsS c.toNat = 2
    · exact refOne_num v l p c w hV hl hp hc h2
    · by_cases h3 : c = 34
      · subst h3; exact refOne_text v l p w hV hl hp hc
      · exact refOne_mark v l p c w hV hl hp hc h1 h2 h3
end Go.Proofs.YtmbejmhnoeoohaaDoor
