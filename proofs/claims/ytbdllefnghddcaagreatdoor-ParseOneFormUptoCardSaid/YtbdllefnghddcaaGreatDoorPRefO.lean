/- THE REFERENCE's one, at a number; one whole. THE REFERENCE's Scan. -/
import Derived.Test.YtbdllefnghddcaaGreatDoorScanRefOneB
import Derived.Test.YtbdllefnghddcaaGreatDoorScanNextB
import Derived.Test.YtbdllefnghddcaaGreatDoorScanScanB
namespace Go.Proofs.YtbdllefnghddcaaGreatDoor
section
open Go Go.RowKit

theorem numV_at {l : List UInt8} {p k : Nat} {d : UInt8} (hk : p ≤ k) (hd : l[k]? = some d) : numV ((l.drop p).take (k + 1 - p)) = 10 * numV ((l.drop p).take (k - p)) + (d.toNat - 48) := by
 rw [show k + 1 - p = (k - p) + 1 by omega]
 exact numV_take (by rw [List.getElem?_drop, show p + (k - p) = k by omega]; exact hd)

set_option maxRecDepth 100000 in
set_option maxHeartbeats 8000000 in
theorem refOne_num (v : Value) (l : List UInt8) (p : Nat) (c : UInt8) (w : World) (hV : Bs w v l) (hl : l.length ≤ 1048577) (hp : p < l.length) (hc : l[p]? = some c) (hcl : clsS c.toNat = 2) :
  Calls Tryz.prog 73 #[v, .int .i64 (p : Nat)] w (NextPost w l p) := by
 obtain ⟨b, o, cap, rfl, hbl⟩ := hV.form (by omega)
 have hdr := drop_one hc
 obtain ⟨n, hn⟩ : ∃ n, runS digB (l.drop p) = n := ⟨_, rfl⟩
 have hn0 : 0 < n := by rw [← hn, hdr]; exact runS_pos _ _ _ (by simp [digB, hcl])
 have hnl : n ≤ (l.drop p).length := by rw [← hn]; exact runS_le _ _
 rw [List.length_drop] at hnl
 have HO : Hid (oneS (l.drop p) p = (if 18446744073709551615 < numV ((l.drop p).take n) ∨ (c = 48 ∧ 1 < n) then 64 else 0, ⟨2, p, p + n, numV ((l.drop p).take n), []⟩)) := by
  show _ = _
  rw [hdr, oneS_num _ _ hcl, ← hdr, hn]
 obtain ⟨PP, hPP⟩ : ∃ PP, NextPost w l p = PP := ⟨_, rfl⟩
 rw [hPP]
 have HPP := Lib.hid hPP
 clear hPP
 have hck := hV.cell hc
 have hp' : (p : Int) < (l.length : Int) := by omega
 have HCD := Lib.hid (fun c w => refDigit_any c w)
 obtain ⟨hll, hdd⟩ := cls_dl hcl
 have CL : Hid (∀ w, Calls Tryz.prog 126 #[.int .u8 (c.toNat : Nat)] w fun e w' => e = .returned (.bool false) ∧ w = w') := fun w => by
  have h1 := refLetter_any c w
  rw [hll] at h1; exact h1
 have CD : Hid (∀ w, Calls Tryz.prog 127 #[.int .u8 (c.toNat : Nat)] w fun e w' => e = .returned (.bool true) ∧ w = w') := fun w => by
  have h1 := refDigit_any c w
  rw [hdd] at h1; exact h1
 have H0 : Hid (p + n = p + runS digB (l.drop p)) := by show _ = _; rw [hn]
 have HS := Lib.hid (fun k c h => @runS_at' l digB k c h)
 have HNV := Lib.hid (fun k d hk hd => @numV_at l p k d hk hd)
 have HB := Lib.hid hV
 have HC := Lib.hid hc
 clear hdr hcl hc hn hV hll hdd
 go_enter Tryz.func73, Tryz.ntmps73
 go_wp2_with fail
 refine k_calls (fun W => NW w W 0 p 0 0 ⟨#[]⟩ ∧ W.cell? ⟨b, o + p, none⟩ = some (.int .u8 (c.toNat : Nat))) (by exact ⟨NW.start0 w p, ((NW.start0 w p).bel.cell (p := ⟨b, o + p, none⟩) hbl).trans hck⟩) (fun W HN => ?_)
 obtain ⟨HN, hck2⟩ := HN
 have HNh := Lib.hid HN
 clear HN hck
 refine (CL.out _).mono ?_
 rintro e w2 ⟨rfl, rfl⟩
 go_wp2_with fail
 refine (CD.out _).mono ?_
 rintro e w2 ⟨rfl, rfl⟩
 go_wp2_with fail
 go_loopw [7, 8, 9] (fun i bd _ wr => ∃ (k m : Nat) (bad : Bool), p ≤ k ∧ k ≤ p + n ∧ i = .int .i64 (k : Nat) ∧ bd = .bool bad ∧ m ≤ 18446744073709551615 ∧ Hid (p + n = k + runS digB (l.drop k)) ∧ Hid (NW w wr 0 p 0 m ⟨#[]⟩) ∧
  Hid ((bad = true → 18446744073709551615 < numV ((l.drop p).take (k - p))) ∧ (bad = false → m = numV ((l.drop p).take (k - p))))) (fun i _ _ _ => l.length - (intOf i).toNat)
 case atStart => exact ⟨p, 0, false, Nat.le_refl _, by omega, rfl, rfl, by omega, H0, HNh, (fun h => by cases h), fun _ => by rw [Nat.sub_self]; rfl⟩
 case round =>
  obtain ⟨k, m, bad, hk1, hk2, rfl, rfl, hm, HK, HN, HM⟩ := hrel
  have ⟨k0, k1, k2, k3, k4⟩ := HN.out.cells
  have f3 := HN.out.frozen
  by_cases hlt : k < p + n
  ·obtain ⟨d, hd⟩ : ∃ d, l[k]? = some d := ⟨_, List.getElem?_eq_getElem (by omega)⟩
   have hdk := (HB.out.below HN.out.bel).cell hd
   have hkl : (k : Int) < (l.length : Int) := by omega
   have hs := HS.out k d hd
   have hdb : digB d = true := by
    have h1 := HK.out
    cases ha : digB d
    ·rw [hs, ha, if_neg (by simp)] at h1; omega
    ·rfl
   have HN2 : Hid (p + n = (k + 1) + runS digB (l.drop (k + 1))) := by
    show _ = _
    have h1 := HK.out
    rw [hs, if_pos hdb] at h1; omega
   have HV2 := Lib.hid (HNV.out k d hk1 hd)
   obtain ⟨hd1, hd2⟩ := (digB_iff d).1 hdb
   have C1 : Hid (∀ w, Calls Tryz.prog 127 #[.int .u8 (d.toNat : Nat)] w fun e w' => e = .returned (.bool true) ∧ w = w') := fun w => by
    have h1 := HCD.out d w; rw [hdb] at h1; exact h1
   clear hd hs hdb
   generalize d.toNat = x at *
   by_cases ho : 18446744073709551615 < 10 * m + (x - 48)
   ·have hgt : (18446744073709551615 - ((x : Int) - 48)) / 10 < (m : Int) := by omega
    have HB2 : Hid (18446744073709551615 < numV ((l.drop p).take (k + 1 - p))) := by
     show _ < _
     rw [HV2.out]
     cases bad
     ·have := HM.out.2 rfl; omega
     ·have := HM.out.1 rfl; omega
    clear HM HV2 ho
    go_wp2_with fail
    refine (C1.out _).mono ?_
    rintro e w2 ⟨rfl, rfl⟩
    go_wp2
    obtain ⟨m', hm', hle⟩ : ∃ m' : Nat, IntKind.u64.wrap (IntKind.u64.wrap ((m : Int) * 10) + ((x : Int) - 48)) = (m' : Nat) ∧ m' ≤ 18446744073709551615 :=
     ⟨(IntKind.u64.wrap (IntKind.u64.wrap ((m : Int) * 10) + ((x : Int) - 48))).toNat, by rw [IntKind.wrap_u64]; omega, by rw [IntKind.wrap_u64]; omega⟩
    refine ⟨⟨k + 1, m', true, by omega, by omega, by go_num, rfl, hle, HN2, HN.out.set3 m' (by rw [hm']), ⟨fun _ => HB2.out, fun h => by cases h⟩⟩, ?_⟩
    simp [intOf]; omega
   ·have hgt : ¬ (18446744073709551615 - ((x : Int) - 48)) / 10 < (m : Int) := by omega
    have HB2 : Hid ((bad = true → 18446744073709551615 < numV ((l.drop p).take (k + 1 - p))) ∧ (bad = false → 10 * m + (x - 48) = numV ((l.drop p).take (k + 1 - p)))) :=
     ⟨fun h => by rw [HV2.out]; have := HM.out.1 h; omega, fun h => by rw [HV2.out]; have := HM.out.2 h; omega⟩
    clear HM HV2
    go_wp2_with fail
    refine (C1.out _).mono ?_
    rintro e w2 ⟨rfl, rfl⟩
    go_wp2
    refine ⟨⟨k + 1, 10 * m + (x - 48), bad, by omega, by omega, by go_num, rfl, by omega, HN2, HN.out.set3 (10 * m + (x - 48)) (by first | go_num | (congr 1; rw [IntKind.wrap_u64, IntKind.wrap_u64]; omega) | (congr 1; omega)), HB2⟩, ?_⟩
    simp [intOf]; omega
  ·obtain rfl : k = p + n := by omega
   have hend : p + n = l.length ∨ ∃ d, l[p + n]? = some d ∧ digB d = false := by
    rcases Nat.lt_or_ge (p + n) l.length with h1 | h1
    ·have hd := List.getElem?_eq_getElem h1
     have h2 := HK.out
     rw [HS.out _ _ hd] at h2
     refine .inr ⟨_, hd, ?_⟩
     cases ha : digB (l[p + n]'h1)
     ·rfl
     ·rw [ha, if_pos rfl] at h2; omega
    ·exact .inl (by omega)
   have e1 : ((p + n : Nat) : Int) = (p : Int) + (n : Int) := by omega
   rw [e1]
   have ht : p + n - p = n := by omega
   rw [ht] at HM
   have ⟨r0, r1, r2, r3, r4⟩ := HN.out.cellR
   have f0r := HN.out.frozenR
   have hckw : wr.cell? ⟨b, o + p, none⟩ = some (.int .u8 (c.toNat : Nat)) := (HB.out.below HN.out.bel).cell HC.out
   have hwn : IntKind.i64.wrap ((p : Int) + (n : Int) - (p : Int)) = (n : Int) := by rw [show (p : Int) + (n : Int) - (p : Int) = (n : Int) by omega]; exact IntWalk.i64_in _ (by omega)
   have HE : Hid ((oneS (l.drop p) p).1 = 64) ∧ (bad = true ∨ (bad = false ∧ c = 48 ∧ 1 < n)) ∨ Hid (oneS (l.drop p) p = (0, ⟨2, p, p + n, m, []⟩)) ∧ bad = false ∧ ((¬ c = 48) ∨ (c = 48 ∧ ¬ 1 < n)) := by
    cases bad
    ·have h1 := HM.out.2 rfl
     by_cases h48 : c = 48 ∧ 1 < n
     ·exact .inl ⟨by show _ = _; rw [HO.out, if_pos (.inr h48)], .inr ⟨rfl, h48⟩⟩
     ·refine .inr ⟨?_, rfl, ?_⟩
      ·show _ = _
       rw [HO.out, if_neg (by rintro (h2 | h2); omega; exact h48 h2), ← h1]
      ·by_cases hc : c = 48
       ·exact .inr ⟨hc, fun h => h48 ⟨hc, h⟩⟩
       ·exact .inl hc
    ·exact .inl ⟨by show _ = _; rw [HO.out, if_pos (.inl (HM.out.1 rfl))], .inl rfl⟩
   clear HM ht e1 hm
   rcases hend with hend | ⟨d, hd, hd2⟩
   ·have hkl : ¬ ((p : Int) + (n : Int)) < (l.length : Int) := by omega
    have hkk : True := trivial
    clear hend
    rcases HE with ⟨HE, rfl | ⟨rfl, h48, h1n⟩⟩ | ⟨HE, rfl, h48 | ⟨h48, h1n⟩⟩
    ·clear hkk
     go_wp2
     refine bodyPost_ret (resR (next_done ((HN.out.set2 (p + n) (by go_num)).set0 2 rfl) _ _ _ _ _).1 rfl _ rfl) rfl ?_
     rw [← HPP.out]
     exact next_err (t := ⟨2, p, p + n, m, []⟩) HE.out (by decide) (next_done ((HN.out.set2 (p + n) (by go_num)).set0 2 rfl) _ _ _ _ _).2
    ·have e48 : ((c.toNat : Int) == 48) = true := by rw [h48]; decide
     have h1n' : (1 : Int) < (n : Int) := by omega
     clear h48 hkk
     go_wp2
     refine bodyPost_ret (resR (next_done ((HN.out.set2 (p + n) (by go_num)).set0 2 rfl) _ _ _ _ _).1 rfl _ rfl) rfl ?_
     rw [← HPP.out]
     exact next_err (t := ⟨2, p, p + n, m, []⟩) HE.out (by decide) (next_done ((HN.out.set2 (p + n) (by go_num)).set0 2 rfl) _ _ _ _ _).2
    ·have e48 : ((c.toNat : Int) == 48) = false := beq_eq_false_iff_ne.2 (fun h => h48 (UInt8.toNat_inj.1 (show c.toNat = 48 by omega)))
     clear h48 hkk
     go_wp2
     refine bodyPost_ret (resR (next_done ((HN.out.set2 (p + n) (by go_num)).set0 2 rfl) _ _ _ _ _).1 rfl _ rfl) rfl ?_
     rw [← HPP.out]
     exact next_ok (t := ⟨2, p, p + n, m, []⟩) HE.out (next_done ((HN.out.set2 (p + n) (by go_num)).set0 2 rfl) _ _ _ _ _).2
    ·have e48 : ((c.toNat : Int) == 48) = true := by rw [h48]; decide
     have h1n' : ¬ (1 : Int) < (n : Int) := by omega
     clear h48 hkk
     go_wp2
     refine bodyPost_ret (resR (next_done ((HN.out.set2 (p + n) (by go_num)).set0 2 rfl) _ _ _ _ _).1 rfl _ rfl) rfl ?_
     rw [← HPP.out]
     exact next_ok (t := ⟨2, p, p + n, m, []⟩) HE.out (next_done ((HN.out.set2 (p + n) (by go_num)).set0 2 rfl) _ _ _ _ _).2
   ·have hkl : ((p : Int) + (n : Int)) < (l.length : Int) := by have := (List.getElem?_eq_some_iff.1 hd).1; omega
    have hdk := (HB.out.below HN.out.bel).cell hd
    have C1 : Hid (∀ w, Calls Tryz.prog 127 #[.int .u8 (d.toNat : Nat)] w fun e w' => e = .returned (.bool false) ∧ w = w') := fun w => by
     have h1 := HCD.out d w; rw [hd2] at h1; exact h1
    have hz1 : (0 : Int) ≤ (p : Int) + (n : Int) := by omega
    have hz3 : ((p : Int) + (n : Int)).toNat = p + n := by omega
    have hkk : True := trivial
    clear hd hd2
    rcases HE with ⟨HE, rfl | ⟨rfl, h48, h1n⟩⟩ | ⟨HE, rfl, h48 | ⟨h48, h1n⟩⟩
    ·clear hkk
     go_wp2_with fail
     refine (C1.out _).mono ?_
     rintro e w2 ⟨rfl, rfl⟩
     go_wp2
     refine bodyPost_ret (resR (next_done ((HN.out.set2 (p + n) (by go_num)).set0 2 rfl) _ _ _ _ _).1 rfl _ rfl) rfl ?_
     rw [← HPP.out]
     exact next_err (t := ⟨2, p, p + n, m, []⟩) HE.out (by decide) (next_done ((HN.out.set2 (p + n) (by go_num)).set0 2 rfl) _ _ _ _ _).2
    ·have e48 : ((c.toNat : Int) == 48) = true := by rw [h48]; decide
     have h1n' : (1 : Int) < (n : Int) := by omega
     clear h48 hkk
     go_wp2_with fail
     refine (C1.out _).mono ?_
     rintro e w2 ⟨rfl, rfl⟩
     go_wp2
     refine bodyPost_ret (resR (next_done ((HN.out.set2 (p + n) (by go_num)).set0 2 rfl) _ _ _ _ _).1 rfl _ rfl) rfl ?_
     rw [← HPP.out]
     exact next_err (t := ⟨2, p, p + n, m, []⟩) HE.out (by decide) (next_done ((HN.out.set2 (p + n) (by go_num)).set0 2 rfl) _ _ _ _ _).2
    ·have e48 : ((c.toNat : Int) == 48) = false := beq_eq_false_iff_ne.2 (fun h => h48 (UInt8.toNat_inj.1 (show c.toNat = 48 by omega)))
     clear h48 hkk
     go_wp2_with fail
     refine (C1.out _).mono ?_
     rintro e w2 ⟨rfl, rfl⟩
     go_wp2
     refine bodyPost_ret (resR (next_done ((HN.out.set2 (p + n) (by go_num)).set0 2 rfl) _ _ _ _ _).1 rfl _ rfl) rfl ?_
     rw [← HPP.out]
     exact next_ok (t := ⟨2, p, p + n, m, []⟩) HE.out (next_done ((HN.out.set2 (p + n) (by go_num)).set0 2 rfl) _ _ _ _ _).2
    ·have e48 : ((c.toNat : Int) == 48) = true := by rw [h48]; decide
     have h1n' : ¬ (1 : Int) < (n : Int) := by omega
     clear h48 hkk
     go_wp2_with fail
     refine (C1.out _).mono ?_
     rintro e w2 ⟨rfl, rfl⟩
     go_wp2
     refine bodyPost_ret (resR (next_done ((HN.out.set2 (p + n) (by go_num)).set0 2 rfl) _ _ _ _ _).1 rfl _ rfl) rfl ?_
     rw [← HPP.out]
     exact next_ok (t := ⟨2, p, p + n, m, []⟩) HE.out (next_done ((HN.out.set2 (p + n) (by go_num)).set0 2 rfl) _ _ _ _ _).2
theorem refOne_any (v : Value) (l : List UInt8) (p : Nat) (w : World) (hV : Bs w v l) (hl : l.length ≤ 1048577) (hp : p < l.length) :
  Calls Tryz.prog 73 #[v, .int .i64 (p : Nat)] w (NextPost w l p) := by
 obtain ⟨c, hc⟩ : ∃ c, l[p]? = some c := ⟨_, List.getElem?_eq_getElem hp⟩
 by_cases h1 : clsS c.toNat = 1
 ·exact refOne_word v l p c w hV hl hp hc h1
 ·by_cases h2 : clsS c.toNat = 2
  ·exact refOne_num v l p c w hV hl hp hc h2
  ·by_cases h3 : c = 34
   ·subst h3; exact refOne_text v l p w hV hl hp hc
   ·exact refOne_mark v l p c w hV hl hp hc h1 h2 h3
end
section
open Go Go.RowKit

def RScanPost (w : World) (r : Got) (e : Ending) (w' : World) : Prop := Below w.heap.size w w' ∧ match r with
 | .toks ts => ∃ v, e = .returned (.tuple #[v, .int .i64 0, .int .i64 0]) ∧ Tks w' v ts
 | .bad p k => e = .returned (.tuple #[.slice none 0 0, .int .i64 (p : Nat), .int .i64 (k : Nat)])
theorem rscan_bad {w w' : World} {r : Got} {p k : Nat} (hr : r = .bad p k) (hb : Below w.heap.size w w') : RScanPost w r (.returned (.tuple #[.slice none 0 0, .int .i64 (p : Nat), .int .i64 (k : Nat)])) w' := by subst hr; exact ⟨hb, rfl⟩
theorem rscan_toks {w w' : World} {r : Got} {ts : List Tok} {v : Value} (hr : r = .toks ts) (hb : Below w.heap.size w w') (hv : Tks w' v ts) : RScanPost w r (.returned (.tuple #[v, .int .i64 0, .int .i64 0])) w' := by subst hr; exact ⟨hb, v, rfl, hv⟩

theorem resS (W : World) (tmps : Array Value) : (results Tryz.f33 tmps).run Tryz.prog W = .ok (.tuple #[tmps.getD 2 undef, tmps.getD 3 undef, tmps.getD 4 undef]) W := by
 simp [results, Tryz.results33]

set_option maxRecDepth 100000 in
set_option maxHeartbeats 16000000 in
theorem refScan_any (v : Value) (l : List UInt8) (w : World) (hV : Bs w v l) (hl : l.length ≤ 1048577) :
  Calls Tryz.prog 33 #[v] w (RScanPost w (scanS l)) := by
 obtain ⟨i0, hi, hz0, hz1, hz2⟩ := info_parts info_token
 have HV := Lib.hid hV
 obtain ⟨pv, cap, rfl, hcap, hm, -⟩ := id hV
 clear hV
 obtain ⟨PP, hPP⟩ : ∃ PP, RScanPost w (scanS l) = PP := ⟨_, rfl⟩
 rw [hPP]
 have HPP := Lib.hid hPP
 clear hPP
 by_cases hlong : 65536 < l.length
 ·have HN : Hid (scanS l = .bad 0 60) := by show _ = _; unfold scanS; rw [if_pos hlong]
  have hlong' : (65536 : Int) < (l.length : Int) := by omega
  go_enter Tryz.func33, Tryz.ntmps33
  go_wp2
  refine bodyPost_ret (resS _ _) rfl ?_
  rw [← HPP.out]
  exact rscan_bad HN.out (Below.refl _ _)
 ·have HN : Hid (scanS l = scanAt l 0 16384) := by show _ = _; unfold scanS; rw [if_neg hlong]
  have hlong' : ¬ (65536 : Int) < (l.length : Int) := by omega
  have HA0 : Hid (ScAt l 0 []) := ⟨by omega, by simp, by
   show scanAt l 0 16384 = appS [] (scanAt (l.drop 0) 0 16384)
   rw [List.drop_zero]; cases scanAt l 0 16384 <;> rfl⟩
  clear hlong
  go_enter Tryz.func33, Tryz.ntmps33
  go_wp2
  go_loopw [5, 6, 7, 8, 9] (fun v5 i _ _ _ wr => ∃ (ts : List Tok) (p : Nat), i = .int .i64 (p : Nat) ∧ Hid (Below w.heap.size w wr) ∧ Hid (ScAt l p ts) ∧ Hid (wr.ownsRow w.heap.size 114 5 v5 ts.length (tcs ts)))
   (fun _ i _ _ _ _ => l.length - (intOf i).toNat)
  case atStart => exact ⟨[], 0, rfl, Below.refl _ _, HA0, World.ownsRow_nil _ _ _ _⟩
  case round =>
   obtain ⟨ts, p, rfl, HB, HA, HO⟩ := hrel
   obtain ⟨pA, cA, rfl, -⟩ := Tks.of_own HO.out
   have hpl := HA.out.1
   by_cases hlt : p < l.length
   ·have hlt' : (p : Int) < (l.length : Int) := by omega
    have CS : Hid (∀ w', Below w.heap.size w w' → Calls Tryz.prog 72 #[.slice pv l.length cap, .int .i64 (p : Nat)] w' fun e w2 => e = .returned (.int .i64 (skI p (skipN (l.drop p)))) ∧ w' = w2) := fun w' hb => refSkip_any _ l p w' (HV.out.below hb) hl hlt
    cases hsk : skipN (l.drop p) with
    | none =>
     have HR := Lib.hid (HN.out.trans (scAt_open HA.out hlt hsk))
     rw [hsk] at CS
     clear hsk
     go_wp2_with fail
     refine (CS.out _ HB.out).mono ?_
     rintro e w2 ⟨rfl, rfl⟩
     simp only [skI]
     go_wp2
     refine bodyPost_ret (resS _ _) rfl ?_
     rw [← HPP.out]
     exact rscan_bad HR.out HB.out
    | some n =>
     have hnl := skipN_le hsk
     rw [List.length_drop] at hnl
     rw [hsk] at CS
     have e1 : ((p + n : Nat) : Int) = (p : Int) + (n : Int) := by omega
     have g0 : ¬ ((p : Int) + (n : Int)) < 0 := by omega
     by_cases hn0 : 0 < n
     ·have HA2 := Lib.hid (scAt_skip HA.out (p1 := p + n) (by omega) (fun r => by rw [scanAt_skip p r hsk hn0, List.drop_drop]))
      have g1 : (p : Int) < ((p : Int) + (n : Int)) := by omega
      clear hsk
      go_wp2_with fail
      refine (CS.out _ HB.out).mono ?_
      rintro e w2 ⟨rfl, rfl⟩
      simp only [skI, e1]
      go_wp2
      go_roundw
      case rel => exact ⟨ts, p + n, by go_num, HB, HA2, HO⟩
      case measure => simp [intOf]; omega
     ·obtain rfl : n = 0 := by omega
      obtain ⟨q1, q2, q3, q4⟩ := scAt_tok HA.out hlt hsk
      have CN := Lib.hid (fun w' hb => refOne_any _ l p w' (HV.out.below hb) hl hlt)
      obtain ⟨E, hE⟩ : ∃ E, (oneS (l.drop p) p).1 = E := ⟨_, rfl⟩
      obtain ⟨T, hT⟩ : ∃ T, (oneS (l.drop p) p).2 = T := ⟨_, rfl⟩
      rw [hE] at q1 q2 q3 q4
      rw [hT] at q4
      have Q1 := Lib.hid q1
      have Q2 := Lib.hid q2
      have Q3 := Lib.hid q3
      have Q4 := Lib.hid q4
      have HEe := Lib.hid hE
      have HTe := Lib.hid hT
      clear q1 q2 q3 q4 hE hT hsk e1 g0 hn0 hnl
      go_wp2_with fail
      refine (CS.out _ HB.out).mono ?_
      rintro e w2 ⟨rfl, rfl⟩
      simp only [skI, Nat.add_zero]
      go_wp2_with fail
      refine (CN.out _ HB.out).mono ?_
      rintro e w3 ⟨tk, rfl, htk, hb3⟩
      rw [HEe.out] at htk ⊢
      rw [HTe.out] at htk
      have HTK := Lib.hid htk
      clear htk
      obtain ⟨tk1, tk2, tk3, tk4, tk5⟩ := tk
      have HB3 := Lib.hid (HB.out.trans (hb3.mono HB.out.size))
      have HB4 : Hid (Below w.heap.size w (w3.alloc (.cells (tc ⟨tk1, tk2, tk3, tk4, tk5⟩).toArray 114))) := HB3.out.alloc HB3.out.size _
      simp only [tokV]
      by_cases hE61 : E = 61
      ·subst hE61
       have HR := Lib.hid (HN.out.trans (Q1.out rfl))
       go_wp2
       refine bodyPost_ret (resS _ _) rfl ?_
       rw [← HPP.out]
       exact rscan_bad HR.out HB4.out
      ·have hE61' : ((E : Int) == 61) = false := beq_eq_false_iff_ne.2 (by omega)
       by_cases hfull : ts.length = 16384
       ·have HR := Lib.hid (HN.out.trans (Q2.out hE61 hfull))
        have hfull' : ((ts.length : Int) == 16384) = true := beq_iff_eq.2 (by omega)
        clear hfull
        go_wp2
        refine bodyPost_ret (resS _ _) rfl ?_
        rw [← HPP.out]
        exact rscan_bad HR.out HB4.out
       ·have hfull' : ((ts.length : Int) == 16384) = false := beq_eq_false_iff_ne.2 (by omega)
        by_cases hE0 : E = 0
        ·subst hE0
         obtain ⟨hst, HA3⟩ := Q4.out rfl hfull
         have htke := HTK.out rfl
         subst htke
         have HA3h := Lib.hid HA3
         have hsl := HA3.1
         have hstk : p < tk3 := hst
         have hslk : tk3 ≤ l.length := hsl
         have htl : ts.length ≤ 16384 := HA.out.2.1
         have HO3 : Hid (w3.ownsRow w.heap.size 114 5 (.slice pA ts.length cA) ts.length (tcs ts)) := ownsBelow HO.out hb3
         have hsz3 := HB3.out.size
         have ⟨c0, c1, c2, c3, c4⟩ := tok_cells w3 ⟨tk1, tk2, tk3, tk4, tk5⟩
         have hlt3 := HO3.out.lt
         have HLT := Lib.hid hlt3
         clear HA3 hst hsl hlt3 hfull hb3
         go_wp2_with (at_builtin; refine wpList_append_own _ rfl _ _ 52 rfl w.heap.size 114 i0 _ 5 48 Tryz.underlying52 hi hz0 hz1 hz2 rfl (by decide) _ _ _ rfl ((HO3.out.alloc _).alloc _) ⟨w3.heap.size + 1, 0, none⟩ 1 1 (tc ⟨tk1, tk2, tk3, tk4, tk5⟩) rfl rfl (news_tok (by simp) (tc ⟨tk1, tk2, tk3, tk4, tk5⟩) _) (tc_one _) (by unfold maxLen; omega) (by omega) (by simp; omega) ?_; intro v' w5 hown' hgrow hnil; have c5 : w5.cell? ⟨w3.heap.size, 2, none⟩ = some (.int .i64 (tk3 : Nat)) := (World.cell?_of_block (a := ⟨w3.heap.size, 2, none⟩) (far_block (k := w3.heap.size) hgrow (by simp) (fun e => by have := HLT.out _ e; omega))).trans c2; have HB5 : Hid (Below w.heap.size w w5) := (HB3.out.alloc HB3.out.size _).trans (((Below.refl w.heap.size (w3.alloc (.cells (tc ⟨tk1, tk2, tk3, tk4, tk5⟩).toArray 114))).alloc (by simp; omega) _).grown hgrow (by simp; omega) (fun j hj => (HLT.out j hj).1)); have HOW : Hid (w5.ownsRow w.heap.size 114 5 v' (ts ++ [(⟨tk1, tk2, tk3, tk4, tk5⟩ : Tok)]).length (tcs (ts ++ [⟨tk1, tk2, tk3, tk4, tk5⟩]))) := (by rw [tcs_snoc, List.length_append]; exact hown'); clear hown' hgrow hnil c0 c1 c2 c3 c4)
         go_roundw
         case rel => exact ⟨ts ++ [(⟨tk1, tk2, tk3, tk4, tk5⟩ : Tok)], tk3, rfl, HB5, HA3h, HOW⟩
         case measure => simp [intOf]; omega
        ·have HR := Lib.hid (HN.out.trans (Q3.out hE61 hfull hE0))
         have hE0' : ((E : Int) != 0) = true := by rw [bne_iff_ne]; omega
         clear hfull
         go_wp2
         refine bodyPost_ret (resS _ _) rfl ?_
         rw [← HPP.out]
         exact rscan_bad HR.out HB4.out
   ·have hge : ¬ (p : Int) < (l.length : Int) := by omega
    have HR := Lib.hid (HN.out.trans (scAt_end HA.out (by omega)))
    go_wp2
    refine bodyPost_ret (resS _ _) rfl ?_
    rw [← HPP.out]
    exact rscan_toks HR.out HB.out (Tks.of_own HO.out)
end
end Go.Proofs.YtbdllefnghddcaaGreatDoor
