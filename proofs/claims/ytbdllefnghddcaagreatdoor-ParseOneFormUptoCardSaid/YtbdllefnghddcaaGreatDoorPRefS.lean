/- THE REFERENCE's skip. THE REFERENCE's words, marks, Kind, Text. -/
import Derived.Test.YtbdllefnghddcaaGreatDoorScanRefQuoted
import Derived.Test.YtbdllefnghddcaaGreatDoorPScan2
namespace Go.Proofs.YtbdllefnghddcaaGreatDoor
section
open Go Go.RowKit

theorem lineS_at {l : List UInt8} {k : Nat} {c : UInt8} (h : l[k]? = some c) : lineS (l.drop k) = if c = 10 then 0 else lineS (l.drop (k + 1)) + 1 := by rw [drop_one h]; rfl
theorem cmtS_at {l : List UInt8} {k : Nat} {c : UInt8} (h : l[k]? = some c) : cmtS (l.drop k) = if c = 42 ∧ l[k + 1]? = some 47 then some 2 else (cmtS (l.drop (k + 1))).map (· + 1) := by
 rw [drop_one h, cmtS_cons, List.head?_drop]
def skI (p : Nat) : Option Nat → Int
 | none => -1
 | some n => (p + n : Nat)

set_option maxRecDepth 100000 in
set_option maxHeartbeats 4000000 in
theorem refSkip_any (v : Value) (l : List UInt8) (p : Nat) (w : World) (hV : Bs w v l) (hl : l.length ≤ 1048577) (hp : p < l.length) :
  Calls Tryz.prog 72 #[v, .int .i64 (p : Nat)] w fun e w' => e = .returned (.int .i64 (skI p (skipN (l.drop p)))) ∧ w = w' := by
 obtain ⟨b, o, cap, rfl, hbl⟩ := hV.form (by omega)
 obtain ⟨c, hc⟩ : ∃ c, l[p]? = some c := ⟨_, List.getElem?_eq_getElem hp⟩
 have hck := hV.cell hc
 have CB := Lib.hid (fun w => refBlank_any c w)
 have hp' : (p : Int) < (l.length : Int) := by omega
 have HV := Lib.hid (fun (j : Nat) (x : UInt8) (hj : l[j]? = some x) => hV.cell hj)
 have hdr := drop_one hc
 clear hV
 by_cases hb : clsS c.toNat = 3
 ·have hbb : blB c = true := by simp [blB, hb]
  rw [hbb] at CB
  rw [hdr, skipN_blank _ hb]
  clear hdr hc hb hbb
  go_enter Tryz.func72, Tryz.ntmps72
  go_wp2_with fail
  refine (CB.out _).mono ?_
  rintro e w2 ⟨rfl, rfl⟩
  go_wp2
  go_ret
  exact ⟨rfl, rfl⟩
 ·have hbb : blB c = false := by simp [blB, hb]
  rw [hbb] at CB
  by_cases h35 : c = 35
  ·subst h35
   obtain ⟨n, hn⟩ : ∃ n, lineS (l.drop p) = n := ⟨_, rfl⟩
   have hsk : skipN (l.drop p) = some n := by
    rw [← hn, hdr, skipN_line, lineS, if_neg (by decide)]
   rw [hsk]
   have H0 : Hid (p + n = p + lineS (l.drop p)) := by show _ = _; rw [hn]
   have HS := Lib.hid (fun k c h => @lineS_at l k c h)
   clear hdr hc hb hbb hsk hn
   go_enter Tryz.func72, Tryz.ntmps72
   go_wp2_with fail
   refine (CB.out _).mono ?_
   rintro e w2 ⟨rfl, rfl⟩
   go_wp2
   go_loop [1] (fun i => ∃ k : Nat, p ≤ k ∧ k ≤ l.length ∧ i = .int .i64 (k : Nat) ∧ Hid (p + n = k + lineS (l.drop k))) (fun i => l.length - (intOf i).toNat)
   case atStart => exact ⟨p, Nat.le_refl _, by omega, rfl, H0⟩
   case round =>
    obtain ⟨k, hk1, hk2, rfl, HK⟩ := hrel
    by_cases hlt : k < l.length
    ·obtain ⟨d, hd⟩ : ∃ d, l[k]? = some d := ⟨_, List.getElem?_eq_getElem hlt⟩
     have hdk := HV.out k d hd
     have hs := Lib.hid (HS.out k d hd)
     have hlt' : (k : Int) < (l.length : Int) := by omega
     by_cases h10 : d = 10
     ·subst h10
      have HN : Hid (p + n = k) := by show _ = _; rw [HK.out, hs.out, if_pos rfl]; rfl
      clear hd
      go_wp2
      go_ret
      exact ⟨ret_i (by show ((k : Nat) : Int) = ((p + n : Nat) : Int); rw [HN.out]), rfl⟩
     ·have h10' : ((d.toNat : Int) != 10) = true := by rw [bne_iff_ne]; exact fun h => h10 (UInt8.toNat_inj.1 (show d.toNat = 10 by omega))
      have HN : Hid (p + n = (k + 1) + lineS (l.drop (k + 1))) := by show _ = _; rw [HK.out, hs.out, if_neg h10]; omega
      clear hd
      go_wp2
      go_round
      case rel => exact ⟨k + 1, by omega, by omega, by go_num, HN⟩
      case measure => simp [intOf]; omega
    ·obtain rfl : k = l.length := by omega
     have HN : Hid (p + n = l.length) := by show _ = _; rw [HK.out, List.drop_length]; rfl
     go_wp2
     go_ret
     exact ⟨ret_i (by show ((l.length : Nat) : Int) = ((p + n : Nat) : Int); rw [HN.out]), rfl⟩
  ·have e35 : ((c.toNat : Int) == 35) = false := beq_eq_false_iff_ne.2 (fun h => h35 (UInt8.toNat_inj.1 (show c.toNat = 35 by omega)))
   by_cases hcm : c = 47 ∧ (l.drop (p + 1)).head? = some 42
   ·obtain ⟨rfl, h42⟩ := hcm
    rw [List.head?_drop] at h42
    have hdr2 := drop_one h42
    have hck2 := HV.out _ _ h42
    have hp1 : p + 1 < l.length := (List.getElem?_eq_some_iff.1 h42).1
    have hp1' : ((p : Int) + 1) < (l.length : Int) := by omega
    have hsk : skipN (l.drop p) = (cmtS (l.drop (p + 2))).map (· + 2) := by rw [hdr, hdr2]; exact skipN_cmt _
    obtain ⟨R, hR⟩ : ∃ R, cmtS (l.drop (p + 2)) = R := ⟨_, rfl⟩
    rw [hsk, hR]
    have H0 : Hid (R = (cmtS (l.drop (p + 2))).map (· + 0)) := by show _ = _; rw [hR]; cases R <;> rfl
    have HS := Lib.hid (fun k c h => @cmtS_at l k c h)
    have e47 : (((47 : UInt8).toNat : Int) != 47) = false := by decide
    have en : (((p : Int) + 1) == (l.length : Int)) = false := beq_eq_false_iff_ne.2 (by omega)
    clear hdr hc hb hbb hsk hR h42 hdr2 e35 h35
    go_enter Tryz.func72, Tryz.ntmps72
    go_wp2_with fail
    refine (CB.out _).mono ?_
    rintro e w2 ⟨rfl, rfl⟩
    go_wp2
    go_loop [5] (fun i => ∃ k : Nat, p + 2 ≤ k ∧ k ≤ l.length ∧ i = .int .i64 (k : Nat) ∧ Hid (R = (cmtS (l.drop k)).map (· + (k - (p + 2))))) (fun i => l.length - (intOf i).toNat)
    case atStart => exact ⟨p + 2, Nat.le_refl _, by omega, by go_num, by rw [Nat.sub_self]; exact H0⟩
    case round =>
     obtain ⟨k, hk1, hk2, rfl, HK⟩ := hrel
     by_cases hlt : k + 1 < l.length
     ·obtain ⟨d, hd⟩ : ∃ d, l[k]? = some d := ⟨_, List.getElem?_eq_getElem (by omega)⟩
      obtain ⟨d2, hd2⟩ : ∃ d, l[k + 1]? = some d := ⟨_, List.getElem?_eq_getElem hlt⟩
      have hdk := HV.out k d hd
      have hdk2 := HV.out _ d2 hd2
      have hs := Lib.hid (HS.out k d hd)
      have hlt' : ((k : Int) + 1) < (l.length : Int) := by omega
      by_cases h42 : d = 42
      ·subst h42
       by_cases h47 : d2 = 47
       ·subst h47
        have HN : Hid (R = some (k - p)) := by
         show _ = _; rw [HK.out, hs.out, if_pos ⟨rfl, hd2⟩]; simp; omega
        clear hd hd2
        go_wp2
        go_ret
        refine ⟨?_, rfl⟩
        rw [HN.out]
        show _ = Ending.returned (.int .i64 ((p + ((k - p) + 2) : Nat) : Int))
        rw [show p + ((k - p) + 2) = k + 2 by omega]; rfl
       ·have HN : Hid (R = (cmtS (l.drop (k + 1))).map (· + (k + 1 - (p + 2)))) := by
         show _ = _
         rw [HK.out, hs.out, if_neg (by rw [hd2]; simpa using h47), Option.map_map]
         congr 1; funext x; simp; omega
        have h47' : ((d2.toNat : Int) == 47) = false := beq_eq_false_iff_ne.2 (fun h => h47 (UInt8.toNat_inj.1 (show d2.toNat = 47 by omega)))
        clear hd hd2
        go_wp2
        go_round
        case rel => exact ⟨k + 1, by omega, by omega, by go_num, HN⟩
        case measure => simp [intOf]; omega
      ·have HN : Hid (R = (cmtS (l.drop (k + 1))).map (· + (k + 1 - (p + 2)))) := by
        show _ = _
        rw [HK.out, hs.out, if_neg (fun h => h42 h.1), Option.map_map]
        congr 1; funext x; simp; omega
       have h42' : ((d.toNat : Int) == 42) = false := beq_eq_false_iff_ne.2 (fun h => h42 (UInt8.toNat_inj.1 (show d.toNat = 42 by omega)))
       clear hd hd2
       go_wp2
       go_round
       case rel => exact ⟨k + 1, by omega, by omega, by go_num, HN⟩
       case measure => simp [intOf]; omega
     ·have HN : Hid (R = none) := by
       show _ = _
       rw [HK.out]
       rcases Nat.lt_or_ge k l.length with h1 | h1
       ·rw [HS.out k _ (List.getElem?_eq_getElem h1), if_neg (fun h => by have := (List.getElem?_eq_some_iff.1 h.2).1; omega), List.drop_of_length_le (by omega)]; rfl
       ·rw [List.drop_of_length_le h1]; rfl
      have hlt' : ¬ ((k : Int) + 1) < (l.length : Int) := by omega
      go_wp2
      go_ret
      exact ⟨by rw [HN.out]; rfl, rfl⟩
   ·rw [hdr, skipN_zero hb h35 hcm]
    rw [List.head?_drop] at hcm
    clear hdr hc hb hbb
    by_cases h47 : c = 47
    ·subst h47
     rcases Nat.lt_or_ge (p + 1) l.length with h1 | h1
     ·obtain ⟨d, hd⟩ : ∃ d, l[p + 1]? = some d := ⟨_, List.getElem?_eq_getElem h1⟩
      have hdk := HV.out _ d hd
      have h42' : ((d.toNat : Int) != 42) = true := by rw [bne_iff_ne]; exact fun h => hcm ⟨rfl, by rw [hd, UInt8.toNat_inj.1 (show d.toNat = (42 : UInt8).toNat by simp; omega)]⟩
      have en : (((p : Int) + 1) == (l.length : Int)) = false := beq_eq_false_iff_ne.2 (by omega)
      have hp1' : ((p : Int) + 1) < (l.length : Int) := by omega
      clear hd hcm
      go_enter Tryz.func72, Tryz.ntmps72
      go_wp2_with fail
      refine (CB.out _).mono ?_
      rintro e w2 ⟨rfl, rfl⟩
      go_wp2
      go_ret
      exact ⟨rfl, rfl⟩
     ·have en : (((p : Int) + 1) == (l.length : Int)) = true := beq_iff_eq.2 (by omega)
      clear hcm
      go_enter Tryz.func72, Tryz.ntmps72
      go_wp2_with fail
      refine (CB.out _).mono ?_
      rintro e w2 ⟨rfl, rfl⟩
      go_wp2
      go_ret
      exact ⟨rfl, rfl⟩
    ·have h47' : ((c.toNat : Int) != 47) = true := by rw [bne_iff_ne]; exact fun h => h47 (UInt8.toNat_inj.1 (show c.toNat = 47 by omega))
     clear hcm
     go_enter Tryz.func72, Tryz.ntmps72
     go_wp2_with fail
     refine (CB.out _).mono ?_
     rintro e w2 ⟨rfl, rfl⟩
     go_wp2
     go_ret
     exact ⟨rfl, rfl⟩
end
section
open Go Go.RowKit

def Elv (n : Nat) (w : World) (v : Value) : Prop := ∃ b, v = .slice (some ⟨b, 0, none⟩) 11 11 ∧ ∀ j, j < 11 → w.cell? ⟨b, j, none⟩ = some (.string (wordB (n + j)))
theorem Elv.below {n : Nat} {w w' : World} {v : Value} (h : Elv n w v) (hb : Below w.heap.size w w') : Elv n w' v := by
 obtain ⟨b, rfl, h⟩ := h
 exact ⟨b, rfl, fun j hj => (hb.cell (World.block_lt_of_cell? w _ (h j hj))).trans (h j hj)⟩
theorem elv_cells (n : Nat) (hn : n + 11 ≤ 22) (w : World) (t : TypeId) (f : Nat × Nat) : Elv n (w.alloc (.cells ((wordsV.drop n).take 11).toArray t f)) (.slice (some ⟨w.heap.size, 0, none⟩) 11 11) := by
 refine ⟨_, rfl, fun j hj => ?_⟩
 rw [cell_of_row _ _ _ _ _ _ (heap_alloc_new w _)]
 have hw : n + j < wordsS.length := by show _ < 22; omega
 simp [List.getElem?_drop, hj, wordsV, wordB, List.getD, hw]

theorem refWords_any (w : World) : Calls Tryz.prog 155 #[] w fun e w' => ∃ v, e = .returned v ∧ Elv 0 w' v ∧ Below w.heap.size w w' := by
 go_enter Tryz.func155, Tryz.ntmps155
 go_wp2
 go_ret
 exact ⟨_, rfl, elv_cells 0 (by omega) w _ _, (Below.refl _ _).alloc (Nat.le_refl _) _⟩
theorem refMarks_any (w : World) : Calls Tryz.prog 156 #[] w fun e w' => ∃ v, e = .returned v ∧ Elv 11 w' v ∧ Below w.heap.size w w' := by
 go_enter Tryz.func156, Tryz.ntmps156
 go_wp2
 go_ret
 exact ⟨_, rfl, elv_cells 11 (by omega) w _ _, (Below.refl _ _).alloc (Nat.le_refl _) _⟩

set_option maxRecDepth 100000 in
set_option maxHeartbeats 1000000 in
theorem refKind_any (s : ByteArray) (w : World) :
  Calls Tryz.prog 128 #[.string s] w fun e w' => e = .returned (.int .i64 (kindS s.data.toList : Nat)) ∧ Below w.heap.size w w' := by
 have H0 := Lib.hid (show kindS s.data.toList = kFrom (wordsS.drop 0) (4 + 0) s.data.toList from rfl)
 have HS := Lib.hid (fun k h => kFrom_step (k := k) h s)
 generalize kindS s.data.toList = K at *
 have CW := Lib.hid refWords_any
 have CM := Lib.hid refMarks_any
 go_enter Tryz.func128, Tryz.ntmps128
 go_wp2_with fail
 refine (CW.out _).mono ?_
 rintro e w1 ⟨v1, rfl, hv1, hb1⟩
 obtain ⟨b1, rfl, hc1⟩ := hv1
 have HC1 := Lib.hid hc1
 clear hc1 CW
 go_wp2
 go_loop [4] (fun i => ∃ k : Nat, k ≤ 11 ∧ i = .int .i64 (k : Nat) ∧ Hid (K = kFrom (wordsS.drop k) (4 + k) s.data.toList)) (fun i => 11 - (intOf i).toNat)
 case atStart => exact ⟨0, by omega, rfl, H0⟩
 case round =>
  obtain ⟨k, hk, rfl, HK⟩ := hrel
  by_cases hlt : k < 11
  ·have hc := HC1.out k hlt
   rw [Nat.zero_add] at hc
   have hs := HS.out k (by omega)
   cases he : ((wordB k).toList == s.toList)
   ·rw [he, if_neg (by simp)] at hs
    have HN : Hid (K = kFrom (wordsS.drop (k + 1)) (4 + (k + 1)) s.data.toList) := HK.out.trans hs
    clear hs
    go_wp2
    go_round
    case rel => exact ⟨k + 1, by omega, by go_num, HN⟩
    case measure => simp [intOf]; omega
   ·rw [he, if_pos rfl] at hs
    have HN : Hid (K = 4 + k) := HK.out.trans hs
    clear hs
    go_wp2
    go_ret
    exact ⟨ret_i (by rw [HN.out]; omega), hb1⟩
  ·obtain rfl : k = 11 := by omega
   go_wp2_with fail
   refine (CM.out _).mono ?_
   rintro e w2 ⟨v2, rfl, hv2, hb2⟩
   obtain ⟨b2, rfl, hc2⟩ := hv2
   have HC2 := Lib.hid hc2
   have hb12 : Below w.heap.size w w2 := hb1.trans (hb2.mono hb1.size)
   clear hc2 CM hb1 hb2
   go_wp2
   go_loop [6] (fun i => ∃ k : Nat, k ≤ 11 ∧ i = .int .i64 (k : Nat) ∧ Hid (K = kFrom (wordsS.drop (11 + k)) (4 + (11 + k)) s.data.toList)) (fun i => 11 - (intOf i).toNat)
   case atStart => exact ⟨0, by omega, rfl, HK⟩
   case round =>
    obtain ⟨k, hk, rfl, HK⟩ := hrel
    by_cases hlt : k < 11
    ·have hc := HC2.out k hlt
     have hs := HS.out (11 + k) (by omega)
     cases he : ((wordB (11 + k)).toList == s.toList)
     ·rw [he, if_neg (by simp)] at hs
      have HN : Hid (K = kFrom (wordsS.drop (11 + (k + 1))) (4 + (11 + (k + 1))) s.data.toList) := HK.out.trans hs
      clear hs
      go_wp2
      go_round
      case rel => exact ⟨k + 1, by omega, by go_num, HN⟩
      case measure => simp [intOf]; omega
     ·rw [he, if_pos rfl] at hs
      have HN : Hid (K = 4 + (11 + k)) := HK.out.trans hs
      clear hs
      go_wp2
      go_ret
      exact ⟨ret_i (by rw [HN.out]; omega), hb12⟩
    ·have HN : Hid (K = 0) := by
      have : k = 11 := by omega
      subst this; exact HK.out
     go_wp2
     go_ret
     exact ⟨ret_i (by rw [HN.out]; rfl), hb12⟩
end
end Go.Proofs.YtbdllefnghddcaaGreatDoor
