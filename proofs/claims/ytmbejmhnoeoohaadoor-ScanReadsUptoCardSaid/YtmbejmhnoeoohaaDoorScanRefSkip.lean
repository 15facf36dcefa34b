/- THE REFERENCE's skip. -/
import Derived.Test.YtmbejmhnoeoohaaDoorScanRefQuoted
namespace Go.Proofs.YtmbejmhnoeoohaaDoor
open Go Go.RowKit

theorem lineS_at {l : List UInt8} {k : Nat} {c : UInt8} (h : l[k]? = some c) : lineS (l.drop k) = if c = 10 then 0 else lineS (l.drop (k + 1)) + 1 := by rw [drop_one h]; rfl
theorem cmtS_at {l : List UInt8} {k : Nat} {c : UInt8} (h : l[k]? = some c) : cmtS (l.drop k) = if c = 42 ∧ l[k + 1]? = some 47 then some 2 else (cmtS (l.drop (k + 1))).map (· + 1) := by
  rw [drop_one h, cmtS_cons, List.head?_drop]
def skI (p : Nat) : Option Nat → Int
  | none => -1
  | some n => (p + n : Nat)

set_option maxHeartbeats 4000000 in
theorem refSkip_any (v : Value) (l : List UInt8) (p : Nat) (w : World) (hV : Bs w v l) (hl : l.length ≤ 1048577) (hp : p < l.length) :
    Calls Tryd.prog 24 #[v, .int .i64 (p : Nat)] w fun e w' => e = .returned (.int .i64 (skI p (skipN (l.drop p)))) ∧ w = w' := by
  obtain ⟨b, o, cap, rfl, hbl⟩ := hV.form (by omega)
  obtain ⟨c, hc⟩ : ∃ c, l[p]? = some c := ⟨_, List.getElem?_eq_getElem hp⟩
  have hck := hV.cell hc
  have CB := Lib.hid (fun w => refBlank_any c w)
  have hp' : (p : Int) < (l.length : Int) := by omega
  have HV := Lib.hid (fun (j : Nat) (x : UInt8) (hj : l[j]? = some x) => hV.cell hj)
  have hdr := drop_one hc
  clear hV
  by_cases hb : clsS c.toNat = 3
  · have hbb : blB c = true := by simp [blB, hb]
    rw [hbb] at CB
    rw [hdr, skipN_blank _ hb]
    clear hdr hc hb hbb
    go_enter Tryd.func24, Tryd.ntmps24
    go_wp2_with fail
    refine (CB.out _).mono ?_
    rintro e w2 ⟨rfl, rfl⟩
    go_wp2
    go_ret
    exact ⟨rfl, rfl⟩
  · have hbb : blB c = false := by simp [blB, hb]
    rw [hbb] at CB
    by_cases h35 : c = 35
    · subst h35
      obtain ⟨n, hn⟩ : ∃ n, lineS (l.drop p) = n := ⟨_, rfl⟩
      have hsk : skipN (l.drop p) = some n := by
        rw [← hn, hdr, skipN_line, lineS, if_neg (by decide)]
      rw [hsk]
      have H0 : Hid (p + n = p + lineS (l.drop p)) := by show _ = _; rw [hn]
      have HS := Lib.hid (fun k c h => @lineS_at l k c h)
      clear hdr hc hb hbb hsk hn
      go_enter Tryd.func24, Tryd.ntmps24
      go_wp2_with fail
      refine (CB.out _).mono ?_
      rintro e w2 ⟨rfl, rfl⟩
      go_wp2
      go_loop [1] (fun i => ∃ k : Nat, p ≤ k ∧ k ≤ l.length ∧ i = .int .i64 (k : Nat) ∧ Hid (p + n = k + lineS (l.drop k))) (fun i => l.length - (intOf i).toNat)
      case atStart => exact ⟨p, Nat.le_refl _, by omega, rfl, H0⟩
      case round =>
        obtain ⟨k, hk1, hk2, rfl, HK⟩ := hrel
        by_cases hlt : k < l.length
        · obtain ⟨d, hd⟩ : ∃ d, l[k]? = some d := ⟨_, List.getElem?_eq_getElem hlt⟩
          have hdk := HV.out k d hd
          have hs := Lib.hid (HS.out k d hd)
          have hlt' : (k : Int) < (l.length : Int) := by omega
          by_cases h10 : d = 10
          · subst h10
            have HN : Hid (p + n = k) := by show _ = _; rw [HK.out, hs.out, if_pos rfl]; rfl
            clear hd
            go_wp2
            go_ret
            exact ⟨ret_i (by show ((k : Nat) : Int) = ((p + n : Nat) : Int); rw [HN.out]), rfl⟩
          · have h10' : ((d.toNat : Int) != 10) = true := by rw [bne_iff_ne]; exact fun h => h10 (UInt8.toNat_inj.1 (show d.toNat = 10 by omega))
            have HN : Hid (p + n = (k + 1) + lineS (l.drop (k + 1))) := by show _ = _; rw [HK.out, hs.out, if_neg h10]; omega
            clear hd
            go_wp2
            go_round
            case rel => exact ⟨k + 1, by omega, by omega, by go_num, HN⟩
            case measure => simp [intOf]; omega
        · obtain rfl : k = l.length := by omega
          have HN : Hid (p + n = l.length) := by show _ = _; rw [HK.out, List.drop_length]; rfl
          go_wp2
          go_ret
          exact ⟨ret_i (by show ((l.length : Nat) : Int) = ((p + n : Nat) : Int); rw [HN.out]), rfl⟩
    · have e35 : ((c.toNat : Int) == 35) = false := beq_eq_false_iff_ne.2 (fun h => h35 (UInt8.toNat_inj.1 (show c.toNat = 35 by omega)))
      by_cases hcm : c = 47 ∧ (l.drop (p + 1)).head? = some 42
      · obtain ⟨rfl, h42⟩ := hcm
        rw [List.head?_drop] at h42
        have hdr2 := drop_one h42
        have hck2 := HV.out _ _ h42
        have hp1 : p + 1 < l.length := (List.getElem?_eq_some_iff.1 h42).1
        have hp1' : ((p : Int) + 1) < (l.length : Int) := by omega
        have hsk : skipN (l.drop p) = (cmtS (l.drop (p + 2))).map (· + 2) := by rw [hdr, hdr2]; exact skipN_cmt _
        obtain ⟨R, hR⟩ : ∃ R, cmtS (l.drop (p + 2)) = R := ⟨_, rfl⟩
        rw [hsk, hR]
        have H0 : Hid (R = (cmtS (l.drop (p + 2))).map (· + 0)) := by show _ = _; rw [hR]; cases R <;> rfl
        have HS := Lib.hid (fun k c h => @cmtS_at l k c h)
        have e47 : (((47 : UInt8).toNat : Int) != 47) = false := by decide
        have en : (((p : Int) + 1) == (l.length : Int)) = false := beq_eq_false_iff_ne.2 (by omega)
        clear hdr hc hb hbb hsk hR h42 hdr2 e35 h35
        go_enter Tryd.func24, Tryd.ntmps24
        go_wp2_with fail
        refine (CB.out _).mono ?_
        rintro e w2 ⟨rfl, rfl⟩
        go_wp2
        go_loop [5] (fun i => ∃ k : Nat, p + 2 ≤ k ∧ k ≤ l.length ∧ i = .int .i64 (k : Nat) ∧ Hid (R = (cmtS (l.drop k)).map (· + (k - (p + 2))))) (fun i => l.length - (intOf i).toNat)
        case atStart => exact ⟨p + 2, Nat.le_refl _, by omega, by go_num, by rw [Nat.sub_self]; exact H0⟩
        case round =>
          obtain ⟨k, hk1, hk2, rfl, HK⟩ := hrel
          by_cases hlt : k + 1 < l.length
          · obtain ⟨d, hd⟩ : ∃ d, l[k]? = some d := ⟨_, List.getElem?_eq_getElem (by omega)⟩
            obtain ⟨d2, hd2⟩ : ∃ d, l[k + 1]? = some d := ⟨_, List.getElem?_eq_getElem hlt⟩
            have hdk := HV.out k d hd
            have hdk2 := HV.out _ d2 hd2
            have hs := Lib.hid (HS.out k d hd)
            have hlt' : ((k : Int) + 1) < (l.length : Int) := by omega
            by_cases h42 : d = 42
            · subst h42
              by_cases h47 : d2 = 47
              · subst h47
                have HN : Hid (R = some (k - p)) := by
                  show _ = _; rw [HK.out, hs.out, if_pos ⟨rfl, hd2⟩]; simp; omega
                clear hd hd2
                go_wp2
                go_ret
                refine ⟨?_, rfl⟩
                rw [HN.out]
                show _ = Ending.returned (.int .i64 ((p + ((k - p) + 2) : Nat) : Int))
                rw [show p + ((k - p) + 2) = k + 2 by omega]; rfl
              · have HN : Hid (R = (cmtS (l.drop (k + 1))).map (· + (k + 1 - (p + 2)))) := by
                  show _ = _
                  rw [HK.out, hs.out, if_neg (by rw [hd2]; simpa using h47), Option.map_map]
                  congr 1; funext x; simp; omega
                have h47' : ((d2.toNat : Int) == 47) = false := beq_eq_false_iff_ne.2 (fun h => h47 (UInt8.toNat_inj.1 (show d2.toNat = 47 by omega)))
                clear hd hd2
                go_wp2
                go_round
                case rel => exact ⟨k + 1, by omega, by omega, by go_num, HN⟩
                case measure => simp [intOf]; omega
            · have HN : Hid (R = (cmtS (l.drop (k + 1))).map (· + (k + 1 - (p + 2)))) := by
                show _ = _
                rw [HK.out, hs.out, if_neg (fun h => h42 h.1), Option.map_map]
                congr 1; funext x; simp; omega
              have h42' : ((d.toNat : Int) == 42) = false := beq_eq_false_iff_ne.2 (fun h => h42 (UInt8.toNat_inj.1 (show d.toNat = 42 by omega)))
              clear hd hd2
              go_wp2
              go_round
              case rel => exact ⟨k + 1, by omega, by omega, by go_num, HN⟩
              case measure => simp [intOf]; omega
          · have HN : Hid (R = none) := by
              show _ = _
              rw [HK.out]
              rcases Nat.lt_or_ge k l.length with h1 | h1
              · rw [HS.out k _ (List.getElem?_eq_getElem h1), if_neg (fun h => by have := (List.getElem?_eq_some_iff.1 h.2).1; omega), List.drop_of_length_le (by omega)]; rfl
              · rw [List.drop_of_length_le h1]; rfl
            have hlt' : ¬ ((k : Int) + 1) < (l.length : Int) := by omega
            go_wp2
            go_ret
            exact ⟨by rw [HN.out]; rfl, rfl⟩
      · rw [hdr, skipN_zero hb h35 hcm]
        rw [List.head?_drop] at hcm
        clear hdr hc hb hbb
        by_cases h47 : c = 47
        · subst h47
          rcases Nat.lt_or_ge (p + 1) l.length with h1 | h1
          · obtain ⟨d, hd⟩ : ∃ d, l[p + 1]? = some d := ⟨_, List.getElem?_eq_getElem h1⟩
            have hdk := HV.out _ d hd
            have h42' : ((d.toNat : Int) != 42) = true := by rw [bne_iff_ne]; exact fun h => hcm ⟨rfl, by rw [hd, UInt8.toNat_inj.1 (show d.toNat = (42 : UInt8).toNat by simp; omega)]⟩
            have en : (((p : Int) + 1) == (l.length : Int)) = false := beq_eq_false_iff_ne.2 (by omega)
            have hp1' : ((p : Int) + 1) < (l.length : Int) := by omega
            clear hd hcm
            go_enter Tryd.func24, Tryd.ntmps24
            go_wp2_with fail
            refine (CB.out _).mono ?_
            rintro e w2 ⟨rfl, rfl⟩
            go_wp2
            go_ret
            exact ⟨rfl, rfl⟩
          · have en : (((p : Int) + 1) == (l.length : Int)) = true := beq_iff_eq.2 (by omega)
            clear hcm
            go_enter Tryd.func24, Tryd.ntmps24
            go_wp2_with fail
            refine (CB.out _).mono ?_
            rintro e w2 ⟨rfl, rfl⟩
            go_wp2
            go_ret
            exact ⟨rfl, rfl⟩
        · have h47' : ((c.toNat : Int) != 47) = true := by rw [bne_iff_ne]; exact fun h => h47 (UInt8.toNat_inj.1 (show c.toNat = 47 by omega))
          clear hcm
          go_enter Tryd.func24, Tryd.ntmps24
          go_wp2_with fail
          refine (CB.out _).mono ?_
          rintro e w2 ⟨rfl, rfl⟩
          go_wp2
          go_ret
          exact ⟨rfl, rfl⟩
end Go.Proofs.YtmbejmhnoeoohaaDoor
