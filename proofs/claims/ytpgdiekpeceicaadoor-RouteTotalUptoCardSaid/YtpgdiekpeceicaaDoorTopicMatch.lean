/- THE PROGRAM's Match. -/
import Derived.Test.YtpgdiekpeceicaaDoorTopicFilter
namespace Go.Proofs.YtpgdiekpeceicaaDoor
open Go Go.RowKit

/-- strings.HasPrefix(s, "$") -/
def DollarSaid : Prop := ∀ (s : ByteArray) (w : World),
  Calls Tryd.prog 59 #[.string s, .string ⟨#[36]⟩] w fun e w' => e = .returned (.bool (dollarB s.data.toList)) ∧ w = w'

set_option maxHeartbeats 400000 in
theorem hidden_any (hD : DollarSaid) (x : ByteArray) (w : World) :
    Calls Tryd.prog 50 #[.string x] w fun e w' => e = .returned (.bool (dollarB x.data.toList)) ∧ w = w' := by
  have CD := Lib.hid (hD x)
  generalize dollarB x.data.toList = d at *
  go_enter Tryd.func50, Tryd.ntmps50
  go_wp2_with (go_at_call 59; refine (CD.out _).mono ?_; rintro e w' ⟨rfl, rfl⟩)
  go_ret
  exact ⟨rfl, rfl⟩

set_option maxHeartbeats 400000 in
theorem wild_any (x : ByteArray) (w : World) :
    Calls Tryd.prog 49 #[.string x] w fun e w' => e = .returned (.bool (wildB x)) ∧ w = w' := by
  unfold wildB
  cases h1 : (x.toList == [43])
  · cases h2 : (x.toList == [35])
    all_goals
      go_enter Tryd.func49, Tryd.ntmps49
      go_wp2
      go_ret
      exact ⟨rfl, rfl⟩
  · go_enter Tryd.func49, Tryd.ntmps49
    go_wp2
    go_ret
    exact ⟨rfl, rfl⟩

theorem drop_at {l : List ByteArray} {k : Nat} {x : ByteArray} (hx : l[k]? = some x) : l.drop k = x :: l.drop (k + 1) := by
  obtain ⟨hk, rfl⟩ := List.getElem?_eq_some_iff.1 hx
  rw [List.drop_eq_getElem_cons hk]

theorem dollar_head (s : ByteArray) : dollarB (headS s).data.toList = dollarB s.data.toList := by
  unfold headS levels
  cases h : s.data.toList with
  | nil => simp [splitS, dollarB, ba]
  | cons c l =>
    unfold splitS
    by_cases hc : c = 47
    · subst hc; simp [dollarB, ba]
    · have hc' : (c == 47) = false := by simpa using hc
      rw [hc']
      simp only [Bool.false_eq_true, if_false]
      split <;> simp [dollarB, ba]

set_option maxHeartbeats 2000000 in
theorem match_any (hI : IndexByteSaid) (hV : ValidSaid) (hC : ContainsSaid) (hD : DollarSaid) (f n : ByteArray) (w : World) (hf : f.size ≤ 1048576) (hn : n.size ≤ 1048576) (hT : Tabs w) :
    Calls Tryd.prog 39 #[.string f, .string n] w fun e w' => e = .returned (.bool (matchB f n)) ∧ Below w.heap.size w w' := by
  have cF := filter_any hI hV hC f w hf hT
  have CN : Hid (∀ w, Tabs w → Calls Tryd.prog 47 #[.string n] w fun e w' => e = .returned (.bool (nameB n.data.toList)) ∧ Below w.heap.size w w') := fun w hT => name_any hI hV hC n w hn hT
  have HDn := Lib.hid (dollar_head n)
  unfold matchB
  generalize filterB f = F at *
  generalize nameB n.data.toList = N at *
  generalize dollarB n.data.toList = D at *
  cases F
  · clear HDn CN
    go_enter Tryd.func39, Tryd.ntmps39
    go_wp2_with (go_at_call 46; refine cF.mono ?_; rintro e w' ⟨rfl, hb⟩)
    go_ret
    exact ⟨rfl, hb⟩
  cases N
  · clear HDn
    go_enter Tryd.func39, Tryd.ntmps39
    go_wp2_with (first | (go_at_call 46; refine cF.mono ?_; rintro e w' ⟨rfl, hb⟩) | (go_at_call 47; refine (CN.out _ (hT.below hb)).mono ?_; rintro e w2 ⟨rfl, hb2⟩))
    go_ret
    exact ⟨rfl, hb.trans (hb2.mono hb.size)⟩
  · have HL : Hid (headS f = (levels f).headD ByteArray.empty) := rfl
    have HLn : Hid (headS n = (levels n).headD ByteArray.empty) := rfl
    have hne := levels_ne f
    have hnen := levels_ne n
    have hll := levels_len f
    have hlln := levels_len n
    have CLf : Hid (∀ w, Calls Tryd.prog 48 #[.string f] w fun e w' => ∃ v, e = .returned v ∧ Sl w' v (levels f) ∧ Below w.heap.size w w') := fun w => levels_any hI f w hf
    have CLn : Hid (∀ w, Calls Tryd.prog 48 #[.string n] w fun e w' => ∃ v, e = .returned v ∧ Sl w' v (levels n) ∧ Below w.heap.size w w') := fun w => levels_any hI n w hn
    generalize headS f = hd at *
    generalize headS n = hdn at *
    generalize levels f = Lf at *
    generalize levels n = Ln at *
    obtain ⟨x, r, hLf⟩ : ∃ x r, Lf = x :: r := by cases Lf with | nil => exact absurd rfl hne | cons x r => exact ⟨x, r, rfl⟩
    obtain ⟨y, q, hLn⟩ : ∃ x r, Ln = x :: r := by cases Ln with | nil => exact absurd rfl hnen | cons x r => exact ⟨x, r, rfl⟩
    obtain rfl : hd = x := by have := HL.out; rw [hLf] at this; exact this
    obtain rfl : hdn = y := by have := HLn.out; rw [hLn] at this; exact this
    have hf0 : Hid (Lf[0]? = some hd) := by rw [hLf]; rfl
    have hn0 : Hid (Ln[0]? = some hdn) := by rw [hLn]; rfl
    have hpf : 0 < Lf.length := by rw [hLf]; simp
    have hpn : 0 < Ln.length := by rw [hLn]; simp
    clear HL HLn hLf hLn
    have CW : Hid (∀ w, Calls Tryd.prog 49 #[.string hd] w fun e w' => e = .returned (.bool (wildB hd)) ∧ w = w') := fun w => wild_any hd w
    have CH : Hid (∀ w, Calls Tryd.prog 50 #[.string hdn] w fun e w' => e = .returned (.bool D) ∧ w = w') := fun w => by rw [← HDn.out]; exact hidden_any hD hdn w
    clear HDn
    generalize wildB hd = W at *
    have hpf' : (0 : Int) < (Lf.length : Int) := by omega
    have hpn' : (0 : Int) < (Ln.length : Int) := by omega
    by_cases hWD : W = true ∧ D = true
    · obtain ⟨rfl, rfl⟩ := hWD
      go_enter Tryd.func39, Tryd.ntmps39
      go_wp2_with (first | (go_at_call 46; refine cF.mono ?_; rintro e w' ⟨rfl, hb⟩) | (go_at_call 47; refine (CN.out _ (hT.below hb)).mono ?_; rintro e w2 ⟨rfl, hb2⟩) | fail)
      have hb3 := hb.trans (hb2.mono hb.size)
      clear hb hb2 CN cF
      refine (CLf.out _).mono ?_
      rintro e w3 ⟨v, rfl, hS, hb4⟩
      go_wp2_with fail
      refine (CLn.out _).mono ?_
      rintro e w5 ⟨v5, rfl, hS5, hb6⟩
      have hS4 := hS.below hb6
      have hb5 := hb3.trans (hb4.mono hb3.size)
      have hb7 := hb5.trans (hb6.mono hb5.size)
      clear hb3 hb4 hb5 hb6 hS CLf CLn
      obtain ⟨p, cap, rfl, hc1, hc2, hcells⟩ := hS4
      obtain ⟨b, o, rfl, hcell⟩ := hcells.resolve_left hne
      obtain ⟨p2, cap2, rfl, hc12, hc22, hcells2⟩ := hS5
      obtain ⟨b2, o2, rfl, hcell2⟩ := hcells2.resolve_left hnen
      have h00 := hcell 0 _ hf0.out
      have h20 := hcell2 0 _ hn0.out
      simp only [Nat.add_zero] at h00 h20
      have HC := Lib.hid hcell
      have HC2 := Lib.hid hcell2
      clear hcell hcells hcell2 hcells2 hf0 hn0
      go_wp2_with (first | (go_at_call 49; refine (CW.out _).mono ?_; rintro e w8 ⟨rfl, rfl⟩) | (go_at_call 50; refine (CH.out _).mono ?_; rintro e w8 ⟨rfl, rfl⟩))
      go_ret
      exact ⟨rfl, hb7⟩
    · rw [show (true && (true && (!(W && D) && agreeB Lf Ln))) = agreeB Lf Ln by cases W <;> cases D <;> simp_all]
      have hc : W = false ∨ (W = true ∧ D = false) := by cases W <;> cases D <;> simp_all
      clear hWD
      rcases hc with rfl | ⟨rfl, rfl⟩
      all_goals
        go_enter Tryd.func39, Tryd.ntmps39
        go_wp2_with (first | (go_at_call 46; refine cF.mono ?_; rintro e w' ⟨rfl, hb⟩) | (go_at_call 47; refine (CN.out _ (hT.below hb)).mono ?_; rintro e w2 ⟨rfl, hb2⟩) | fail)
        have hb3 := hb.trans (hb2.mono hb.size)
        clear hb hb2 CN cF
        refine (CLf.out _).mono ?_
        rintro e w3 ⟨v, rfl, hS, hb4⟩
        go_wp2_with fail
        refine (CLn.out _).mono ?_
        rintro e w5 ⟨v5, rfl, hS5, hb6⟩
        have hS4 := hS.below hb6
        have hb5 := hb3.trans (hb4.mono hb3.size)
        have hb7 := hb5.trans (hb6.mono hb5.size)
        clear hb3 hb4 hb5 hb6 hS CLf CLn
        obtain ⟨p, cap, rfl, hc1, hc2, hcells⟩ := hS4
        obtain ⟨b, o, rfl, hcell⟩ := hcells.resolve_left hne
        obtain ⟨p2, cap2, rfl, hc12, hc22, hcells2⟩ := hS5
        obtain ⟨b2, o2, rfl, hcell2⟩ := hcells2.resolve_left hnen
        have h00 := hcell 0 _ hf0.out
        have h20 := hcell2 0 _ hn0.out
        simp only [Nat.add_zero] at h00 h20
        have HC := Lib.hid hcell
        have HC2 := Lib.hid hcell2
        clear hcell hcells hcell2 hcells2 hf0 hn0
        go_wp2_with (first | (go_at_call 49; refine (CW.out _).mono ?_; rintro e w8 ⟨rfl, rfl⟩) | (go_at_call 50; refine (CH.out _).mono ?_; rintro e w8 ⟨rfl, rfl⟩))
        clear h00 h20
        go_loop [33] (fun i => ∃ k : Nat, k ≤ Lf.length ∧ k ≤ Ln.length ∧ i = .int .i64 k ∧ Hid (agreeB Lf Ln = agreeB (Lf.drop k) (Ln.drop k))) (fun i => Lf.length - (intOf i).toNat)
        case atStart => exact ⟨0, Nat.zero_le _, Nat.zero_le _, rfl, rfl⟩
        case round =>
          obtain ⟨k, hk, hkn, rfl, HA⟩ := hrel
          by_cases hlt : k < Lf.length
          · obtain ⟨x, hx⟩ : ∃ x, Lf[k]? = some x := ⟨_, List.getElem?_eq_getElem hlt⟩
            have hck := HC.out k x hx
            have HD1 := Lib.hid (drop_at hx)
            clear hx
            by_cases h1 : (x.toList == [35]) = true
            · have HF := Lib.hid (show agreeB Lf Ln = true by rw [HA.out, HD1.out, agreeB_hash _ _ _ h1])
              clear HA HD1
              go_wp2
              go_ret
              exact ⟨ret_bool HF.out.symm, hb7⟩
            · simp only [Bool.not_eq_true] at h1
              by_cases hlt2 : k < Ln.length
              · obtain ⟨y, hy⟩ : ∃ y, Ln[k]? = some y := ⟨_, List.getElem?_eq_getElem hlt2⟩
                have hck2 := HC2.out k y hy
                have HA2 := Lib.hid (show agreeB Lf Ln = ((x.toList == [43] || x.toList == y.toList) && agreeB (Lf.drop (k + 1)) (Ln.drop (k + 1))) by rw [HA.out, HD1.out, drop_at hy, agreeB_cons _ _ _ _ h1])
                clear HA HD1 hy
                have hge : ¬ ((Ln.length : Int) ≤ (k : Int)) := by omega
                by_cases h2 : (x.toList == [43]) = true
                · have h2' := neSf h2
                  have HF := Lib.hid (show agreeB Lf Ln = agreeB (Lf.drop (k + 1)) (Ln.drop (k + 1)) by rw [HA2.out, h2]; simp)
                  clear HA2
                  go_wp2
                  go_round
                  case rel => exact ⟨k + 1, by omega, by omega, by go_num, HF⟩
                  case measure => simp [intOf]; omega
                · simp only [Bool.not_eq_true] at h2
                  have h2' := neS h2
                  by_cases h3 : (x.toList == y.toList) = true
                  · have h3' := neSf h3
                    have HF := Lib.hid (show agreeB Lf Ln = agreeB (Lf.drop (k + 1)) (Ln.drop (k + 1)) by rw [HA2.out, h3]; simp)
                    clear HA2
                    go_wp2
                    go_round
                    case rel => exact ⟨k + 1, by omega, by omega, by go_num, HF⟩
                    case measure => simp [intOf]; omega
                  · simp only [Bool.not_eq_true] at h3
                    have h3' := neS h3
                    have HF := Lib.hid (show agreeB Lf Ln = false by rw [HA2.out, h2, h3]; rfl)
                    clear HA2
                    go_wp2
                    go_ret
                    exact ⟨ret_bool HF.out.symm, hb7⟩
              · have hge : ((Ln.length : Int) ≤ (k : Int)) := by omega
                have HF := Lib.hid (show agreeB Lf Ln = false by rw [HA.out, HD1.out, List.drop_of_length_le (l := Ln) (by omega), agreeB_none _ _ h1])
                clear HA HD1
                go_wp2
                go_ret
                exact ⟨ret_bool HF.out.symm, hb7⟩
          · obtain rfl : k = Lf.length := by omega
            have HF := Lib.hid (show agreeB Lf Ln = ((Lf.length : Int) == (Ln.length : Int)) by
              rw [HA.out, List.drop_length, agreeB_nil, List.length_drop, Bool.eq_iff_iff]; simp; omega)
            clear HA
            go_wp2
            go_ret
            exact ⟨ret_bool HF.out.symm, hb7⟩
end Go.Proofs.YtpgdiekpeceicaaDoor
