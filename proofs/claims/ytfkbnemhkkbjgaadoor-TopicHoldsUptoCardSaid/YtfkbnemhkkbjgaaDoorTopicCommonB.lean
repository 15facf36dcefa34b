/- THE PROGRAM's Common, Meets: walked. -/
import Derived.Test.YtfkbnemhkkbjgaaDoorTopicCommon
import Derived.Test.YtfkbnemhkkbjgaaDoorTopicLib
namespace Go.Proofs.YtfkbnemhkkbjgaaDoor
open Go Go.RowKit

theorem comFin_no {D p : Bool} {s : ByteArray} {R : Option ByteArray} (hR : R = comFin p s) (hD : dollarB s.data.toList = D) (h : (D && p) = true ∨ 65535 < s.size) : R = none := by
  rw [hR]; unfold comFin; rw [hD]; rcases h with h | h <;> simp [h]
theorem comFin_yes {D p : Bool} {s : ByteArray} {R : Option ByteArray} (hR : R = comFin p s) (hD : dollarB s.data.toList = D) (h : (D && p) = false) (h2 : s.size ≤ 65535) : R = some s := by
  rw [hR]; unfold comFin; rw [hD, h]; simp; omega

set_option maxHeartbeats 4000000 in
theorem common_any (f g : ByteArray) (w : World) (hf : f.size ≤ 1048576) (hg : g.size ≤ 1048576) (hT : Tabs w) :
    Calls Tryd.prog 22 #[.string f, .string g] w (ComPost w (comB f g)) := by
  have CF : Hid (∀ w, Tabs w → Calls Tryd.prog 12 #[.string f] w fun e w' => e = .returned (.bool (filterB f)) ∧ Below w.heap.size w w') := fun w hT => filter_any indexByte_said valid_said contains_said f w (by omega) hT
  have CG : Hid (∀ w, Tabs w → Calls Tryd.prog 12 #[.string g] w fun e w' => e = .returned (.bool (filterB g)) ∧ Below w.heap.size w w') := fun w hT => filter_any indexByte_said valid_said contains_said g w (by omega) hT
  have CA : Hid (∀ w, Calls Tryd.prog 33 #[.string f] w fun e w' => ∃ v, e = .returned v ∧ Sl w' v (wideB f) ∧ Below w.heap.size w w') := fun w => wide_any indexByte_said f w (by omega)
  have CB : Hid (∀ w, Calls Tryd.prog 33 #[.string g] w fun e w' => ∃ v, e = .returned v ∧ Sl w' v (wideB g) ∧ Below w.heap.size w w') := fun w => wide_any indexByte_said g w (by omega)
  have CHH : Hid (∀ s w, Calls Tryd.prog 30 #[.string s] w fun e w' => e = .returned (.bool (dollarB s.data.toList)) ∧ w = w') := fun s w => hidden_any dollar_said s w
  obtain ⟨R, hR⟩ : ∃ R, comB f g = R := ⟨_, rfl⟩
  rw [hR]
  have HR0 : Hid (R = comB f g) := hR.symm
  clear hR
  unfold comB at HR0
  have hl1 := wideB_len f
  have hl2 := wideB_len g
  have CM : Hid (∀ v1 v2 w, Sl w v1 (wideB f) → Sl w v2 (wideB g) → Calls Tryd.prog 37 #[v1, v2] w (MeetPost w (shortB (wideB f) (wideB g)))) := fun v1 v2 w h1 h2 => meet_any _ _ v1 v2 w h1 h2 (by omega) (by omega)
  have CJ : Hid (∀ l, shortB (wideB f) (wideB g) = some l → ∀ v w, Sl w v l → Calls Tryd.prog 38 #[v, .string ⟨#[47]⟩] w fun e w' => e = .returned (.string (joinB l)) ∧ Below w.heap.size w w') := fun l hl v w hS => by
    refine join_any l v w hS ?_ ?_ ?_
    · obtain ⟨r, hr⟩ := wideB_cons f
      obtain ⟨q, hq⟩ := wideB_cons g
      rw [hr, hq] at hl
      exact shortB_ne (wideB_hd f) (wideB_hd g) hl
    · have := shortB_len _ _ _ hl; omega
    · intro x hx
      rcases shortB_mem _ _ _ hl x hx with (h | h) | rfl
      · have := wideB_size f x h; omega
      · have := wideB_size g x h; omega
      · show 0 ≤ _; omega
  obtain ⟨r1, hr1⟩ := wideB_cons f
  obtain ⟨r2, hr2⟩ := wideB_cons g
  have hf0 : Hid ((wideB f)[0]? = some (wideH f)) := by show _ = _; rw [hr1]; rfl
  have hn0 : Hid ((wideB g)[0]? = some (wideH g)) := by show _ = _; rw [hr2]; rfl
  have hne := wideB_ne f
  have hnen := wideB_ne g
  have hpf : (0 : Int) < ((wideB f).length : Int) := by rw [hr1]; simp
  have hpn : (0 : Int) < ((wideB g).length : Int) := by rw [hr2]; simp
  clear hr1 hr2 r1 r2
  generalize filterB f = F at *
  generalize filterB g = G at *
  generalize wideH f = hd at *
  generalize wideH g = hdn at *
  generalize wideB f = Lf at *
  generalize wideB g = Ln at *
  cases F
  · have HX : Hid (R = none) := by show _ = _; rw [HR0.out]; rfl
    clear CG CA CB CHH CM CJ
    go_enter Tryd.func22, Tryd.ntmps22
    go_wp2_with fail
    refine (CF.out _ hT).mono ?_
    rintro e w1 ⟨rfl, hb⟩
    go_wp2
    go_ret2
    exact com_none HX.out hb
  cases G
  · have HX : Hid (R = none) := by show _ = _; rw [HR0.out]; rfl
    clear CA CB CHH CM CJ
    go_enter Tryd.func22, Tryd.ntmps22
    go_wp2_with fail
    refine (CF.out _ hT).mono ?_
    rintro e w1 ⟨rfl, hb⟩
    go_wp2_with fail
    refine (CG.out _ (hT.below hb)).mono ?_
    rintro e w2 ⟨rfl, hb2⟩
    go_wp2
    go_ret2
    exact com_none HX.out (hb.trans (hb2.mono hb.size))
  go_enter Tryd.func22, Tryd.ntmps22
  go_wp2_with fail
  refine (CF.out _ hT).mono ?_
  rintro e w1 ⟨rfl, hb⟩
  go_wp2_with fail
  refine (CG.out _ (hT.below hb)).mono ?_
  rintro e w2 ⟨rfl, hb2⟩
  go_wp2_with fail
  refine (CA.out _).mono ?_
  rintro e w3 ⟨v, rfl, hS, hb3⟩
  go_wp2_with fail
  refine (CB.out _).mono ?_
  rintro e w4 ⟨v4, rfl, hS4, hb4⟩
  have hS3 := hS.below hb4
  have hb5 := (hb.trans (hb2.mono hb.size))
  have hb6 := (hb5.trans (hb3.mono hb5.size))
  have hb7 := Lib.hid (hb6.trans (hb4.mono hb6.size))
  clear hb hb2 hb3 hb4 hb5 hb6 hS CF CG CA CB
  go_wp2_with fail
  refine (CM.out _ _ _ hS3 hS4).mono ?_
  rintro e w5 ⟨⟨v5, rfl, hS5⟩, hb8⟩
  cases hr : shortB Lf Ln with
  | none =>
    have HX : Hid (R = none) := by show _ = _; rw [HR0.out, hr]; rfl
    clear CHH CM CJ
    go_wp2
    go_ret2
    exact com_none HX.out (hb7.out.trans (hb8.mono hb7.out.size))
  | some l =>
    have hSl := hS5 l hr
    have CJ2 := Lib.hid (CJ.out l hr)
    have HR : Hid (R = comFin (hd.toList == [43] || hdn.toList == [43]) (if (joinB l).toList == [] then ⟨#[97]⟩ else joinB l)) := by show _ = _; rw [HR0.out, hr]; rfl
    have hb9 := Lib.hid (hb7.out.trans (hb8.mono hb7.out.size))
    have HS3 := Lib.hid (hS3.below hb8)
    have HS4 := Lib.hid (hS4.below hb8)
    clear hb7 hb8 CM CJ hS5 hr HR0 hS3 hS4
    go_wp2_with fail
    refine (CJ2.out _ _ hSl).mono ?_
    rintro e w6 ⟨rfl, hb10⟩
    have hB := hb9.out.trans (hb10.mono hb9.out.size)
    obtain ⟨p, cap, rfl, hc1, hc2, hcells⟩ := HS3.out.below hb10
    obtain ⟨b, o, rfl, hcell⟩ := hcells.resolve_left hne
    obtain ⟨p2, cap2, rfl, hc12, hc22, hcells2⟩ := HS4.out.below hb10
    obtain ⟨b2, o2, rfl, hcell2⟩ := hcells2.resolve_left hnen
    have h00 := hcell 0 _ hf0.out
    have h20 := hcell2 0 _ hn0.out
    simp only [Nat.add_zero] at h00 h20
    clear hcell hcells hcell2 hcells2 hf0 hn0 HS3 HS4 hb9 hb10 CJ2 hSl
    generalize joinB l = s at *
    cases h0 : (s.toList == [])
    · rw [h0] at HR
      simp only [Bool.false_eq_true, if_false] at HR
      have CH := Lib.hid (CHH.out s)
      obtain ⟨D, hDD⟩ : ∃ D, dollarB s.data.toList = D := ⟨_, rfl⟩
      rw [hDD] at CH
      have hD := Lib.hid hDD
      clear hDD CHH
      cases D
      · have hDp : (false && (hd.toList == [43] || hdn.toList == [43])) = false := rfl
        by_cases hlen : s.size ≤ 65535
        · have hle : decide ((65535 : Int) < (s.size : Int)) = false := by simp; omega
          have HX := Lib.hid (comFin_yes HR.out hD.out hDp hlen)
          go_wp2_with (go_at_call 30; refine (CH.out _).mono ?_; rintro e w8 ⟨rfl, rfl⟩)
          go_ret2
          exact com_some HX.out hB
        · have hle : decide ((65535 : Int) < (s.size : Int)) = true := by simp; omega
          have HX := Lib.hid (comFin_no HR.out hD.out (.inr (by omega)))
          go_wp2_with (go_at_call 30; refine (CH.out _).mono ?_; rintro e w8 ⟨rfl, rfl⟩)
          go_ret2
          exact com_none HX.out hB
      · cases e1 : (hd.toList == [43])
        · cases e2 : (hdn.toList == [43])
          · have hDp : (true && (hd.toList == [43] || hdn.toList == [43])) = false := by rw [e1, e2]; rfl
            by_cases hlen : s.size ≤ 65535
            · have hle : decide ((65535 : Int) < (s.size : Int)) = false := by simp; omega
              have HX := Lib.hid (comFin_yes HR.out hD.out hDp hlen)
              go_wp2_with (go_at_call 30; refine (CH.out _).mono ?_; rintro e w8 ⟨rfl, rfl⟩)
              go_ret2
              exact com_some HX.out hB
            · have hle : decide ((65535 : Int) < (s.size : Int)) = true := by simp; omega
              have HX := Lib.hid (comFin_no HR.out hD.out (.inr (by omega)))
              go_wp2_with (go_at_call 30; refine (CH.out _).mono ?_; rintro e w8 ⟨rfl, rfl⟩)
              go_ret2
              exact com_none HX.out hB
          · have HX := Lib.hid (comFin_no HR.out hD.out (.inl (by rw [e1, e2]; rfl)))
            go_wp2_with (go_at_call 30; refine (CH.out _).mono ?_; rintro e w8 ⟨rfl, rfl⟩)
            go_ret2
            exact com_none HX.out hB
        · have HX := Lib.hid (comFin_no HR.out hD.out (.inl (by rw [e1]; rfl)))
          go_wp2_with (go_at_call 30; refine (CH.out _).mono ?_; rintro e w8 ⟨rfl, rfl⟩)
          go_ret2
          exact com_none HX.out hB
    · rw [h0] at HR
      simp only [if_true] at HR
      have CH := Lib.hid (CHH.out ⟨#[97]⟩)
      have hDD : dollarB (⟨#[97]⟩ : ByteArray).data.toList = false := rfl
      rw [hDD] at CH
      have hD := Lib.hid hDD
      have HX := Lib.hid (comFin_yes HR.out hD.out rfl (by decide))
      clear hDD CHH
      go_wp2_with (go_at_call 30; refine (CH.out _).mono ?_; rintro e w8 ⟨rfl, rfl⟩)
      go_ret2
      exact com_some HX.out hB

theorem meets_any (f g : ByteArray) (w : World) (hf : f.size ≤ 1048576) (hg : g.size ≤ 1048576) (hT : Tabs w) :
    Calls Tryd.prog 23 #[.string f, .string g] w fun e w' => e = .returned (.bool (comB f g).isSome) ∧ Below w.heap.size w w' := by
  have CC := Lib.hid (common_any f g w hf hg hT)
  generalize comB f g = R at *
  go_enter Tryd.func23, Tryd.ntmps23
  go_wp2_with fail
  refine CC.out.mono ?_
  rintro e w1 ⟨rfl, hb⟩
  go_wp2
  go_ret
  exact ⟨rfl, hb⟩
end Go.Proofs.YtfkbnemhkkbjgaaDoor
