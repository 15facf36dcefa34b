/- THE REFERENCE's Covers. -/
import Derived.Test.YtflomcbclofbaaaDoorTopicRefD
namespace Go.Proofs.YtflomcbclofbaaaDoor
open Go Go.RowKit

def wideH (s : ByteArray) : ByteArray := (wideB s).headD ByteArray.empty
def covB (f g : ByteArray) : Bool := filterB f && (filterB g && (!((wideH f).toList == [43] && dollarB (wideH g).data.toList) && coversB (wideB f) (wideB g)))

theorem dollarB_plus (x : ByteArray) (h : x.toList = [43]) : dollarB x.data.toList = false := by
  rw [ByteArray.toList_eq] at h; rw [h]; rfl
theorem dollarB_empty (x : ByteArray) (h : x.toList = []) : dollarB x.data.toList = false := by
  rw [ByteArray.toList_eq] at h; rw [h]; rfl
theorem size_pos_of (x : ByteArray) (h : ¬ x.toList = []) : 0 < x.size := by
  rcases Nat.eq_zero_or_pos x.size with h0 | h0
  · exact absurd ((toList_nil_iff x).2 h0) h
  · exact h0

set_option maxHeartbeats 2000000 in
theorem refCovers_any (hV : ValidSaid) (f g : ByteArray) (w : World) (hf : f.size ≤ 1048576) (hg : g.size ≤ 1048576) (hT : Tabs w) :
    Calls Tryd.prog 8 #[.string f, .string g] w fun e w' => e = .returned (.bool (covB f g)) ∧ Below w.heap.size w w' := by
  have CF : Hid (∀ w, Tabs w → Calls Tryd.prog 27 #[.string f] w fun e w' => e = .returned (.bool (filterB f)) ∧ Below w.heap.size w w') := fun w hT => refFilter_any hV f w hf hT
  have CG : Hid (∀ w, Tabs w → Calls Tryd.prog 27 #[.string g] w fun e w' => e = .returned (.bool (filterB g)) ∧ Below w.heap.size w w') := fun w hT => refFilter_any hV g w hg hT
  unfold covB
  generalize filterB f = F at *
  generalize filterB g = G at *
  cases F
  · go_enter Tryd.func8, Tryd.ntmps8
    go_wp2_with fail
    refine (CF.out _ hT).mono ?_
    rintro e w1 ⟨rfl, hb⟩
    go_wp2
    go_ret
    exact ⟨rfl, hb⟩
  cases G
  · go_enter Tryd.func8, Tryd.ntmps8
    go_wp2_with fail
    refine (CF.out _ hT).mono ?_
    rintro e w1 ⟨rfl, hb⟩
    go_wp2_with fail
    refine (CG.out _ (hT.below hb)).mono ?_
    rintro e w2 ⟨rfl, hb2⟩
    go_wp2
    go_ret
    exact ⟨rfl, hb.trans (hb2.mono hb.size)⟩
  have CA : Hid (∀ w, Calls Tryd.prog 28 #[.string f] w fun e w' => ∃ v, e = .returned v ∧ Sl w' v (wideB f) ∧ Below w.heap.size w w') := fun w => refSpread_any f w hf
  have CB : Hid (∀ w, Calls Tryd.prog 28 #[.string g] w fun e w' => ∃ v, e = .returned v ∧ Sl w' v (wideB g) ∧ Below w.heap.size w w') := fun w => refSpread_any g w hg
  have HL : Hid (wideH f = (wideB f).headD ByteArray.empty) := rfl
  have HLn : Hid (wideH g = (wideB g).headD ByteArray.empty) := rfl
  have hne := wideB_ne f
  have hnen := wideB_ne g
  have hll := wideB_len f
  have hlln := wideB_len g
  generalize wideH f = hd at *
  generalize wideH g = hdn at *
  generalize wideB f = Lf at *
  generalize wideB g = Ln at *
  obtain ⟨x, r, hLf⟩ : ∃ x r, Lf = x :: r := by cases Lf with | nil => exact absurd rfl hne | cons x r => exact ⟨x, r, rfl⟩
  obtain ⟨y, q, hLn⟩ : ∃ x r, Ln = x :: r := by cases Ln with | nil => exact absurd rfl hnen | cons x r => exact ⟨x, r, rfl⟩
  obtain rfl : hd = x := by have := HL.out; rw [hLf] at this; exact this
  obtain rfl : hdn = y := by have := HLn.out; rw [hLn] at this; exact this
  have hf0 : Hid (Lf[0]? = some hd) := by rw [hLf]; rfl
  have hn0 : Hid (Ln[0]? = some hdn) := by rw [hLn]; rfl
  have hpf : (0 : Int) < (Lf.length : Int) := by rw [hLf]; simp
  have hpn : (0 : Int) < (Ln.length : Int) := by rw [hLn]; simp
  clear HL HLn hLf hLn
  have HP := Lib.hid (dollarB_plus hdn)
  have HE := Lib.hid (dollarB_empty hdn)
  have HG := Lib.hid (dollarB_get hdn)
  have HZ := Lib.hid (size_pos_of hdn)
  generalize dollarB hdn.data.toList = D at *
  -- what the guard comes to
  have hcase : ((hd.toList == [43]) = false) ∨ ((hd.toList == [43]) = true ∧ (hdn.toList == [43]) = true ∧ D = false) ∨
      ((hd.toList == [43]) = true ∧ (hdn.toList == [43]) = false ∧ hdn.toList = [] ∧ D = false) ∨
      ((hd.toList == [43]) = true ∧ (hdn.toList == [43]) = false ∧ ¬ hdn.toList = [] ∧ D = false) ∨
      ((hd.toList == [43]) = true ∧ (hdn.toList == [43]) = false ∧ ¬ hdn.toList = [] ∧ D = true) := by
    cases h1 : (hd.toList == [43])
    · exact .inl rfl
    · cases h2 : (hdn.toList == [43])
      · by_cases h3 : hdn.toList = []
        · exact .inr (.inr (.inl ⟨rfl, rfl, h3, HE.out h3⟩))
        · cases D
          · exact .inr (.inr (.inr (.inl ⟨rfl, rfl, h3, rfl⟩)))
          · exact .inr (.inr (.inr (.inr ⟨rfl, rfl, h3, rfl⟩)))
      · exact .inr (.inl ⟨rfl, rfl, HP.out (by simpa using h2)⟩)
  clear HP HE
  rcases hcase with h1 | ⟨h1, h2, rfl⟩ | ⟨h1, h2, h3, rfl⟩ | ⟨h1, h2, h3, rfl⟩ | ⟨h1, h2, h3, rfl⟩
  · have HC := Lib.hid (show (true && (true && (!((hd.toList == [43]) && D) && coversB Lf Ln))) = coversB Lf Ln by rw [h1]; simp)
    clear HG HZ
    go_enter Tryd.func8, Tryd.ntmps8
    go_wp2_with fail
    refine (CF.out _ hT).mono ?_
    rintro e w1 ⟨rfl, hb⟩
    go_wp2_with fail
    refine (CG.out _ (hT.below hb)).mono ?_
    rintro e w2 ⟨rfl, hb2⟩
    go_wp2_with fail
    refine (CA.out _).mono ?_
    rintro e w3 ⟨v, rfl, hS, hb3⟩
    go_wp2_with fail
    refine (CB.out _).mono ?_
    rintro e w4 ⟨v4, rfl, hS4, hb4⟩
    have hS3 := hS.below hb4
    have hb5 := (hb.trans (hb2.mono hb.size))
    have hb6 := (hb5.trans (hb3.mono hb5.size))
    have hb7 := (hb6.trans (hb4.mono hb6.size))
    clear hb hb2 hb3 hb4 hb5 hb6 hS CF CG CA CB
    have HS1 := Lib.hid hS3
    have HS2 := Lib.hid hS4
    obtain ⟨p, cap, rfl, hc1, hc2, hcells⟩ := hS3
    obtain ⟨b, o, rfl, hcell⟩ := hcells.resolve_left hne
    obtain ⟨p2, cap2, rfl, hc12, hc22, hcells2⟩ := hS4
    obtain ⟨b2, o2, rfl, hcell2⟩ := hcells2.resolve_left hnen
    have h00 := hcell 0 _ hf0.out
    have h20 := hcell2 0 _ hn0.out
    simp only [Nat.add_zero] at h00 h20
    clear hcell hcells hcell2 hcells2 hf0 hn0
    go_wp2_with fail
    refine (refcovers_any _ _ _ _ _ HS1.out HS2.out).mono ?_
    rintro e w6 ⟨rfl, q, rfl⟩
    go_wp2
    go_ret
    exact ⟨ret_bool HC.out.symm, below_drewN hb7 _⟩
  · have HC := Lib.hid (show (true && (true && (!((hd.toList == [43]) && false) && coversB Lf Ln))) = coversB Lf Ln by simp)
    have h2' := neSf h2
    clear HG HZ
    go_enter Tryd.func8, Tryd.ntmps8
    go_wp2_with fail
    refine (CF.out _ hT).mono ?_
    rintro e w1 ⟨rfl, hb⟩
    go_wp2_with fail
    refine (CG.out _ (hT.below hb)).mono ?_
    rintro e w2 ⟨rfl, hb2⟩
    go_wp2_with fail
    refine (CA.out _).mono ?_
    rintro e w3 ⟨v, rfl, hS, hb3⟩
    go_wp2_with fail
    refine (CB.out _).mono ?_
    rintro e w4 ⟨v4, rfl, hS4, hb4⟩
    have hS3 := hS.below hb4
    have hb5 := (hb.trans (hb2.mono hb.size))
    have hb6 := (hb5.trans (hb3.mono hb5.size))
    have hb7 := (hb6.trans (hb4.mono hb6.size))
    clear hb hb2 hb3 hb4 hb5 hb6 hS CF CG CA CB
    have HS1 := Lib.hid hS3
    have HS2 := Lib.hid hS4
    obtain ⟨p, cap, rfl, hc1, hc2, hcells⟩ := hS3
    obtain ⟨b, o, rfl, hcell⟩ := hcells.resolve_left hne
    obtain ⟨p2, cap2, rfl, hc12, hc22, hcells2⟩ := hS4
    obtain ⟨b2, o2, rfl, hcell2⟩ := hcells2.resolve_left hnen
    have h00 := hcell 0 _ hf0.out
    have h20 := hcell2 0 _ hn0.out
    simp only [Nat.add_zero] at h00 h20
    clear hcell hcells hcell2 hcells2 hf0 hn0
    go_wp2_with fail
    refine (refcovers_any _ _ _ _ _ HS1.out HS2.out).mono ?_
    rintro e w6 ⟨rfl, q, rfl⟩
    go_wp2
    go_ret
    exact ⟨ret_bool HC.out.symm, below_drewN hb7 _⟩
  · have HC := Lib.hid (show (true && (true && (!((hd.toList == [43]) && false) && coversB Lf Ln))) = coversB Lf Ln by simp)
    have h2' := neS h2
    clear HG HZ
    go_enter Tryd.func8, Tryd.ntmps8
    go_wp2_with fail
    refine (CF.out _ hT).mono ?_
    rintro e w1 ⟨rfl, hb⟩
    go_wp2_with fail
    refine (CG.out _ (hT.below hb)).mono ?_
    rintro e w2 ⟨rfl, hb2⟩
    go_wp2_with fail
    refine (CA.out _).mono ?_
    rintro e w3 ⟨v, rfl, hS, hb3⟩
    go_wp2_with fail
    refine (CB.out _).mono ?_
    rintro e w4 ⟨v4, rfl, hS4, hb4⟩
    have hS3 := hS.below hb4
    have hb5 := (hb.trans (hb2.mono hb.size))
    have hb6 := (hb5.trans (hb3.mono hb5.size))
    have hb7 := (hb6.trans (hb4.mono hb6.size))
    clear hb hb2 hb3 hb4 hb5 hb6 hS CF CG CA CB
    have HS1 := Lib.hid hS3
    have HS2 := Lib.hid hS4
    obtain ⟨p, cap, rfl, hc1, hc2, hcells⟩ := hS3
    obtain ⟨b, o, rfl, hcell⟩ := hcells.resolve_left hne
    obtain ⟨p2, cap2, rfl, hc12, hc22, hcells2⟩ := hS4
    obtain ⟨b2, o2, rfl, hcell2⟩ := hcells2.resolve_left hnen
    have h00 := hcell 0 _ hf0.out
    have h20 := hcell2 0 _ hn0.out
    simp only [Nat.add_zero] at h00 h20
    clear hcell hcells hcell2 hcells2 hf0 hn0
    go_wp2_with fail
    refine (refcovers_any _ _ _ _ _ HS1.out HS2.out).mono ?_
    rintro e w6 ⟨rfl, q, rfl⟩
    go_wp2
    go_ret
    exact ⟨ret_bool HC.out.symm, below_drewN hb7 _⟩
  · have HC := Lib.hid (show (true && (true && (!((hd.toList == [43]) && false) && coversB Lf Ln))) = coversB Lf Ln by simp)
    have h2' := neS h2
    have h3' : hdn.toList.isEmpty = false := by simpa using h3
    have hz := HZ.out h3
    have h4 := (HG.out hz).symm
    clear HG HZ
    go_enter Tryd.func8, Tryd.ntmps8
    go_wp2_with fail
    refine (CF.out _ hT).mono ?_
    rintro e w1 ⟨rfl, hb⟩
    go_wp2_with fail
    refine (CG.out _ (hT.below hb)).mono ?_
    rintro e w2 ⟨rfl, hb2⟩
    go_wp2_with fail
    refine (CA.out _).mono ?_
    rintro e w3 ⟨v, rfl, hS, hb3⟩
    go_wp2_with fail
    refine (CB.out _).mono ?_
    rintro e w4 ⟨v4, rfl, hS4, hb4⟩
    have hS3 := hS.below hb4
    have hb5 := (hb.trans (hb2.mono hb.size))
    have hb6 := (hb5.trans (hb3.mono hb5.size))
    have hb7 := (hb6.trans (hb4.mono hb6.size))
    clear hb hb2 hb3 hb4 hb5 hb6 hS CF CG CA CB
    have HS1 := Lib.hid hS3
    have HS2 := Lib.hid hS4
    obtain ⟨p, cap, rfl, hc1, hc2, hcells⟩ := hS3
    obtain ⟨b, o, rfl, hcell⟩ := hcells.resolve_left hne
    obtain ⟨p2, cap2, rfl, hc12, hc22, hcells2⟩ := hS4
    obtain ⟨b2, o2, rfl, hcell2⟩ := hcells2.resolve_left hnen
    have h00 := hcell 0 _ hf0.out
    have h20 := hcell2 0 _ hn0.out
    simp only [Nat.add_zero] at h00 h20
    clear hcell hcells hcell2 hcells2 hf0 hn0
    go_wp2_with fail
    refine (refcovers_any _ _ _ _ _ HS1.out HS2.out).mono ?_
    rintro e w6 ⟨rfl, q, rfl⟩
    go_wp2
    go_ret
    exact ⟨ret_bool HC.out.symm, below_drewN hb7 _⟩
  · have HC := Lib.hid (show (true && (true && (!((hd.toList == [43]) && true) && coversB Lf Ln))) = false by rw [h1]; simp)
    have h2' := neS h2
    have h3' : hdn.toList.isEmpty = false := by simpa using h3
    have hz := HZ.out h3
    have h4 := (HG.out hz).symm
    clear HG HZ
    go_enter Tryd.func8, Tryd.ntmps8
    go_wp2_with fail
    refine (CF.out _ hT).mono ?_
    rintro e w1 ⟨rfl, hb⟩
    go_wp2_with fail
    refine (CG.out _ (hT.below hb)).mono ?_
    rintro e w2 ⟨rfl, hb2⟩
    go_wp2_with fail
    refine (CA.out _).mono ?_
    rintro e w3 ⟨v, rfl, hS, hb3⟩
    go_wp2_with fail
    refine (CB.out _).mono ?_
    rintro e w4 ⟨v4, rfl, hS4, hb4⟩
    have hS3 := hS.below hb4
    have hb5 := (hb.trans (hb2.mono hb.size))
    have hb6 := (hb5.trans (hb3.mono hb5.size))
    have hb7 := (hb6.trans (hb4.mono hb6.size))
    clear hb hb2 hb3 hb4 hb5 hb6 hS CF CG CA CB
    have HS1 := Lib.hid hS3
    have HS2 := Lib.hid hS4
    obtain ⟨p, cap, rfl, hc1, hc2, hcells⟩ := hS3
    obtain ⟨b, o, rfl, hcell⟩ := hcells.resolve_left hne
    obtain ⟨p2, cap2, rfl, hc12, hc22, hcells2⟩ := hS4
    obtain ⟨b2, o2, rfl, hcell2⟩ := hcells2.resolve_left hnen
    have h00 := hcell 0 _ hf0.out
    have h20 := hcell2 0 _ hn0.out
    simp only [Nat.add_zero] at h00 h20
    clear hcell hcells hcell2 hcells2 hf0 hn0
    go_wp2
    go_ret
    exact ⟨ret_bool HC.out.symm, hb7⟩
end Go.Proofs.YtflomcbclofbaaaDoor
