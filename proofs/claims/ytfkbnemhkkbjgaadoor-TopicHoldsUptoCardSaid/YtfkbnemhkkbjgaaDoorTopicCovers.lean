/- THE PROGRAM's wide and Covers. -/
import Derived.ScopeJumps
import Derived.Test.YtfkbnemhkkbjgaaDoorTopicMatch
import Derived.Test.YtfkbnemhkkbjgaaDoorTopicRefE
namespace Go.Proofs.YtfkbnemhkkbjgaaDoor
open Go Go.RowKit

set_option maxHeartbeats 1000000 in
theorem wide_any (hI : IndexByteSaid) (s : ByteArray) (w : World) (hs : s.size ≤ 1048576) :
    Calls Tryd.prog 33 #[.string s] w fun e w' => ∃ v, e = .returned v ∧ Sl w' v (wideB s) ∧ Below w.heap.size w w' := by
  have CL : Hid (∀ w, Calls Tryd.prog 14 #[.string s] w fun e w' => ∃ v, e = .returned v ∧ Sl w' v (levels s) ∧ Below w.heap.size w w') := fun w => levels_any hI s w hs
  have H1 := Lib.hid (wideB_one s)
  have H2 := Lib.hid (wideB_two s)
  have H3 := Lib.hid (wideB_else s)
  have HL : Hid (headS s = (levels s).headD ByteArray.empty) := rfl
  have hne := levels_ne s
  generalize wideB s = WB at *
  generalize headS s = hd at *
  generalize levels s = L at *
  obtain ⟨x, r, rfl⟩ : ∃ x r, L = x :: r := by cases L with | nil => exact absurd rfl hne | cons x r => exact ⟨x, r, rfl⟩
  obtain rfl : hd = x := HL.out
  clear HL hne
  cases h1 : (hd.toList == [35])
  · cases h2 : (s.toList == [47, 35])
    · have HE := Lib.hid (H3.out h1 h2)
      clear H1 H2 H3
      go_enter Tryd.func33, Tryd.ntmps33
      go_wp2_with fail
      refine (CL.out _).mono ?_
      rintro e w2 ⟨v, rfl, hS, hb⟩
      have HSl := Lib.hid hS
      obtain ⟨p, cap, rfl, hc1, hc2, hcells⟩ := hS
      obtain ⟨b, o, rfl, hcell⟩ := hcells.resolve_left (by simp)
      have h00 := hcell 0 _ rfl
      simp only [Nat.add_zero] at h00
      clear hcell hcells CL
      go_wp2
      go_ret
      exact ⟨_, rfl, by rw [HE.out]; exact HSl.out, hb⟩
    · have HE := Lib.hid (H2.out h1 h2)
      clear H1 H2 H3
      go_enter Tryd.func33, Tryd.ntmps33
      go_wp2_with fail
      refine (CL.out _).mono ?_
      rintro e w2 ⟨v, rfl, hS, hb⟩
      obtain ⟨p, cap, rfl, hc1, hc2, hcells⟩ := hS
      obtain ⟨b, o, rfl, hcell⟩ := hcells.resolve_left (by simp)
      have h00 := hcell 0 _ rfl
      simp only [Nat.add_zero] at h00
      clear hcell hcells CL
      go_wp2
      go_ret
      exact ⟨_, rfl, by rw [HE.out]; exact Sl.new3 _ _ _ _ _, hb.alloc hb.size _⟩
  · have HW := Lib.hid (H1.out h1)
    clear H1 H2 H3
    go_enter Tryd.func33, Tryd.ntmps33
    go_wp2_with fail
    refine (CL.out _).mono ?_
    rintro e w2 ⟨v, rfl, hS, hb⟩
    obtain ⟨p, cap, rfl, hc1, hc2, hcells⟩ := hS
    obtain ⟨b, o, rfl, hcell⟩ := hcells.resolve_left (by simp)
    have h00 := hcell 0 _ rfl
    simp only [Nat.add_zero] at h00
    clear hcell hcells CL
    go_wp2
    go_ret
    exact ⟨_, rfl, by rw [HW.out]; exact Sl.new2 _ _ _ _, hb.alloc hb.size _⟩

theorem Exit.jump_ret {l : Nat} {J : Act → World → Prop} {Q : Exit → Act → World → Prop} {a : Act} {w : World} : Exit.jump l J Q .ret a w = Q .ret a w := rfl

/-- what holds at the jump to the label: the answer is no -/
def NoJ (w0 : World) (B : Prop) (n : Nat) (a : Act) (w : World) : Prop := a.defers = [] ∧ a.tmps.size = n ∧ Below w0.heap.size w0 w ∧ B

set_option maxHeartbeats 4000000 in
theorem covers_any (hI : IndexByteSaid) (hV : ValidSaid) (hC : ContainsSaid) (hD : DollarSaid) (f g : ByteArray) (w : World) (hf : f.size ≤ 1048576) (hg : g.size ≤ 1048576) (hT : Tabs w) :
    Calls Tryd.prog 19 #[.string f, .string g] w fun e w' => e = .returned (.bool (covB f g)) ∧ Below w.heap.size w w' := by
  have CF : Hid (∀ w, Tabs w → Calls Tryd.prog 12 #[.string f] w fun e w' => e = .returned (.bool (filterB f)) ∧ Below w.heap.size w w') := fun w hT => filter_any hI hV hC f w hf hT
  have CG : Hid (∀ w, Tabs w → Calls Tryd.prog 12 #[.string g] w fun e w' => e = .returned (.bool (filterB g)) ∧ Below w.heap.size w w') := fun w hT => filter_any hI hV hC g w hg hT
  have CA : Hid (∀ w, Calls Tryd.prog 33 #[.string f] w fun e w' => ∃ v, e = .returned v ∧ Sl w' v (wideB f) ∧ Below w.heap.size w w') := fun w => wide_any hI f w hf
  have CB : Hid (∀ w, Calls Tryd.prog 33 #[.string g] w fun e w' => ∃ v, e = .returned v ∧ Sl w' v (wideB g) ∧ Below w.heap.size w w') := fun w => wide_any hI g w hg
  have CH : Hid (∀ w, Calls Tryd.prog 30 #[.string (wideH g)] w fun e w' => e = .returned (.bool (dollarB (wideH g).data.toList)) ∧ w = w') := fun w => hidden_any hD _ w
  unfold covB
  generalize filterB f = F at *
  generalize filterB g = G at *
  have HL : Hid (wideH f = (wideB f).headD ByteArray.empty) := rfl
  have HLn : Hid (wideH g = (wideB g).headD ByteArray.empty) := rfl
  have hne := wideB_ne f
  have hnen := wideB_ne g
  have hll := wideB_len f
  have hlln := wideB_len g
  generalize wideH f = hd at *
  generalize wideH g = hdn at *
  generalize wideB f = Lf at *
  generalize wideB g = Ln at *
  obtain ⟨x, r, hLf⟩ : ∃ x r, Lf = x :: r := by cases Lf with | nil => exact absurd rfl hne | cons x r => exact ⟨x, r, rfl⟩
  obtain ⟨y, q, hLn⟩ : ∃ x r, Ln = x :: r := by cases Ln with | nil => exact absurd rfl hnen | cons x r => exact ⟨x, r, rfl⟩
  obtain rfl : hd = x := by have := HL.out; rw [hLf] at this; exact this
  obtain rfl : hdn = y := by have := HLn.out; rw [hLn] at this; exact this
  have hf0 : Hid (Lf[0]? = some hd) := by rw [hLf]; rfl
  have hn0 : Hid (Ln[0]? = some hdn) := by rw [hLn]; rfl
  have hpf : (0 : Int) < (Lf.length : Int) := by rw [hLf]; simp
  have hpn : (0 : Int) < (Ln.length : Int) := by rw [hLn]; simp
  clear HL HLn hLf hLn
  generalize dollarB hdn.data.toList = D at *
  obtain ⟨ANS, hANS⟩ : ∃ ANS, (F && (G && (!(hd.toList == [43] && D) && coversB Lf Ln))) = ANS := ⟨_, rfl⟩
  rw [hANS]
  have HANS := Lib.hid hANS
  clear hANS
  obtain ⟨B, hB⟩ : ∃ B : Prop, B = (ANS = false) := ⟨_, rfl⟩
  have HB := Lib.hid hB
  clear hB
  go_enter Tryd.func19, Tryd.ntmps19
  go_wp2
  refine wp_scope_jumps 0 (NoJ w B 82) (fun _ _ => 0) rfl ?_ ?_
  · cases F
    · clear CG CA CB CH
      go_wp2_with fail
      refine (CF.out _ hT).mono ?_
      rintro e w1 ⟨rfl, hb⟩
      go_wp2
      rw [Exit.jump_ret]
      go_ret
      exact ⟨ret_bool (by rw [← HANS.out]; rfl), hb⟩
    cases G
    · clear CA CB CH
      go_wp2_with fail
      refine (CF.out _ hT).mono ?_
      rintro e w1 ⟨rfl, hb⟩
      go_wp2_with fail
      refine (CG.out _ (hT.below hb)).mono ?_
      rintro e w2 ⟨rfl, hb2⟩
      go_wp2
      rw [Exit.jump_ret]
      go_ret
      exact ⟨ret_bool (by rw [← HANS.out]; rfl), hb.trans (hb2.mono hb.size)⟩
    go_wp2_with fail
    refine (CF.out _ hT).mono ?_
    rintro e w1 ⟨rfl, hb⟩
    go_wp2_with fail
    refine (CG.out _ (hT.below hb)).mono ?_
    rintro e w2 ⟨rfl, hb2⟩
    go_wp2_with fail
    refine (CA.out _).mono ?_
    rintro e w3 ⟨v, rfl, hS, hb3⟩
    go_wp2_with fail
    refine (CB.out _).mono ?_
    rintro e w4 ⟨v4, rfl, hS4, hb4⟩
    have hS3 := hS.below hb4
    have hb5 := (hb.trans (hb2.mono hb.size))
    have hb6 := (hb5.trans (hb3.mono hb5.size))
    have hb7 := (hb6.trans (hb4.mono hb6.size))
    clear hb hb2 hb3 hb4 hb5 hb6 hS CF CG CA CB
    obtain ⟨p, cap, rfl, hc1, hc2, hcells⟩ := hS3
    obtain ⟨b, o, rfl, hcell⟩ := hcells.resolve_left hne
    obtain ⟨p2, cap2, rfl, hc12, hc22, hcells2⟩ := hS4
    obtain ⟨b2, o2, rfl, hcell2⟩ := hcells2.resolve_left hnen
    have h00 := hcell 0 _ hf0.out
    have h20 := hcell2 0 _ hn0.out
    simp only [Nat.add_zero] at h00 h20
    have HC := Lib.hid hcell
    have HC2 := Lib.hid hcell2
    clear hcell hcells hcell2 hcells2 hf0 hn0
    have hnoJ : Hid (∀ (a : Act) (wx : World), a.defers = [] → a.tmps.size = 82 → Below w.heap.size w wx → B → NoJ w B 82 a wx) := fun a wx h1 h2 h3 h4 => ⟨h1, h2, h3, h4⟩
    by_cases hWD : (hd.toList == [43]) = true ∧ D = true
    · obtain ⟨h1, rfl⟩ := hWD
      have HBB : Hid B := by show B; rw [HB.out, ← HANS.out, h1]; rfl
      go_wp2_with (go_at_call 30; refine (CH.out _).mono ?_; rintro e w8 ⟨rfl, rfl⟩)
      go_step3
      exact ⟨rfl, hnoJ.out _ _ rfl rfl hb7 HBB.out⟩
    · have HR : Hid (ANS = coversB Lf Ln) := by show _ = _; rw [← HANS.out]; cases h1 : (hd.toList == [43]) <;> cases D <;> simp_all
      have HE : Hid (B = (coversB Lf Ln = false)) := by show B = _; rw [HB.out, HR.out]
      have hc : (hd.toList == [43]) = false ∨ ((hd.toList == [43]) = true ∧ D = false) := by cases h1 : (hd.toList == [43]) <;> cases D <;> simp_all
      clear hWD HB HANS
      rcases hc with h1 | ⟨h1, rfl⟩
      all_goals
        go_wp2_with (go_at_call 30; refine (CH.out _).mono ?_; rintro e w8 ⟨rfl, rfl⟩)
        clear h00 h20 h1
        go_loopw [7] (fun i wr => ∃ k q : Nat, k ≤ Lf.length ∧ k ≤ Ln.length ∧ i = .int .i64 k ∧ Hid (coversB Lf Ln = coversB (Lf.drop k) (Ln.drop k)) ∧ wr = w4.drewN q) (fun i _ => Lf.length - (intOf i).toNat)
        case atStart => exact ⟨0, 0, Nat.zero_le _, Nat.zero_le _, rfl, rfl, rfl⟩
        case round =>
          obtain ⟨k, q, hk, hkn, rfl, HA, rfl⟩ := hrel
          by_cases hlt : k < Lf.length
          · obtain ⟨x, hx⟩ : ∃ x, Lf[k]? = some x := ⟨_, List.getElem?_eq_getElem hlt⟩
            have hck := HC.out k x hx
            have HD1 := Lib.hid (drop_at hx)
            have hlt' : (k : Int) < (Lf.length : Int) := by omega
            clear hx
            cases h1 : (x.toList == [35])
            · have h1' := neS h1
              by_cases hlt2 : k < Ln.length
              · obtain ⟨y, hy⟩ : ∃ y, Ln[k]? = some y := ⟨_, List.getElem?_eq_getElem hlt2⟩
                have hck2 := HC2.out k y hy
                have HD2 := Lib.hid (drop_at hy)
                clear hy
                have hge : decide (Ln.length ≤ k) = false := by simp; omega
                have hge' : decide ((Ln.length : Int) ≤ (k : Int)) = false := by simp; omega
                cases h2 : (y.toList == [35])
                · have HA2 := Lib.hid (show coversB Lf Ln = ((x.toList == [43] || x.toList == y.toList) && coversB (Lf.drop (k + 1)) (Ln.drop (k + 1))) by rw [HA.out, HD1.out, HD2.out, coversB_cons _ _ _ _ h1 h2])
                  clear HA HD1 HD2
                  cases h3 : (x.toList == [43])
                  · have h3' := neS h3
                    cases h4 : (x.toList == y.toList)
                    · have h4' := neS h4
                      have HBB : Hid B := by show B; rw [HE.out, HA2.out, h3, h4]; rfl
                      clear HA2
                      go_wp2
                      go_quiet (fail)
                      go_wp2
                      go_step3
                      exact ⟨rfl, hnoJ.out _ _ rfl rfl (below_drewN (below_drewN hb7 _) _) HBB.out⟩
                    · have h4' := neSf h4
                      have HF := Lib.hid (show coversB Lf Ln = coversB (Lf.drop (k + 1)) (Ln.drop (k + 1)) by rw [HA2.out, h4]; simp)
                      clear HA2
                      go_wp2
                      go_quiet (fail)
                      go_wp2
                      go_roundw
                      case rel => exact ⟨k + 1, _, by omega, by omega, by go_num, HF, rfl⟩
                      case measure => simp [intOf]; omega
                  · have h3' := neSf h3
                    have HF := Lib.hid (show coversB Lf Ln = coversB (Lf.drop (k + 1)) (Ln.drop (k + 1)) by rw [HA2.out, h3]; simp)
                    clear HA2
                    go_wp2
                    go_quiet (fail)
                    go_wp2
                    go_roundw
                    case rel => exact ⟨k + 1, _, by omega, by omega, by go_num, HF, rfl⟩
                    case measure => simp [intOf]; omega
                · have HBB : Hid B := by show B; rw [HE.out, HA.out, HD1.out, HD2.out, coversB_stop _ _ _ _ h1 h2]
                  clear HA HD1 HD2
                  go_wp2
                  go_quiet (fail)
                  go_wp2
                  go_step3
                  exact ⟨rfl, hnoJ.out _ _ rfl rfl (below_drewN (below_drewN hb7 _) _) HBB.out⟩
              · have hge : decide (Ln.length ≤ k) = true := by simp; omega
                have hge' : decide ((Ln.length : Int) ≤ (k : Int)) = true := by simp; omega
                have HBB : Hid B := by show B; rw [HE.out, HA.out, HD1.out, List.drop_of_length_le (l := Ln) (by omega), coversB_none _ _ h1]
                clear HA HD1
                go_wp2
                go_quiet (fail)
                go_wp2
                go_step3
                exact ⟨rfl, hnoJ.out _ _ rfl rfl (below_drewN (below_drewN hb7 _) _) HBB.out⟩
            · have h1' := neSf h1
              have HF := Lib.hid (show ANS = true by rw [HR.out, HA.out, HD1.out, coversB_hash _ _ _ h1])
              clear HA HD1
              go_wp2
              rw [Exit.jump_ret]
              go_ret
              exact ⟨ret_bool HF.out.symm, below_drewN hb7 _⟩
          · obtain rfl : k = Lf.length := by omega
            have HF := Lib.hid (show ANS = ((Lf.length : Int) == (Ln.length : Int)) by
              rw [HR.out, HA.out, List.drop_length, coversB_nil, List.length_drop, Bool.eq_iff_iff]; simp; omega)
            clear HA
            go_wp2
            rw [Exit.jump_ret]
            go_ret
            exact ⟨ret_bool HF.out.symm, below_drewN hb7 _⟩
  · rintro a w1 ⟨hd1, hs1, hb1, hB1⟩
    refine wp_seq ?_
    refine wp_skip ?_
    refine wp_seq ?_
    refine wp_region_lit ?_
    refine wpList_plain rfl ?_
    intro K hK
    refine BigFrame.wp_assign _ rfl ?_
    apply hK
    apply wpList_nil
    refine wp_ret ?_
    rw [Exit.jump_ret]
    refine bodyPost_ret (fn := Tryd.f19) (results_tmp rfl _ _ _) hd1 ?_
    refine ⟨?_, hb1⟩
    have hB2 : ANS = false := by rw [← HB.out]; exact hB1
    rw [hB2]
    simp [Act.put, hs1]
    rfl
end Go.Proofs.YtfkbnemhkkbjgaaDoor
