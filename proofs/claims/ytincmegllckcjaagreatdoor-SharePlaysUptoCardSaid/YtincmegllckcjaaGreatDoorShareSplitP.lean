/- SHARE: the program's Split. -/
import Derived.Test.YtincmegllckcjaaGreatDoorMTrieRlMatch
import Derived.Test.YtincmegllckcjaaGreatDoorShareAny
namespace Go.Proofs.YtincmegllckcjaaGreatDoor
open Go Go.RowKit Go.Lib
attribute [local go_sem ↓] Go.wp_at_zero Go.wp_at_succ

def SplitPost (s : ByteArray) (w : World) (e : Ending) (w' : World) : Prop := e = .returned (splitV s) ∧ Below w.heap.size w w'
theorem split_no {s : ByteArray} (h : splitK s = none) : splitV s = .tuple #[.string ByteArray.empty, .string ByteArray.empty, .bool false] := by unfold splitV; rw [h]
theorem split_yes {s a b : ByteArray} (h : splitK s = some (a, b)) : splitV s = .tuple #[.string a, .string b, .bool true] := by unfold splitV; rw [h]
theorem valid_any (s : ByteArray) (w : World) (hs : s.size ≤ 1048576) (hT : Tabs w) : Calls Tryz.prog 45 #[.string s] w fun e w' => e = .returned (.bool (Lib.validD s.data.toList)) ∧ Below w.heap.size w w' := by
  exact valid_said s w (by omega) hT
theorem ext_size (s : ByteArray) (a b : Nat) : (s.extract a b).size ≤ s.size := by
  have : (s.extract a b).data.toList.length ≤ s.data.toList.length := by
    rw [ext_list, List.length_take, List.length_drop]; omega
  have e1 : (s.extract a b).data.toList.length = (s.extract a b).size := Array.length_toList
  have e2 : s.data.toList.length = s.size := Array.length_toList
  omega
set_option maxRecDepth 100000 in
set_option maxHeartbeats 8000000 in
theorem split_any (s : ByteArray) (w : World) (hs : s.size ≤ 1048576) (hT : Tabs w) : Calls Tryz.prog 17 #[.string s] w (SplitPost s w) := by
  obtain ⟨PP, hPP⟩ : ∃ PP : Ending → World → Prop, SplitPost s w = PP := ⟨_, rfl⟩
  rw [hPP]
  have HPP := Lib.hid hPP
  have CP := cutPrefix_any s w
  have HT := Lib.hid hT
  cases hp : Lib.hasPrefix s.data.toList pfx with
  | false =>
    rw [hp] at CP
    simp only [Bool.false_eq_true, if_false] at CP
    have CP' := Lib.hid CP
    have CF := filter_any indexByte_said valid_said contains_said s w hs hT
    cases hf : filterB s with
    | false =>
      rw [hf] at CF
      have CF' := Lib.hid CF
      have HV := Lib.hid (split_no (s := s) (by unfold splitK; rw [hp, hf]; simp))
      clear hPP CP CF hT hp hf
      go_enter Tryz.func17, Tryz.ntmps17
      go_wp2_with fail
      refine CP'.out.mono ?_
      rintro e w1 ⟨rfl, hw⟩
      subst hw
      go_wp2_with fail
      refine CF'.out.mono ?_
      rintro e w2 ⟨rfl, hb2⟩
      have HB2 := Lib.hid hb2
      clear hb2
      go_wp2_with fail
      refine bodyPost_ret (v := .tuple #[.string ByteArray.empty, .string ByteArray.empty, .bool false]) (by simp [results, Tryz.results17, go_sem]; rfl) rfl ?_
      rw [← HPP.out]
      exact ⟨by rw [HV.out], HB2.out⟩
    | true =>
      rw [hf] at CF
      have CF' := Lib.hid CF
      have HV := Lib.hid (split_yes (s := s) (a := ByteArray.empty) (b := s) (by unfold splitK; rw [hp, hf]; simp))
      clear hPP CP CF hT hp hf
      go_enter Tryz.func17, Tryz.ntmps17
      go_wp2_with fail
      refine CP'.out.mono ?_
      rintro e w1 ⟨rfl, hw⟩
      subst hw
      go_wp2_with fail
      refine CF'.out.mono ?_
      rintro e w2 ⟨rfl, hb2⟩
      have HB2 := Lib.hid hb2
      clear hb2
      go_wp2_with fail
      refine bodyPost_ret (v := .tuple #[.string ByteArray.empty, .string s, .bool true]) (by simp [results, Tryz.results17, go_sem]; rfl) rfl ?_
      rw [← HPP.out]
      exact ⟨by rw [HV.out], HB2.out⟩
  | true =>
    rw [hp] at CP
    simp only [if_true] at CP
    have CP' := Lib.hid CP
    have hrs : (restS s).size ≤ 1048576 := Nat.le_trans (ext_size _ _ _) hs
    have HKD : Hid (splitK s = if cutK (restS s) < 0 then none else if gnameB ((restS s).extract 0 (cutK (restS s)).toNat).data.toList && filterB ((restS s).extract ((cutK (restS s)).toNat + 1) (restS s).size) then some ((restS s).extract 0 (cutK (restS s)).toNat, (restS s).extract ((cutK (restS s)).toNat + 1) (restS s).size) else none) := by
      show splitK s = _
      conv => lhs; unfold splitK
      rw [if_pos hp]
    have CC := fun w => cut_any (restS s) w hrs
    unfold CutR at CC
    obtain ⟨r, hr⟩ : ∃ r, restS s = r := ⟨_, rfl⟩
    rw [hr] at CP' hrs HKD CC
    by_cases hk : cutK r < 0
    · have HV := Lib.hid (split_no (s := s) (by rw [HKD.out, if_pos hk]))
      simp only [hk, if_true, decide_true, Bool.not_true] at CC
      have CC' : Hid (∀ w, Calls Tryz.prog 43 #[.string r, .string ⟨#[47]⟩] w fun e w' => e = .returned (.tuple #[.string r, .string ByteArray.empty, .bool false]) ∧ Below w.heap.size w w') := CC
      clear hPP CP CC hT hp hr hk
      go_enter Tryz.func17, Tryz.ntmps17
      go_wp2_with fail
      refine CP'.out.mono ?_
      rintro e w1 ⟨rfl, hw⟩
      subst hw
      go_wp2_with fail
      refine (CC'.out _).mono ?_
      rintro e w2 ⟨rfl, hb2⟩
      have HB2 := Lib.hid hb2
      clear hb2
      go_wp2_with fail
      refine bodyPost_ret (v := .tuple #[.string ByteArray.empty, .string ByteArray.empty, .bool false]) (by simp [results, Tryz.results17, go_sem]; rfl) rfl ?_
      rw [← HPP.out]
      exact ⟨by rw [HV.out], HB2.out⟩
    · obtain ⟨n, hn⟩ : ∃ n, r.extract 0 (cutK r).toNat = n := ⟨_, rfl⟩
      obtain ⟨f, hf⟩ : ∃ f, r.extract ((cutK r).toNat + 1) r.size = f := ⟨_, rfl⟩
      have hns : n.size ≤ 1048576 := by rw [← hn]; exact Nat.le_trans (ext_size _ _ _) hrs
      have hfs : f.size ≤ 1048576 := by rw [← hf]; exact Nat.le_trans (ext_size _ _ _) hrs
      rw [if_neg hk, hn, hf] at HKD
      simp only [hk, if_false, hn, hf, decide_false, Bool.not_false] at CC
      have CC' : Hid (∀ w, Calls Tryz.prog 43 #[.string r, .string ⟨#[47]⟩] w fun e w' => e = .returned (.tuple #[.string n, .string f, .bool true]) ∧ Below w.heap.size w w') := CC
      have CA : Hid (∀ w, Calls Tryz.prog 44 #[.string n, .string ⟨#[43, 35, 0]⟩] w fun e w' => e = .returned (.bool (has3 n.data.toList)) ∧ Below w.heap.size w w') := fun w => contains3_said n w hns
      have CV : Hid (∀ w, Tabs w → Calls Tryz.prog 45 #[.string n] w fun e w' => e = .returned (.bool (Lib.validD n.data.toList)) ∧ Below w.heap.size w w') := fun w hT => valid_any n w hns hT
      have CF : Hid (∀ w, Tabs w → Calls Tryz.prog 38 #[.string f] w fun e w' => e = .returned (.bool (filterB f)) ∧ Below w.heap.size w w') := fun w hT => filter_any indexByte_said valid_said contains_said f w hfs hT
      have HG : Hid (gnameB n.data.toList = (!n.data.toList.isEmpty && !has3 n.data.toList && Lib.validD n.data.toList)) := by
        show gnameB n.data.toList = _
        unfold gnameB
        rw [has3_parts]
        cases n.data.toList.isEmpty <;> cases hasB n.data.toList 43 35 <;> cases hasB n.data.toList 0 0 <;> rfl
      cases h0 : n.data.toList.isEmpty with
      | true =>
        have g0 : n.data.toList.isEmpty = true := h0
        have hl1 : n.toList = [] := by rw [ByteArray.toList_eq]; exact List.isEmpty_iff.1 g0
        have hl2 : n.toList.isEmpty = true := by rw [hl1]; rfl
        have HV := Lib.hid (split_no (s := s) (by rw [HKD.out, HG.out, h0]; simp))
        clear hPP CP CC hT hp hr hk hn hf h0 g0
        go_enter Tryz.func17, Tryz.ntmps17
        go_wp2_with fail
        refine CP'.out.mono ?_
        rintro e w1 ⟨rfl, hw⟩
        subst hw
        go_wp2_with fail
        refine (CC'.out _).mono ?_
        rintro e w2 ⟨rfl, hb2⟩
        have HB2 := Lib.hid hb2
        clear hb2
        go_wp2_with fail
        refine bodyPost_ret (v := .tuple #[.string ByteArray.empty, .string ByteArray.empty, .bool false]) (by simp [results, Tryz.results17, go_sem]; rfl) rfl ?_
        rw [← HPP.out]
        exact ⟨by rw [HV.out], HB2.out⟩
      | false =>
        cases h1 : has3 n.data.toList with
        | true =>
          have g0 : n.data.toList.isEmpty = false := h0
          have g1 : has3 n.data.toList = true := h1
          have hl1 : ¬ n.toList = [] := by rw [ByteArray.toList_eq]; intro e; rw [e] at g0; cases g0
          have hl2 : n.toList.isEmpty = false := by rw [ByteArray.toList_eq]; exact g0
          have HV := Lib.hid (split_no (s := s) (by rw [HKD.out, HG.out, h0, h1]; simp))
          rw [h1] at CA
          clear hPP CP CC hT hp hr hk hn hf h0 h1 g0 g1
          go_enter Tryz.func17, Tryz.ntmps17
          go_wp2_with fail
          refine CP'.out.mono ?_
          rintro e w1 ⟨rfl, hw⟩
          subst hw
          go_wp2_with fail
          refine (CC'.out _).mono ?_
          rintro e w2 ⟨rfl, hb2⟩
          have HB2 := Lib.hid hb2
          clear hb2
          go_wp2_with fail
          refine (CA.out _).mono ?_
          rintro e w3 ⟨rfl, hb3⟩
          have HB3 := Lib.hid (HB2.out.trans (hb3.mono HB2.out.size))
          clear hb3
          go_wp2_with fail
          refine bodyPost_ret (v := .tuple #[.string ByteArray.empty, .string ByteArray.empty, .bool false]) (by simp [results, Tryz.results17, go_sem]; rfl) rfl ?_
          rw [← HPP.out]
          exact ⟨by rw [HV.out], HB3.out⟩
        | false =>
          cases h2 : Lib.validD n.data.toList with
          | false =>
            have g0 : n.data.toList.isEmpty = false := h0
            have g1 : has3 n.data.toList = false := h1
            have g2 : Lib.validD n.data.toList = false := h2
            have hl1 : ¬ n.toList = [] := by rw [ByteArray.toList_eq]; intro e; rw [e] at g0; cases g0
            have hl2 : n.toList.isEmpty = false := by rw [ByteArray.toList_eq]; exact g0
            have HV := Lib.hid (split_no (s := s) (by rw [HKD.out, HG.out, h0, h1, h2]; simp))
            rw [h1] at CA
            rw [h2] at CV
            clear hPP CP CC hT hp hr hk hn hf h0 h1 h2 g0 g1 g2
            go_enter Tryz.func17, Tryz.ntmps17
            go_wp2_with fail
            refine CP'.out.mono ?_
            rintro e w1 ⟨rfl, hw⟩
            subst hw
            go_wp2_with fail
            refine (CC'.out _).mono ?_
            rintro e w2 ⟨rfl, hb2⟩
            have HB2 := Lib.hid hb2
            clear hb2
            go_wp2_with fail
            refine (CA.out _).mono ?_
            rintro e w3 ⟨rfl, hb3⟩
            have HB3 := Lib.hid (HB2.out.trans (hb3.mono HB2.out.size))
            clear hb3
            go_wp2_with fail
            refine (CV.out _ (HT.out.below HB3.out)).mono ?_
            rintro e w4 ⟨rfl, hb4⟩
            have HB4 := Lib.hid (HB3.out.trans (hb4.mono HB3.out.size))
            clear hb4
            go_wp2_with fail
            refine bodyPost_ret (v := .tuple #[.string ByteArray.empty, .string ByteArray.empty, .bool false]) (by simp [results, Tryz.results17, go_sem]; rfl) rfl ?_
            rw [← HPP.out]
            exact ⟨by rw [HV.out], HB4.out⟩
          | true =>
            cases h3 : filterB f with
            | false =>
              have g0 : n.data.toList.isEmpty = false := h0
              have g1 : has3 n.data.toList = false := h1
              have g2 : Lib.validD n.data.toList = true := h2
              have g3 : filterB f = false := h3
              have hl1 : ¬ n.toList = [] := by rw [ByteArray.toList_eq]; intro e; rw [e] at g0; cases g0
              have hl2 : n.toList.isEmpty = false := by rw [ByteArray.toList_eq]; exact g0
              have HV := Lib.hid (split_no (s := s) (by rw [HKD.out, HG.out, h0, h1, h2, h3]; simp))
              rw [h1] at CA
              rw [h2] at CV
              rw [h3] at CF
              clear hPP CP CC hT hp hr hk hn hf h0 h1 h2 h3 g0 g1 g2 g3
              go_enter Tryz.func17, Tryz.ntmps17
              go_wp2_with fail
              refine CP'.out.mono ?_
              rintro e w1 ⟨rfl, hw⟩
              subst hw
              go_wp2_with fail
              refine (CC'.out _).mono ?_
              rintro e w2 ⟨rfl, hb2⟩
              have HB2 := Lib.hid hb2
              clear hb2
              go_wp2_with fail
              refine (CA.out _).mono ?_
              rintro e w3 ⟨rfl, hb3⟩
              have HB3 := Lib.hid (HB2.out.trans (hb3.mono HB2.out.size))
              clear hb3
              go_wp2_with fail
              refine (CV.out _ (HT.out.below HB3.out)).mono ?_
              rintro e w4 ⟨rfl, hb4⟩
              have HB4 := Lib.hid (HB3.out.trans (hb4.mono HB3.out.size))
              clear hb4
              go_wp2_with fail
              refine (CF.out _ (HT.out.below HB4.out)).mono ?_
              rintro e w5 ⟨rfl, hb5⟩
              have HB5 := Lib.hid (HB4.out.trans (hb5.mono HB4.out.size))
              clear hb5
              go_wp2_with fail
              refine bodyPost_ret (v := .tuple #[.string ByteArray.empty, .string ByteArray.empty, .bool false]) (by simp [results, Tryz.results17, go_sem]; rfl) rfl ?_
              rw [← HPP.out]
              exact ⟨by rw [HV.out], HB5.out⟩
            | true =>
              have g0 : n.data.toList.isEmpty = false := h0
              have g1 : has3 n.data.toList = false := h1
              have g2 : Lib.validD n.data.toList = true := h2
              have g3 : filterB f = true := h3
              have hl1 : ¬ n.toList = [] := by rw [ByteArray.toList_eq]; intro e; rw [e] at g0; cases g0
              have hl2 : n.toList.isEmpty = false := by rw [ByteArray.toList_eq]; exact g0
              have HV := Lib.hid (split_yes (s := s) (a := n) (b := f) (by rw [HKD.out, HG.out, h0, h1, h2, h3]; rfl))
              rw [h1] at CA
              rw [h2] at CV
              rw [h3] at CF
              clear hPP CP CC hT hp hr hk hn hf h0 h1 h2 h3 g0 g1 g2 g3
              go_enter Tryz.func17, Tryz.ntmps17
              go_wp2_with fail
              refine CP'.out.mono ?_
              rintro e w1 ⟨rfl, hw⟩
              subst hw
              go_wp2_with fail
              refine (CC'.out _).mono ?_
              rintro e w2 ⟨rfl, hb2⟩
              have HB2 := Lib.hid hb2
              clear hb2
              go_wp2_with fail
              refine (CA.out _).mono ?_
              rintro e w3 ⟨rfl, hb3⟩
              have HB3 := Lib.hid (HB2.out.trans (hb3.mono HB2.out.size))
              clear hb3
              go_wp2_with fail
              refine (CV.out _ (HT.out.below HB3.out)).mono ?_
              rintro e w4 ⟨rfl, hb4⟩
              have HB4 := Lib.hid (HB3.out.trans (hb4.mono HB3.out.size))
              clear hb4
              go_wp2_with fail
              refine (CF.out _ (HT.out.below HB4.out)).mono ?_
              rintro e w5 ⟨rfl, hb5⟩
              have HB5 := Lib.hid (HB4.out.trans (hb5.mono HB4.out.size))
              clear hb5
              go_wp2_with fail
              refine bodyPost_ret (v := .tuple #[.string n, .string f, .bool true]) (by simp [results, Tryz.results17, go_sem]) rfl ?_
              rw [← HPP.out]
              exact ⟨by rw [HV.out], HB5.out⟩
end Go.Proofs.YtincmegllckcjaaGreatDoor
