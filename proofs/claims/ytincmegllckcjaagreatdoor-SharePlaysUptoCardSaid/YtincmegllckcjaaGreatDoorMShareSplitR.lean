/- SHARE: the reference's name and Split. SHARE: the reference's Split. -/
import Derived.Test.YtincmegllckcjaaGreatDoorShareSplitP
namespace Go.Proofs.YtincmegllckcjaaGreatDoor
section
open Go Go.RowKit Go.Lib
attribute [local go_sem ↓] Go.wp_at_zero Go.wp_at_succ

def is4 (b : UInt8) : Bool := ((b.toNat : Nat) : Int) == 47 || is3 b
def bad4 (l : List UInt8) : Bool := l.any is4
def refnB (l : List UInt8) : Bool := !bad4 l && (!l.isEmpty && Lib.validD l)
theorem bad4_hit (s : ByteArray) (i : Nat) (h : i < s.size) (hh : is4 (s[i]'h) = true) : bad4 s.data.toList = true := by
  unfold bad4
  rw [List.any_eq_true]
  exact ⟨s[i]'h, by rw [show s[i]'h = s.data.toList[i]'(by simpa using h) from rfl]; exact List.getElem_mem _, hh⟩
theorem bad4_more (s : ByteArray) (i : Nat) (h : i < s.size) (h0 : bad4 (s.data.toList.take i) = false) (hh : is4 (s[i]'h) = false) : bad4 (s.data.toList.take (i + 1)) = false := by
  unfold bad4 at *
  have hl : i < s.data.toList.length := by simpa using h
  rw [List.take_succ_eq_append_getElem hl, List.any_append, h0]
  have : s.data.toList[i]'hl = s[i]'h := rfl
  rw [this]
  simp [hh]
theorem refn_bad {l : List UInt8} (h : bad4 l = true) : refnB l = false := by unfold refnB; rw [h]; rfl
theorem idx_none {l : List UInt8} {c : UInt8} (h : Lib.indexByte l c < 0) : ∀ x ∈ l, x ≠ c := by
  induction l with
  | nil => intro x hx; cases hx
  | cons b l ih =>
    have hg := Lib.indexByte_ge l c
    unfold Lib.indexByte at h
    split at h
    · omega
    · rename_i hb
      split at h
      · rename_i h2
        have h2 : Lib.indexByte l c = -1 := by simpa using h2
        intro x hx
        rcases List.mem_cons.1 hx with rfl | hx
        · simpa using hb
        · exact ih (by omega) x hx
      · rename_i h2
        have h2 : Lib.indexByte l c ≠ -1 := by simpa using h2
        omega
theorem idx_some {l : List UInt8} {c : UInt8} {k : Nat} (h : Lib.indexByte l c = (k : Int)) : l[k]? = some c ∧ ∀ x ∈ l.take k, x ≠ c := by
  induction l generalizing k with
  | nil => simp [Lib.indexByte] at h
  | cons b l ih =>
    have hg := Lib.indexByte_ge l c
    unfold Lib.indexByte at h
    split at h
    · rename_i hb
      have : k = 0 := by omega
      subst this
      have hb : b = c := by simpa using hb
      exact ⟨by rw [hb]; rfl, fun x hx => by cases hx⟩
    · rename_i hb
      split at h
      · omega
      · rename_i h2
        obtain ⟨j, rfl⟩ : ∃ j, k = j + 1 := ⟨k - 1, by have h2 : Lib.indexByte l c ≠ -1 := by simpa using h2
                                                       omega⟩
        obtain ⟨h3, h4⟩ := ih (k := j) (by omega)
        refine ⟨h3, fun x hx => ?_⟩
        rw [List.take_succ_cons] at hx
        rcases List.mem_cons.1 hx with rfl | hx
        · simpa using hb
        · exact h4 x hx
theorem refn_same {l : List UInt8} (h : ∀ x ∈ l, x ≠ 47) : refnB l = gnameB l := by
  unfold refnB gnameB
  have e : bad4 l = (hasB l 43 35 || hasB l 0 0) := by
    rw [← has3_parts]
    unfold bad4 has3
    induction l with
    | nil => rfl
    | cons b l ih =>
      rw [List.any_cons, List.any_cons, ih fun x hx => h x (List.mem_cons_of_mem _ hx)]
      have hb := h b (List.mem_cons_self ..)
      have : ((b.toNat : Nat) : Int) ≠ 47 := fun e => hb (UInt8.toNat_inj.1 (by simp; omega))
      unfold is4
      rw [show (((b.toNat : Nat) : Int) == 47) = false by simpa using this, Bool.false_or]
  rw [e]
  cases l.isEmpty <;> cases hasB l 43 35 <;> cases hasB l 0 0 <;> rfl
set_option maxRecDepth 100000 in
set_option maxHeartbeats 8000000 in
theorem refName30_any (n : ByteArray) (w : World) (hn : n.size ≤ 1048576) (hT : Tabs w) : Calls Tryz.prog 86 #[.string n] w fun e w' => e = .returned (.bool (refnB n.data.toList)) ∧ Below w.heap.size w w' := by
  obtain ⟨PP, hPP⟩ : ∃ PP : Ending → World → Prop, (fun e w' => e = .returned (.bool (refnB n.data.toList)) ∧ Below w.heap.size w w') = PP := ⟨_, rfl⟩
  rw [hPP]
  have HPP := Lib.hid hPP
  have CV := valid_any n w hn hT
  have hsz : n.data.toList.length = n.size := Array.length_toList
  have HSZ := Lib.hid hsz
  clear hPP hT hsz
  have CV' := Lib.hid CV
  clear CV
  go_enter Tryz.func86, Tryz.ntmps86
  go_wp2_with fail
  go_loop [3] (fun s3 => ∃ i : Nat, s3 = .int .i64 (i : Nat) ∧ i ≤ n.size ∧ Hid (bad4 (n.data.toList.take i) = false)) (fun s3 => n.size - (intOf s3).toNat)
  case atStart => exact ⟨0, rfl, Nat.zero_le _, rfl⟩
  case round =>
    obtain ⟨i, rfl, hi, HN⟩ := hrel
    have hi0 : (0 : Int) ≤ (i : Int) := by omega
    by_cases hlt : i < n.size
    · have hltI : (i : Int) < (n.size : Int) := by omega
      obtain ⟨c, hc⟩ : ∃ c : UInt8, n[i]'hlt = c := ⟨_, rfl⟩
      have HC := Lib.hid hc
      by_cases h0 : (c.toNat : Int) = 47
      · have t0 : (((n[i]'hlt).toNat : Int) == 47) = true := by rw [hc]; simp [h0]
        have HX := Lib.hid (bad4_hit n i (by omega) (by rw [hc]; unfold is4 is3; simp [h0]))
        clear h0 hc
        go_wp2_with fail
        rw [← HPP.out]
        exact ⟨by rw [refn_bad HX.out], Below.refl _ _⟩
      · by_cases h1 : (c.toNat : Int) = 43
        · have t0 : (((n[i]'hlt).toNat : Int) == 47) = false := by rw [hc]; exact beq_eq_false_iff_ne.2 h0
          have t1 : (((n[i]'hlt).toNat : Int) == 43) = true := by rw [hc]; simp [h1]
          have HX := Lib.hid (bad4_hit n i (by omega) (by rw [hc]; unfold is4 is3; simp [h1]))
          clear h0 h1 hc
          go_wp2_with fail
          rw [← HPP.out]
          exact ⟨by rw [refn_bad HX.out], Below.refl _ _⟩
        · by_cases h2 : (c.toNat : Int) = 35
          · have t0 : (((n[i]'hlt).toNat : Int) == 47) = false := by rw [hc]; exact beq_eq_false_iff_ne.2 h0
            have t1 : (((n[i]'hlt).toNat : Int) == 43) = false := by rw [hc]; exact beq_eq_false_iff_ne.2 h1
            have t2 : (((n[i]'hlt).toNat : Int) == 35) = true := by rw [hc]; simp [h2]
            have HX := Lib.hid (bad4_hit n i (by omega) (by rw [hc]; unfold is4 is3; simp [h2]))
            clear h0 h1 h2 hc
            go_wp2_with fail
            rw [← HPP.out]
            exact ⟨by rw [refn_bad HX.out], Below.refl _ _⟩
          · by_cases h3 : (c.toNat : Int) = 0
            · have t0 : (((n[i]'hlt).toNat : Int) == 47) = false := by rw [hc]; exact beq_eq_false_iff_ne.2 h0
              have t1 : (((n[i]'hlt).toNat : Int) == 43) = false := by rw [hc]; exact beq_eq_false_iff_ne.2 h1
              have t2 : (((n[i]'hlt).toNat : Int) == 35) = false := by rw [hc]; exact beq_eq_false_iff_ne.2 h2
              have t3 : (((n[i]'hlt).toNat : Int) == 0) = true := by rw [hc]; simp [h3]
              have HX := Lib.hid (bad4_hit n i (by omega) (by rw [hc]; unfold is4 is3; simp [h3]))
              clear h0 h1 h2 h3 hc
              go_wp2_with fail
              rw [← HPP.out]
              exact ⟨by rw [refn_bad HX.out], Below.refl _ _⟩
            · have t0 : (((n[i]'hlt).toNat : Int) == 47) = false := by rw [hc]; exact beq_eq_false_iff_ne.2 h0
              have t1 : (((n[i]'hlt).toNat : Int) == 43) = false := by rw [hc]; exact beq_eq_false_iff_ne.2 h1
              have t2 : (((n[i]'hlt).toNat : Int) == 35) = false := by rw [hc]; exact beq_eq_false_iff_ne.2 h2
              have t3 : (((n[i]'hlt).toNat : Int) == 0) = false := by rw [hc]; exact beq_eq_false_iff_ne.2 h3
              have HX := Lib.hid (bad4_more n i (by omega) HN.out (by rw [hc]; unfold is4 is3; rw [beq_eq_false_iff_ne.2 h0, beq_eq_false_iff_ne.2 h1, beq_eq_false_iff_ne.2 h2, beq_eq_false_iff_ne.2 h3]; rfl))
              clear h0 h1 h2 h3 hc
              go_wp2_with fail
              go_round
              case rel => exact ⟨i + 1, by go_num, by omega, HX.out⟩
              case measure => simp [intOf]; omega
    · have hltI : ¬ ((i : Int) < (n.size : Int)) := by omega
      have HB : Hid (bad4 n.data.toList = false) := by
        have := HN.out
        rwa [List.take_of_length_le (by rw [HSZ.out]; omega)] at this
      by_cases h0 : n.size = 0
      · have hl1 : n.toList = [] := by rw [ByteArray.toList_eq]; exact List.eq_nil_of_length_eq_zero (by rw [HSZ.out]; exact h0)
        have hl2 : n.toList.isEmpty = true := by rw [hl1]; rfl
        have HV : Hid (refnB n.data.toList = false) := by
          show refnB n.data.toList = false
          unfold refnB
          have : n.data.toList = [] := by rw [← ByteArray.toList_eq]; exact hl1
          rw [this]; rfl
        clear h0
        go_wp2_with fail
        rw [← HPP.out]
        exact ⟨by rw [HV.out], Below.refl _ _⟩
      · have hl1 : ¬ n.toList = [] := by rw [ByteArray.toList_eq]; intro e; apply h0; rw [← HSZ.out, e]; rfl
        have hl2 : n.toList.isEmpty = false := by cases hh : n.toList with
          | nil => exact absurd hh hl1
          | cons a b => rfl
        have HV : Hid (refnB n.data.toList = Lib.validD n.data.toList) := by
          show refnB n.data.toList = _
          unfold refnB
          have : n.data.toList.isEmpty = false := by rw [← ByteArray.toList_eq]; exact hl2
          rw [HB.out, this]; rfl
        generalize Lib.validD n.data.toList = vd at *
        clear h0
        cases vd with
        | true =>
          go_wp2_with fail
          refine CV'.out.mono ?_
          rintro e w2 ⟨rfl, hb2⟩
          have HB2 := Lib.hid hb2
          clear hb2
          go_wp2_with fail
          rw [← HPP.out]
          exact ⟨by rw [HV.out]; rfl, HB2.out⟩
        | false =>
          go_wp2_with fail
          refine CV'.out.mono ?_
          rintro e w2 ⟨rfl, hb2⟩
          have HB2 := Lib.hid hb2
          clear hb2
          go_wp2_with fail
          rw [← HPP.out]
          exact ⟨by rw [HV.out]; rfl, HB2.out⟩
end
section
open Go Go.RowKit Go.Lib
attribute [local go_sem ↓] Go.wp_at_zero Go.wp_at_succ

theorem pfx_iff (s : ByteArray) : Lib.hasPrefix s.data.toList pfx = (decide (7 ≤ s.size) && ((s.extract 0 7).toList == pfx)) := by
  have hl : s.data.toList.length = s.size := Array.length_toList
  have e : (s.extract 0 7).toList = s.data.toList.take 7 := by rw [ByteArray.toList_eq, ext_list]; simp
  rw [e, Bool.eq_iff_iff, Bool.and_eq_true, decide_eq_true_eq, beq_iff_eq]
  unfold Lib.hasPrefix
  rw [List.isPrefixOf_iff_prefix, List.prefix_iff_eq_take]
  have h7 : pfx.length = 7 := rfl
  rw [h7]
  constructor
  · intro h
    refine ⟨?_, h.symm⟩
    have := congrArg List.length h
    rw [List.length_take, h7] at this
    omega
  · intro h; exact h.2.symm
set_option maxRecDepth 100000 in
set_option maxHeartbeats 8000000 in
theorem refSplit_any (s : ByteArray) (w : World) (hs : s.size ≤ 1048576) (hT : Tabs w) : Calls Tryz.prog 54 #[.string s] w (SplitPost s w) := by
  obtain ⟨PP, hPP⟩ : ∃ PP : Ending → World → Prop, SplitPost s w = PP := ⟨_, rfl⟩
  rw [hPP]
  have HPP := Lib.hid hPP
  have HT := Lib.hid hT
  have hpi := pfx_iff s
  have CF := refFilter_any valid_said s w hs hT
  by_cases h7 : s.size < 7
  · have hp : Lib.hasPrefix s.data.toList pfx = false := by rw [hpi, decide_eq_false (by omega)]; rfl
    cases hf : filterB s with
    | false =>
      rw [hf] at CF
      have CF' := Lib.hid CF
      have HV := Lib.hid (split_no (s := s) (by unfold splitK; rw [hp, hf]; simp))
      have h7I : (s.size : Int) < 7 := by omega
      clear hpi
      clear hPP CF hT hp hf
      go_enter Tryz.func54, Tryz.ntmps54
      go_wp2_with fail
      refine CF'.out.mono ?_
      rintro e w2 ⟨rfl, hb2⟩
      have HB2 := Lib.hid hb2
      clear hb2
      go_wp2_with fail
      refine bodyPost_ret (v := .tuple #[.string ByteArray.empty, .string ByteArray.empty, .bool false]) (by simp [results, Tryz.results54, go_sem]; rfl) rfl ?_
      rw [← HPP.out]
      exact ⟨by rw [HV.out], HB2.out⟩
    | true =>
      rw [hf] at CF
      have CF' := Lib.hid CF
      have HV := Lib.hid (split_yes (s := s) (a := ByteArray.empty) (b := s) (by unfold splitK; rw [hp, hf]; simp))
      have h7I : (s.size : Int) < 7 := by omega
      clear hpi
      clear hPP CF hT hp hf
      go_enter Tryz.func54, Tryz.ntmps54
      go_wp2_with fail
      refine CF'.out.mono ?_
      rintro e w2 ⟨rfl, hb2⟩
      have HB2 := Lib.hid hb2
      clear hb2
      go_wp2_with fail
      refine bodyPost_ret (v := .tuple #[.string ByteArray.empty, .string s, .bool true]) (by simp [results, Tryz.results54, go_sem]; rfl) rfl ?_
      rw [← HPP.out]
      exact ⟨by rw [HV.out], HB2.out⟩
  · cases hq : ((s.extract 0 7).toList == pfx) with
    | false =>
      have hp : Lib.hasPrefix s.data.toList pfx = false := by rw [hpi, hq]; simp
      cases hf : filterB s with
      | false =>
        rw [hf] at CF
        have CF' := Lib.hid CF
        have HV := Lib.hid (split_no (s := s) (by unfold splitK; rw [hp, hf]; simp))
        have q1 : ((s.extract 0 7).toList == [36, 115, 104, 97, 114, 101, 47]) = false := hq
        have q2 : ((s.extract 0 7).toList != [36, 115, 104, 97, 114, 101, 47]) = true := by rw [bne, q1]; rfl
        have h7I : ¬ (s.size : Int) < 7 := by omega
        have h7J : (7 : Int) ≤ (s.size : Int) := by omega
        clear hpi hq
        clear hPP CF hT hp hf
        go_enter Tryz.func54, Tryz.ntmps54
        go_wp2_with fail
        refine CF'.out.mono ?_
        rintro e w2 ⟨rfl, hb2⟩
        have HB2 := Lib.hid hb2
        clear hb2
        go_wp2_with fail
        refine bodyPost_ret (v := .tuple #[.string ByteArray.empty, .string ByteArray.empty, .bool false]) (by simp [results, Tryz.results54, go_sem]; rfl) rfl ?_
        rw [← HPP.out]
        exact ⟨by rw [HV.out], HB2.out⟩
      | true =>
        rw [hf] at CF
        have CF' := Lib.hid CF
        have HV := Lib.hid (split_yes (s := s) (a := ByteArray.empty) (b := s) (by unfold splitK; rw [hp, hf]; simp))
        have q1 : ((s.extract 0 7).toList == [36, 115, 104, 97, 114, 101, 47]) = false := hq
        have q2 : ((s.extract 0 7).toList != [36, 115, 104, 97, 114, 101, 47]) = true := by rw [bne, q1]; rfl
        have h7I : ¬ (s.size : Int) < 7 := by omega
        have h7J : (7 : Int) ≤ (s.size : Int) := by omega
        clear hpi hq
        clear hPP CF hT hp hf
        go_enter Tryz.func54, Tryz.ntmps54
        go_wp2_with fail
        refine CF'.out.mono ?_
        rintro e w2 ⟨rfl, hb2⟩
        have HB2 := Lib.hid hb2
        clear hb2
        go_wp2_with fail
        refine bodyPost_ret (v := .tuple #[.string ByteArray.empty, .string s, .bool true]) (by simp [results, Tryz.results54, go_sem]; rfl) rfl ?_
        rw [← HPP.out]
        exact ⟨by rw [HV.out], HB2.out⟩
    | true =>
      have hp : Lib.hasPrefix s.data.toList pfx = true := by rw [hpi, hq, decide_eq_true (by omega)]; rfl
      have q1 : ((s.extract 0 7).toList == [36, 115, 104, 97, 114, 101, 47]) = true := hq
      have q2 : ((s.extract 0 7).toList != [36, 115, 104, 97, 114, 101, 47]) = false := by rw [bne, q1]; rfl
      have h7I : ¬ (s.size : Int) < 7 := by omega
      have h7J : (7 : Int) ≤ (s.size : Int) := by omega
      have hrs : (restS s).size ≤ 1048576 := Nat.le_trans (ext_size _ _ _) hs
      have HKD : Hid (splitK s = if cutK (restS s) < 0 then none else if gnameB ((restS s).extract 0 (cutK (restS s)).toNat).data.toList && filterB ((restS s).extract ((cutK (restS s)).toNat + 1) (restS s).size) then some ((restS s).extract 0 (cutK (restS s)).toNat, (restS s).extract ((cutK (restS s)).toNat + 1) (restS s).size) else none) := by
        show splitK s = _
        conv => lhs; unfold splitK
        rw [if_pos hp]
      obtain ⟨r, hr⟩ : ∃ r, s.extract 7 s.size = r := ⟨_, rfl⟩
      have hr2 : restS s = r := hr
      rw [hr2] at hrs HKD
      have hcl := cutK_lt r
      have hsz : r.data.toList.length = r.size := Array.length_toList
      have HSZ := Lib.hid hsz
      clear hpi CF hq hp hr2 hPP hsz
      by_cases hk : cutK r < 0
      · have HV := Lib.hid (split_no (s := s) (by rw [HKD.out, if_pos hk]))
        have HN : Hid (∀ x ∈ r.data.toList, x ≠ 47) := idx_none hk
        clear hk HKD hcl
        go_enter Tryz.func54, Tryz.ntmps54
        go_wp2_with fail
        go_loop [6] (fun s6 => ∃ i : Nat, s6 = .int .i64 (i : Nat) ∧ i ≤ r.size) (fun s6 => r.size - (intOf s6).toNat)
        case atStart => exact ⟨0, rfl, Nat.zero_le _⟩
        case round =>
          obtain ⟨i, rfl, hi⟩ := hrel
          have hi0 : (0 : Int) ≤ (i : Int) := by omega
          by_cases hlt : i < r.size
          · have hltI : (i : Int) < (r.size : Int) := by omega
            have t0 : (((r[i]'hlt).toNat : Int) == 47) = false := by
              have hx := HN.out (r[i]'hlt) (by rw [show r[i]'hlt = r.data.toList[i]'(by rw [HSZ.out]; exact hlt) from rfl]; exact List.getElem_mem _)
              exact beq_eq_false_iff_ne.2 fun e => hx (UInt8.toNat_inj.1 (by simp; omega))
            go_wp2_with fail
            go_round
            case rel => exact ⟨i + 1, by go_num, by omega⟩
            case measure => simp [intOf]; omega
          · have hltI : ¬ ((i : Int) < (r.size : Int)) := by omega
            go_wp2_with fail
            refine bodyPost_ret (v := .tuple #[.string ByteArray.empty, .string ByteArray.empty, .bool false]) (by simp [results, Tryz.results54, go_sem]; rfl) rfl ?_
            rw [← HPP.out]
            exact ⟨by rw [HV.out], Below.refl _ _⟩
      · obtain ⟨k, hkk⟩ : ∃ k : Nat, cutK r = (k : Int) := ⟨(cutK r).toNat, by omega⟩
        have hid := idx_some hkk
        have hkr : k < r.size := by omega
        rw [if_neg hk, hkk, Int.toNat_natCast] at HKD
        have hnt : ∀ x ∈ (r.extract 0 k).data.toList, x ≠ 47 := fun x hx => hid.2 x (by rw [ext_list] at hx; simpa using hx)
        have HN : Hid (∀ x ∈ r.data.toList.take k, x ≠ 47) := hid.2
        have hck : r[k]'hkr = 47 := by
          have h1 := hid.1
          rw [List.getElem?_eq_getElem (by rw [HSZ.out]; exact hkr)] at h1
          injection h1
        have t47 : (((r[k]'hkr).toNat : Int) == 47) = true := by rw [hck]; rfl
        have hge := refn_same hnt
        have hns : (r.extract 0 k).size ≤ 1048576 := Nat.le_trans (ext_size _ _ _) hrs
        have hfs : (r.extract (k + 1) r.size).size ≤ 1048576 := Nat.le_trans (ext_size _ _ _) hrs
        have CN := refName30_any (r.extract 0 k) w hns hT
        rw [hge] at CN
        have CF : ∀ w, Tabs w → Calls Tryz.prog 85 #[.string (r.extract (k + 1) r.size)] w fun e w' => e = .returned (.bool (filterB (r.extract (k + 1) r.size))) ∧ Below w.heap.size w w' := fun w hT => refFilter_any valid_said _ w hfs hT
        obtain ⟨n, hn⟩ : ∃ n, r.extract 0 k = n := ⟨_, rfl⟩
        obtain ⟨f, hff⟩ : ∃ f, r.extract (k + 1) r.size = f := ⟨_, rfl⟩
        rw [hn, hff] at HKD
        rw [hn] at CN
        rw [hff] at CF
        have CN0 := Lib.hid CN
        have CF0 := Lib.hid CF
        have HKD2 := Lib.hid HKD.out
        clear hk hkk hid hnt hck hge hns hfs CN CF hT hcl HKD
        go_enter Tryz.func54, Tryz.ntmps54
        go_wp2_with fail
        go_loop [6] (fun s6 => ∃ i : Nat, s6 = .int .i64 (i : Nat) ∧ i ≤ k) (fun s6 => k - (intOf s6).toNat)
        case atStart => exact ⟨0, rfl, Nat.zero_le _⟩
        case round =>
          obtain ⟨i, rfl, hi⟩ := hrel
          have hi0 : (0 : Int) ≤ (i : Int) := by omega
          have hlt : i < r.size := by omega
          have hltI : (i : Int) < (r.size : Int) := by omega
          by_cases hik : i < k
          · have t0 : (((r[i]'hlt).toNat : Int) == 47) = false := by
              have hx := HN.out (r[i]'hlt) (by
                rw [List.mem_take_iff_getElem]
                exact ⟨i, by rw [HSZ.out]; omega, rfl⟩)
              exact beq_eq_false_iff_ne.2 fun e => hx (UInt8.toNat_inj.1 (by simp; omega))
            go_wp2_with fail
            go_round
            case rel => exact ⟨i + 1, by go_num, by omega⟩
            case measure => simp [intOf]; omega
          · obtain rfl : i = k := by omega
            have hi1 : (i : Int) + 1 ≤ (r.size : Int) := by omega
            have HKD := HKD2
            have CN := CN0.out
            have CF := CF0.out
            have e1 : IntKind.i64.wrap ((i : Int) + 1) = (i : Int) + 1 := IntWalk.i64_in _ (by omega)
            have e2 : ((i : Int) + 1).toNat = i + 1 := by omega
            have e3 : (0 : Int) ≤ (i : Int) + 1 := by omega
            cases hg : gnameB n.data.toList with
            | false =>
              have HV := Lib.hid (split_no (s := s) (by rw [HKD.out, hg]; rfl))
              rw [hg] at CN
              have CN' := Lib.hid CN
              clear CN CF hg
              go_wp2_with fail
              refine CN'.out.mono ?_
              rintro e w2 ⟨rfl, hb2⟩
              have HB2 := Lib.hid hb2
              clear hb2
              go_wp2_with fail
              refine bodyPost_ret (v := .tuple #[.string ByteArray.empty, .string ByteArray.empty, .bool false]) (by simp [results, Tryz.results54, go_sem]; rfl) rfl ?_
              rw [← HPP.out]
              exact ⟨by rw [HV.out], HB2.out⟩
            | true =>
              cases hf : filterB f with
              | false =>
                have HV := Lib.hid (split_no (s := s) (by rw [HKD.out, hg, hf]; rfl))
                rw [hg] at CN
                rw [hf] at CF
                have CN' := Lib.hid CN
                have CF' := Lib.hid CF
                clear CN CF hg hf
                go_wp2_with fail
                refine CN'.out.mono ?_
                rintro e w2 ⟨rfl, hb2⟩
                have HB2 := Lib.hid hb2
                clear hb2
                go_wp2_with fail
                refine (CF'.out _ (HT.out.below HB2.out)).mono ?_
                rintro e w3 ⟨rfl, hb3⟩
                have HB3 := Lib.hid (HB2.out.trans (hb3.mono HB2.out.size))
                clear hb3
                go_wp2_with fail
                refine bodyPost_ret (v := .tuple #[.string ByteArray.empty, .string ByteArray.empty, .bool false]) (by simp [results, Tryz.results54, go_sem]; rfl) rfl ?_
                rw [← HPP.out]
                exact ⟨by rw [HV.out], HB3.out⟩
              | true =>
                have HV := Lib.hid (split_yes (s := s) (a := n) (b := f) (by rw [HKD.out, hg, hf]; rfl))
                rw [hg] at CN
                rw [hf] at CF
                have CN' := Lib.hid CN
                have CF' := Lib.hid CF
                clear CN CF hg hf
                go_wp2_with fail
                refine CN'.out.mono ?_
                rintro e w2 ⟨rfl, hb2⟩
                have HB2 := Lib.hid hb2
                clear hb2
                go_wp2_with fail
                refine (CF'.out _ (HT.out.below HB2.out)).mono ?_
                rintro e w3 ⟨rfl, hb3⟩
                have HB3 := Lib.hid (HB2.out.trans (hb3.mono HB2.out.size))
                clear hb3
                go_wp2_with fail
                go_quiet (fail)
                go_wp2_with fail
                refine bodyPost_ret (v := .tuple #[.string n, .string f, .bool true]) (by simp [results, Tryz.results54, go_sem]) rfl ?_
                rw [← HPP.out]
                exact ⟨by rw [HV.out], below_drewN' HB3.out _⟩
end
end Go.Proofs.YtincmegllckcjaaGreatDoor
