/- the law TopicNames, walked. -/
import Derived.Test.YtfkbnemhkkbjgaaDoorTopicLawD
import Derived.Test.YtfkbnemhkkbjgaaDoorTopicNamesPlainB
namespace Go.Proofs.YtfkbnemhkkbjgaaDoor
open Go Go.RowKit

set_option maxHeartbeats 2000000 in
theorem topicNames_any (a b : ByteArray) (w : World) (ha : a.size ≤ 1048576) (hb : b.size ≤ 1048576) (hT : Tabs w) :
    Calls Tryd.prog 9 #[.string a, .string b] w fun e w' => e = .returned (.bool true) ∧ Below w.heap.size w w' := by
  have CA : Hid (∀ w, Tabs w → Calls Tryd.prog 11 #[.string a] w fun e w' => e = .returned (.bool (nameB a.data.toList)) ∧ Below w.heap.size w w') := fun w hT => refName_any valid_said a w (by omega) hT
  have CB : Hid (∀ w, Tabs w → Calls Tryd.prog 11 #[.string b] w fun e w' => e = .returned (.bool (nameB b.data.toList)) ∧ Below w.heap.size w w') := fun w hT => refName_any valid_said b w (by omega) hT
  cases na : nameB a.data.toList
  · rw [na] at CA
    clear CB
    go_enter Tryd.func9, Tryd.ntmps9
    go_wp2_with fail
    refine (CA.out _ hT).mono ?_
    rintro e w1 ⟨rfl, hb1⟩
    go_wp2_with fail
    refine (awake_any _ (hT.below hb1)).mono ?_
    rintro e w2 ⟨rfl, hb2⟩
    go_wp2
    go_ret
    exact ⟨rfl, hb1.trans (hb2.mono hb1.size)⟩
  cases nb : nameB b.data.toList
  · rw [na] at CA
    rw [nb] at CB
    go_enter Tryd.func9, Tryd.ntmps9
    go_wp2_with fail
    refine (CA.out _ hT).mono ?_
    rintro e w1 ⟨rfl, hb1⟩
    have hT1 := hT.below hb1
    go_wp2_with fail
    refine (CB.out _ hT1).mono ?_
    rintro e w2 ⟨rfl, hb2⟩
    have hb12 := hb1.trans (hb2.mono hb1.size)
    go_wp2_with fail
    refine (awake_any _ (hT1.below hb2)).mono ?_
    rintro e w3 ⟨rfl, hb3⟩
    go_wp2
    go_ret
    exact ⟨rfl, hb12.trans (hb3.mono hb12.size)⟩
  have CF : Hid (∀ w, Tabs w → Calls Tryd.prog 12 #[.string a] w fun e w' => e = .returned (.bool true) ∧ Below w.heap.size w w') := fun w hT => by
    have := filter_any indexByte_said valid_said contains_said a w ha hT; rwa [name_filter na] at this
  have CM : Hid (∀ w, Tabs w → Calls Tryd.prog 17 #[.string a, .string b] w fun e w' => e = .returned (.bool (a.toList == b.toList)) ∧ Below w.heap.size w w') := fun w hT => by
    have := match_any indexByte_said valid_said contains_said dollar_said a b w ha hb hT; rwa [names_match na nb] at this
  have CC : Hid (∀ w, Tabs w → Calls Tryd.prog 19 #[.string a, .string b] w fun e w' => e = .returned (.bool (a.toList == b.toList)) ∧ Below w.heap.size w w') := fun w hT => by
    have := covers_any indexByte_said valid_said contains_said dollar_said a b w ha hb hT; rwa [names_cov na nb] at this
  have CE : Hid (∀ w, Tabs w → Calls Tryd.prog 23 #[.string a, .string b] w fun e w' => e = .returned (.bool (a.toList == b.toList)) ∧ Below w.heap.size w w') := fun w hT => by
    have := meets_any a b w ha hb hT; rwa [names_com na nb] at this
  rw [na] at CA
  rw [nb] at CB
  clear na nb
  have hE : ((a.toList == b.toList) == (a.toList == b.toList)) = true := by simp
  cases hab : (a.toList == b.toList)
  all_goals
    rw [hab] at CM CC CE
    clear hE
    go_enter Tryd.func9, Tryd.ntmps9
    go_wp2_with fail
    refine (CA.out _ hT).mono ?_
    rintro e w1 ⟨rfl, hb1⟩
    have hT1 := hT.below hb1
    go_wp2_with fail
    refine (CB.out _ hT1).mono ?_
    rintro e w2 ⟨rfl, hb2⟩
    have hT2 := hT1.below hb2
    have hb12 := hb1.trans (hb2.mono hb1.size)
    go_wp2_with fail
    refine (CF.out _ hT2).mono ?_
    rintro e w3 ⟨rfl, hb3⟩
    have hT3 := hT2.below hb3
    have hb13 := hb12.trans (hb3.mono hb12.size)
    go_wp2_with fail
    refine (CM.out _ hT3).mono ?_
    rintro e w4 ⟨rfl, hb4⟩
    have hT4 := hT3.below hb4
    have hb14 := hb13.trans (hb4.mono hb13.size)
    go_wp2_with fail
    refine (CC.out _ hT4).mono ?_
    rintro e w5 ⟨rfl, hb5⟩
    have hT5 := hT4.below hb5
    have hb15 := hb14.trans (hb5.mono hb14.size)
    go_wp2_with fail
    refine (CE.out _ hT5).mono ?_
    rintro e w6 ⟨rfl, hb6⟩
    have hT6 := hT5.below hb6
    have hb16 := hb15.trans (hb6.mono hb15.size)
    go_wp2_with fail
    refine (awake_any _ hT6).mono ?_
    rintro e w7 ⟨rfl, hb7⟩
    go_wp2
    go_ret
    exact ⟨rfl, hb16.trans (hb7.mono hb16.size)⟩
end Go.Proofs.YtfkbnemhkkbjgaaDoor
