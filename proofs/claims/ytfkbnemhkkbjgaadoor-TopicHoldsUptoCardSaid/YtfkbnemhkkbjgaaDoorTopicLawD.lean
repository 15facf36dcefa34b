/- the law TopicMeets, walked. -/
import Derived.Test.YtfkbnemhkkbjgaaDoorTopicLawA
import Derived.Test.YtfkbnemhkkbjgaaDoorTopicCommonB
import Derived.Test.YtfkbnemhkkbjgaaDoorTopicMeetsPlainB
namespace Go.Proofs.YtfkbnemhkkbjgaaDoor
open Go Go.RowKit

theorem name_size {s : ByteArray} (h : nameB s.data.toList = true) : s.size ≤ 1048576 := by
  unfold nameB plainB at h
  simp only [Bool.and_eq_true, decide_eq_true_eq] at h
  have : s.data.toList.length = s.size := by simp
  omega

set_option maxHeartbeats 2000000 in
theorem topicMeets_any (f g : ByteArray) (w : World) (hf : f.size ≤ 1048576) (hg : g.size ≤ 1048576) (hT : Tabs w) :
    Calls Tryd.prog 7 #[.string f, .string g] w fun e w' => e = .returned (.bool true) ∧ Below w.heap.size w w' := by
  have CR : Hid (∀ w, Tabs w → Calls Tryd.prog 21 #[.string f, .string g] w fun e w' => e = .returned (.bool (comB f g).isSome) ∧ Below w.heap.size w w') := fun w hT => refMeets_any valid_said f g w hf hg hT
  have CC : Hid (∀ w, Tabs w → Calls Tryd.prog 22 #[.string f, .string g] w fun e w' => e = .returned (.tuple #[.string ((comB f g).getD ⟨#[]⟩), .bool (comB f g).isSome]) ∧ Below w.heap.size w w') := fun w hT => common_any f g w hf hg hT
  have CM : Hid (∀ w, Tabs w → Calls Tryd.prog 23 #[.string f, .string g] w fun e w' => e = .returned (.bool (comB f g).isSome) ∧ Below w.heap.size w w') := fun w hT => meets_any f g w hf hg hT
  cases hc : comB f g with
  | none =>
    rw [hc] at CR CC CM
    simp only [Option.isSome_none, Option.getD_none] at CR CC CM
    go_enter Tryd.func7, Tryd.ntmps7
    go_wp2_with fail
    refine (CR.out _ hT).mono ?_
    rintro e w1 ⟨rfl, hb1⟩
    have hT1 := hT.below hb1
    go_wp2_with fail
    refine (CC.out _ hT1).mono ?_
    rintro e w2 ⟨rfl, hb2⟩
    have hT2 := hT1.below hb2
    have hb12 := hb1.trans (hb2.mono hb1.size)
    clear hb1 hb2
    go_wp2_with fail
    refine (CM.out _ hT2).mono ?_
    rintro e w3 ⟨rfl, hb3⟩
    have hT3 := hT2.below hb3
    have hb13 := hb12.trans (hb3.mono hb12.size)
    clear hb12 hb3
    go_wp2_with fail
    refine (awake_any _ hT3).mono ?_
    rintro e w4 ⟨rfl, hb4⟩
    go_wp2
    go_ret
    exact ⟨rfl, hb13.trans (hb4.mono hb13.size)⟩
  | some s =>
    rw [hc] at CR CC CM
    simp only [Option.isSome_some, Option.getD_some] at CR CC CM
    obtain ⟨m1, m2⟩ := com_match hc
    have hs := name_size (com_spec hc).2.2.1
    have C1 : Hid (∀ w, Tabs w → Calls Tryd.prog 18 #[.string f, .string s] w fun e w' => e = .returned (.bool true) ∧ Below w.heap.size w w') := fun w hT => by
      have := refMatch_any valid_said f s w hf hs hT; rwa [m1] at this
    have C2 : Hid (∀ w, Tabs w → Calls Tryd.prog 18 #[.string g, .string s] w fun e w' => e = .returned (.bool true) ∧ Below w.heap.size w w') := fun w hT => by
      have := refMatch_any valid_said g s w hg hs hT; rwa [m2] at this
    clear m1 m2 hc hs
    go_enter Tryd.func7, Tryd.ntmps7
    go_wp2_with fail
    refine (CR.out _ hT).mono ?_
    rintro e w1 ⟨rfl, hb1⟩
    have hT1 := hT.below hb1
    go_wp2_with fail
    refine (CC.out _ hT1).mono ?_
    rintro e w2 ⟨rfl, hb2⟩
    have hT2 := hT1.below hb2
    have hb12 := hb1.trans (hb2.mono hb1.size)
    clear hb1 hb2
    go_wp2_with fail
    refine (CM.out _ hT2).mono ?_
    rintro e w3 ⟨rfl, hb3⟩
    have hT3 := hT2.below hb3
    have hb13 := hb12.trans (hb3.mono hb12.size)
    clear hb12 hb3
    go_wp2_with fail
    refine (C1.out _ hT3).mono ?_
    rintro e w4 ⟨rfl, hb4⟩
    have hT4 := hT3.below hb4
    have hb14 := hb13.trans (hb4.mono hb13.size)
    clear hb13 hb4
    go_wp2_with fail
    refine (C2.out _ hT4).mono ?_
    rintro e w5 ⟨rfl, hb5⟩
    have hT5 := hT4.below hb5
    have hb15 := hb14.trans (hb5.mono hb14.size)
    clear hb14 hb5
    go_wp2_with fail
    refine (awake_any _ hT5).mono ?_
    rintro e w6 ⟨rfl, hb6⟩
    go_wp2
    go_ret
    exact ⟨rfl, hb15.trans (hb6.mono hb15.size)⟩
end Go.Proofs.YtfkbnemhkkbjgaaDoor
