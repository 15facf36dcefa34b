/- awake; the laws TopicMatches and TopicCovers, walked. -/
import Derived.Test.YtfkbnemhkkbjgaaDoorTopicLib
import Derived.Test.YtfkbnemhkkbjgaaDoorTopicCovers
namespace Go.Proofs.YtfkbnemhkkbjgaaDoor
open Go Go.RowKit

theorem aw1 : matchB ⟨#[97, 47, 43, 47, 99]⟩ ⟨#[97, 47, 98, 47, 99]⟩ = true := by decide +kernel
theorem aw2 : matchB ⟨#[97, 47, 43]⟩ ⟨#[97, 47, 98, 47, 99]⟩ = false := by decide +kernel
theorem aw3 : covB ⟨#[97, 47, 35]⟩ ⟨#[97, 47, 98]⟩ = true := by decide +kernel

set_option maxHeartbeats 1000000 in
theorem awake_any (w : World) (hT : Tabs w) :
    Calls Tryd.prog 16 #[] w fun e w' => e = .returned (.bool true) ∧ Below w.heap.size w w' := by
  have c1 : Hid (∀ w, Tabs w → Calls Tryd.prog 17 #[.string ⟨#[97, 47, 43, 47, 99]⟩, .string ⟨#[97, 47, 98, 47, 99]⟩] w fun e w' => e = .returned (.bool true) ∧ Below w.heap.size w w') := fun w hT => by
    have := match_any indexByte_said valid_said contains_said dollar_said ⟨#[97, 47, 43, 47, 99]⟩ ⟨#[97, 47, 98, 47, 99]⟩ w (by decide) (by decide) hT
    rwa [aw1] at this
  have c2 : Hid (∀ w, Tabs w → Calls Tryd.prog 17 #[.string ⟨#[97, 47, 43]⟩, .string ⟨#[97, 47, 98, 47, 99]⟩] w fun e w' => e = .returned (.bool false) ∧ Below w.heap.size w w') := fun w hT => by
    have := match_any indexByte_said valid_said contains_said dollar_said ⟨#[97, 47, 43]⟩ ⟨#[97, 47, 98, 47, 99]⟩ w (by decide) (by decide) hT
    rwa [aw2] at this
  have c3 : Hid (∀ w, Tabs w → Calls Tryd.prog 19 #[.string ⟨#[97, 47, 35]⟩, .string ⟨#[97, 47, 98]⟩] w fun e w' => e = .returned (.bool true) ∧ Below w.heap.size w w') := fun w hT => by
    have := covers_any indexByte_said valid_said contains_said dollar_said ⟨#[97, 47, 35]⟩ ⟨#[97, 47, 98]⟩ w (by decide) (by decide) hT
    rwa [aw3] at this
  go_enter Tryd.func16, Tryd.ntmps16
  go_wp2_with fail
  refine (c1.out _ hT).mono ?_
  rintro e w1 ⟨rfl, hb1⟩
  have hT1 := hT.below hb1
  go_wp2_with fail
  refine (c2.out _ hT1).mono ?_
  rintro e w2 ⟨rfl, hb2⟩
  have hT2 := hT1.below hb2
  go_wp2_with fail
  refine (c3.out _ hT2).mono ?_
  rintro e w3 ⟨rfl, hb3⟩
  go_wp2
  go_ret
  exact ⟨rfl, (hb1.trans (hb2.mono hb1.size)).trans (hb3.mono (by have := hb1.size; have := hb2.size; omega))⟩

set_option maxHeartbeats 1000000 in
theorem topicMatches_any (f n : ByteArray) (w : World) (hf : f.size ≤ 1048576) (hn : n.size ≤ 1048576) (hT : Tabs w) :
    Calls Tryd.prog 4 #[.string f, .string n] w fun e w' => e = .returned (.bool true) ∧ Below w.heap.size w w' := by
  have c1 := match_any indexByte_said valid_said contains_said dollar_said f n w hf hn hT
  have c2 : Hid (∀ w, Tabs w → Calls Tryd.prog 18 #[.string f, .string n] w fun e w' => e = .returned (.bool (matchB f n)) ∧ Below w.heap.size w w') := fun w hT => refMatch_any valid_said f n w hf hn hT
  generalize matchB f n = M at *
  have C1 := Lib.hid c1
  clear c1
  have hM : (M == M) = true := by simp
  go_enter Tryd.func4, Tryd.ntmps4
  go_wp2_with fail
  refine C1.out.mono ?_
  rintro e w1 ⟨rfl, hb1⟩
  have hT1 := hT.below hb1
  go_wp2_with fail
  refine (c2.out _ hT1).mono ?_
  rintro e w2 ⟨rfl, hb2⟩
  have hT2 := hT1.below hb2
  go_wp2_with fail
  refine (awake_any _ hT2).mono ?_
  rintro e w3 ⟨rfl, hb3⟩
  go_wp2
  go_ret
  exact ⟨rfl, (hb1.trans (hb2.mono hb1.size)).trans (hb3.mono (by have := hb1.size; have := hb2.size; omega))⟩

set_option maxHeartbeats 1000000 in
theorem topicCovers_any (f n : ByteArray) (w : World) (hf : f.size ≤ 1048576) (hn : n.size ≤ 1048576) (hT : Tabs w) :
    Calls Tryd.prog 5 #[.string f, .string n] w fun e w' => e = .returned (.bool true) ∧ Below w.heap.size w w' := by
  have c1 := covers_any indexByte_said valid_said contains_said dollar_said f n w hf hn hT
  have c2 : Hid (∀ w, Tabs w → Calls Tryd.prog 20 #[.string f, .string n] w fun e w' => e = .returned (.bool (covB f n)) ∧ Below w.heap.size w w') := fun w hT => refCovers_any valid_said f n w hf hn hT
  generalize covB f n = M at *
  have C1 := Lib.hid c1
  clear c1
  have hM : (M == M) = true := by simp
  go_enter Tryd.func5, Tryd.ntmps5
  go_wp2_with fail
  refine C1.out.mono ?_
  rintro e w1 ⟨rfl, hb1⟩
  have hT1 := hT.below hb1
  go_wp2_with fail
  refine (c2.out _ hT1).mono ?_
  rintro e w2 ⟨rfl, hb2⟩
  have hT2 := hT1.below hb2
  go_wp2_with fail
  refine (awake_any _ hT2).mono ?_
  rintro e w3 ⟨rfl, hb3⟩
  go_wp2
  go_ret
  exact ⟨rfl, (hb1.trans (hb2.mono hb1.size)).trans (hb3.mono (by have := hb1.size; have := hb2.size; omega))⟩
end Go.Proofs.YtfkbnemhkkbjgaaDoor
