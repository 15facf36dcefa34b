/- the law TopicTells, walked. -/
import Derived.Test.YtfkbnemhkkbjgaaDoorTopicLawA
namespace Go.Proofs.YtfkbnemhkkbjgaaDoor
open Go Go.RowKit

set_option maxHeartbeats 2000000 in
theorem topicTells_any (s : ByteArray) (w : World) (hs : s.size ≤ 1048576) (hT : Tabs w) :
    Calls Tryd.prog 3 #[.string s] w fun e w' => e = .returned (.bool true) ∧ Below w.heap.size w w' := by
  have cN := name_any indexByte_said valid_said contains_said s w hs hT
  have cRN : Hid (∀ w, Tabs w → Calls Tryd.prog 11 #[.string s] w fun e w' => e = .returned (.bool (nameB s.data.toList)) ∧ Below w.heap.size w w') := fun w hT => refName_any valid_said s w (by omega) hT
  have cF : Hid (∀ w, Tabs w → Calls Tryd.prog 12 #[.string s] w fun e w' => e = .returned (.bool (filterB s)) ∧ Below w.heap.size w w') := fun w hT => filter_any indexByte_said valid_said contains_said s w hs hT
  have cRF : Hid (∀ w, Tabs w → Calls Tryd.prog 13 #[.string s] w fun e w' => e = .returned (.bool (filterB s)) ∧ Below w.heap.size w w') := fun w hT => refFilter_any valid_said s w hs hT
  have cL : Hid (∀ w, Calls Tryd.prog 14 #[.string s] w fun e w' => ∃ v, e = .returned v ∧ Sl w' v (levels s) ∧ Below w.heap.size w w') := fun w => levels_any indexByte_said s w hs
  have cRL : Hid (∀ w, Calls Tryd.prog 15 #[.string s] w fun e w' => ∃ v, e = .returned v ∧ Sl w' v (levels s) ∧ Below w.heap.size w w') := fun w => refLevels_any s w hs
  have hne := levels_ne s
  have hll := levels_len s
  generalize nameB s.data.toList = N at *
  generalize filterB s = F at *
  generalize levels s = L at *
  have C1 := Lib.hid cN
  clear cN
  have hN : (N != N) = false := by simp
  have hF : (F != F) = false := by simp
  have hlen : ((L.length : Int) != (L.length : Int)) = false := by simp
  go_enter Tryd.func3, Tryd.ntmps3
  go_wp2_with fail
  refine C1.out.mono ?_
  rintro e w1 ⟨rfl, hb1⟩
  have hT1 := hT.below hb1
  go_wp2_with fail
  refine (cRN.out _ hT1).mono ?_
  rintro e w2 ⟨rfl, hb2⟩
  have hT2 := hT1.below hb2
  have hb12 := hb1.trans (hb2.mono hb1.size)
  clear hb1 hb2
  go_wp2_with fail
  refine (cF.out _ hT2).mono ?_
  rintro e w3 ⟨rfl, hb3⟩
  have hT3 := hT2.below hb3
  have hb13 := hb12.trans (hb3.mono hb12.size)
  clear hb12 hb3
  go_wp2_with fail
  refine (cRF.out _ hT3).mono ?_
  rintro e w4 ⟨rfl, hb4⟩
  have hT4 := hT3.below hb4
  have hb14 := hb13.trans (hb4.mono hb13.size)
  clear hb13 hb4
  go_wp2_with fail
  refine (cL.out _).mono ?_
  rintro e w5 ⟨v, rfl, hS, hb5⟩
  have hT5 := hT4.below hb5
  have hb15 := hb14.trans (hb5.mono hb14.size)
  clear hb14 hb5
  go_wp2_with fail
  refine (cRL.out _).mono ?_
  rintro e w6 ⟨v6, rfl, hS6, hb6⟩
  have hT6 := hT5.below hb6
  have hb16 := hb15.trans (hb6.mono hb15.size)
  have hS5 := hS.below hb6
  clear hb15 hb6 hS C1 cRN cF cRF cL cRL
  obtain ⟨p, cap, rfl, hc1, hc2, hcells⟩ := hS5
  obtain ⟨b, o, rfl, hcell⟩ := hcells.resolve_left hne
  obtain ⟨p2, cap2, rfl, hc12, hc22, hcells2⟩ := hS6
  obtain ⟨b2, o2, rfl, hcell2⟩ := hcells2.resolve_left hne
  have HC := Lib.hid hcell
  have HC2 := Lib.hid hcell2
  clear hcell hcells hcell2 hcells2
  go_wp2
  go_loopw [29] (fun i wr => ∃ k q : Nat, k ≤ L.length ∧ i = .int .i64 k ∧ wr = w6.drewN q) (fun i _ => L.length - (intOf i).toNat)
  case atStart => exact ⟨0, 0, Nat.zero_le _, rfl, rfl⟩
  case round =>
    obtain ⟨k, q, hk, rfl, rfl⟩ := hrel
    by_cases hlt : k < L.length
    · obtain ⟨x, hx⟩ : ∃ x, L[k]? = some x := ⟨_, List.getElem?_eq_getElem hlt⟩
      have hck := HC.out k x hx
      have hck2 := HC2.out k x hx
      have hlt' : (k : Int) < (L.length : Int) := by omega
      have hxx : (x.toList != x.toList) = false := by simp
      clear hx
      go_wp2
      go_quiet (fail)
      go_wp2
      go_roundw
      case rel => exact ⟨k + 1, _, by omega, by go_num, rfl⟩
      case measure => simp [intOf]; omega
    · obtain rfl : k = L.length := by omega
      have hT7 : Tabs (w6.drewN q) := hT6.below (below_drewN (Below.refl _ _) _)
      go_wp2_with fail
      refine (awake_any _ hT7).mono ?_
      rintro e w8 ⟨rfl, hb8⟩
      go_wp2
      go_ret
      exact ⟨rfl, (below_drewN hb16 q).trans (hb8.mono hb16.size)⟩
end Go.Proofs.YtfkbnemhkkbjgaaDoor
