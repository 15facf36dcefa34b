/- THE REFERENCE's small functions, walked. -/
import Derived.WalkKit
import Derived.Lib.Hide
import Derived.Test.YtflomcbclofbaaaDoorProg
import Derived.Test.YtflomcbclofbaaaDoorTopicBase
namespace Go.Proofs.YtflomcbclofbaaaDoor
open Go Go.RowKit


set_option maxHeartbeats 400000 in
theorem has_any (s : ByteArray) (a b : Int) (w : World) (hs : s.size ≤ 9223372036854775807) :
    Calls Tryd.prog 47 #[.string s, .int .u8 a, .int .u8 b] w fun e w' => e = .returned (.bool (hasB s.data.toList a b)) ∧ w = w' := by
  go_enter Tryd.func47, Tryd.ntmps47
  go_wp2
  go_loop [7] (fun i => ∃ k : Nat, k ≤ s.size ∧ i = .int .i64 k ∧ Hid (hasB (s.data.toList.take k) a b = false)) (fun i => s.size - (intOf i).toNat)
  case atStart => exact ⟨0, Nat.zero_le _, rfl, rfl⟩
  case round =>
    obtain ⟨k, hk, rfl, H⟩ := hrel
    by_cases hlt : k < s.size
    · by_cases h1 : (((s[k].toNat : Nat) : Int) == a) = true
      · have HH := Lib.hid (hasB_hit s k a b hlt (by rw [h1]; rfl))
        go_wp2
        go_ret
        exact ⟨ret_bool HH.out.symm, rfl⟩
      · by_cases h2 : (((s[k].toNat : Nat) : Int) == b) = true
        · have HH := Lib.hid (hasB_hit s k a b hlt (by rw [h2, Bool.or_true]))
          simp only [Bool.not_eq_true] at h1
          go_wp2
          go_ret
          exact ⟨ret_bool HH.out.symm, rfl⟩
        · simp only [Bool.not_eq_true] at h1 h2
          have HH := Lib.hid (hasB_more s k a b hlt H.out h1 h2)
          go_wp2
          go_round
          case rel => exact ⟨k + 1, by omega, by go_num, HH⟩
          case measure => simp [intOf]; omega
    · have HH := Lib.hid (show hasB s.data.toList a b = false by have := H.out; rwa [List.take_of_length_le (by simp; omega)] at this)
      go_wp2
      go_ret
      exact ⟨ret_bool HH.out.symm, rfl⟩

theorem toList_nil_iff (s : ByteArray) : s.toList = [] ↔ s.size = 0 := by
  rw [ByteArray.toList_eq]
  constructor
  · intro h; have := congrArg List.length h; simpa using this
  · intro h; apply List.eq_nil_of_length_eq_zero; simpa using h

theorem plainB_no (s : ByteArray) (h : s.size = 0 ∨ 65535 < s.size ∨ Lib.validD s.data.toList = false) : plainB s.data.toList = false := by
  unfold plainB
  rcases h with h | h | h
  · have : s.data.toList = [] := by apply List.eq_nil_of_length_eq_zero; simpa using h
    simp [this]
  · have h2 : ¬ s.size ≤ 65535 := Nat.not_le.2 h
    simp [h2]
  · rw [h]; simp

theorem plainB_yes (s : ByteArray) (h1 : 0 < s.size) (h2 : s.size ≤ 65535) (h3 : Lib.validD s.data.toList = true) : plainB s.data.toList = !hasB s.data.toList 0 0 := by
  unfold plainB
  have e1 : s.data.toList.isEmpty = false := by
    rw [List.isEmpty_eq_false_iff]; intro h
    have := congrArg List.length h
    simp at this
    have : s.size = 0 := by show s.data.size = 0; simp [this]
    omega
  have e2 : s.data.toList.length ≤ 65535 := by simpa using h2
  rw [e1, h3, decide_eq_true e2]; simp

set_option maxHeartbeats 400000 in
theorem refPlain_any (hV : ValidSaid) (s : ByteArray) (w : World) (hs : s.size ≤ 9223372036854775807) (hT : Tabs w) :
    Calls Tryd.prog 45 #[.string s] w fun e w' => e = .returned (.bool (plainB s.data.toList)) ∧ Below w.heap.size w w' := by
  have cV := hV s w hs hT
  by_cases h0 : s.size = 0
  · have HH := Lib.hid (plainB_no s (.inl h0))
    have e0 : s.toList = [] := (toList_nil_iff s).2 h0
    clear cV h0
    go_enter Tryd.func45, Tryd.ntmps45
    go_wp2
    go_ret
    exact ⟨ret_bool HH.out.symm, Below.refl _ _⟩
  · have e0 : ¬ s.toList = [] := fun h => h0 ((toList_nil_iff s).1 h)
    have e1 : s.toList.isEmpty = false := by simpa using e0
    by_cases h1 : 65535 < s.size
    · have HH := Lib.hid (plainB_no s (.inr (.inl h1)))
      have h1' : (65535 : Int) < (s.size : Int) := by omega
      clear cV
      go_enter Tryd.func45, Tryd.ntmps45
      go_wp2
      go_ret
      exact ⟨ret_bool HH.out.symm, Below.refl _ _⟩
    · have h1' : ¬ (65535 : Int) < (s.size : Int) := by omega
      by_cases h2 : Lib.validD s.data.toList = true
      · have HP := Lib.hid (plainB_yes s (by omega) (by omega) h2)
        rw [h2] at cV
        clear h2
        go_enter Tryd.func45, Tryd.ntmps45
        go_wp2_with (go_at_call 52; refine cV.mono ?_; rintro e w' ⟨rfl, hb⟩)
        clear cV
        go_loop [3] (fun i => ∃ k : Nat, k ≤ s.size ∧ i = .int .i64 k ∧ Hid (hasB (s.data.toList.take k) 0 0 = false)) (fun i => s.size - (intOf i).toNat)
        case atStart => exact ⟨0, Nat.zero_le _, rfl, rfl⟩
        case round =>
          obtain ⟨k, hk, rfl, H⟩ := hrel
          by_cases hlt : k < s.size
          · by_cases h1 : (((s[k].toNat : Nat) : Int) == 0) = true
            · have HH := Lib.hid (hasB_hit s k 0 0 hlt (by rw [h1]; rfl))
              go_wp2
              go_ret
              exact ⟨ret_bool (by rw [HP.out, HH.out]; rfl), hb⟩
            · simp only [Bool.not_eq_true] at h1
              have HH := Lib.hid (hasB_more s k 0 0 hlt H.out h1 h1)
              go_wp2
              go_round
              case rel => exact ⟨k + 1, by omega, by go_num, HH⟩
              case measure => simp [intOf]; omega
          · have HH := Lib.hid (show hasB s.data.toList 0 0 = false by have := H.out; rwa [List.take_of_length_le (by simp; omega)] at this)
            go_wp2
            go_ret
            exact ⟨ret_bool (by rw [HP.out, HH.out]; rfl), hb⟩
      · have HH := Lib.hid (plainB_no s (.inr (.inr (by simpa using h2))))
        simp only [Bool.not_eq_true] at h2
        rw [h2] at cV
        clear h2
        go_enter Tryd.func45, Tryd.ntmps45
        go_wp2_with (go_at_call 52; refine cV.mono ?_; rintro e w' ⟨rfl, hb⟩)
        go_ret
        exact ⟨ret_bool HH.out.symm, hb⟩
end Go.Proofs.YtflomcbclofbaaaDoor
