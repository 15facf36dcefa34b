/- NAMES: topic.Name, conduitref03.Name; what the library's functions give at this dump. -/
import Derived.Test.YtmncpbfghabamaaDoorTopicShelf
import Derived.Test.YtmncpbfghabamaaDoorTopicContainsB
import Derived.Test.YtmncpbfghabamaaDoorTopicRefA
import Derived.WalkSmall
namespace Go.Proofs.YtmncpbfghabamaaDoor
open Go Go.RowKit Go.Lib

theorem indexByte_said : IndexByteSaid := fun s c w => by
  have := Any.strings_IndexByte Tryd.laysn137 s c.toNat w
  have e : ((c.toNat : Nat) : Int).toNat.toUInt8 = c := by simp
  rw [e] at this
  exact this.mono fun _ _ ⟨h1, h2⟩ => ⟨h1, h2.symm⟩

theorem valid_said : ValidSaid := fun s w hs hT => Any.utf8_ValidString Tryd.laysn196 s w hs hT

theorem runeAscii : RuneAscii := fun s r w h0 h1 => Any.strings_IndexRune_ascii Tryd.laysn152 s r w h0 h1
theorem runeFar : RuneFar := fun r w h0 h1 => indexRune_far (fun r w => Any.utf8_ValidRune Tryd.laysn119 r w) indexByte_said r w h0 h1
theorem useSet : UseSet := fun n w => Any.strings_shouldUseASCIISet Tryd.laysn226 n w

theorem info_set : (Tryd.prog.info? (Tryd.laysn153_ren.t 116)).map (fun i => (i.zero, i.size)) = some (some (.agg (Array.replicate 256 (.bool false))), 256) := by kernel_rfl

theorem indexAny_sign (l : List UInt8) : decide (0 ≤ Lib.indexAny l [43, 35]) = hasB l 43 35 := by
  induction l with
  | nil => rfl
  | cons b l ih =>
    have e : ([43, 35] : List UInt8).contains b = (((b.toNat : Nat) : Int) == 43 || ((b.toNat : Nat) : Int) == 35) := by
      rw [Lib.contains_iff_indexByte, Bool.eq_iff_iff, decide_eq_true_eq, idx_sign]
    have ge := Lib.indexAny_ge [43, 35] l
    have hc : hasB (b :: l) 43 35 = ((((b.toNat : Nat) : Int) == 43 || ((b.toNat : Nat) : Int) == 35) || hasB l 43 35) := rfl
    rw [hc, ← ih, ← e]
    rw [show Lib.indexAny (b :: l) [43, 35] = if ([43, 35] : List UInt8).contains b then 0 else if Lib.indexAny l [43, 35] == -1 then -1 else Lib.indexAny l [43, 35] + 1 from rfl]
    cases ([43, 35] : List UInt8).contains b
    · simp only [Bool.false_eq_true, if_false, Bool.false_or]
      split
      · rename_i h
        have h' : Lib.indexAny l [43, 35] = -1 := by simpa using h
        rw [h']
      · rename_i h
        have h' : Lib.indexAny l [43, 35] ≠ -1 := by simpa using h
        rw [Bool.eq_iff_iff, decide_eq_true_eq, decide_eq_true_eq]; omega
    · simp

theorem contains_said : ContainsSaid := fun s w hs => by
  have c : Calls Tryd.prog 82 #[.string s, .string ⟨#[43, 35]⟩] w (AnyPost s w) := by
    by_cases h8 : s.size ≤ 8
    · exact indexAny_short runeAscii runeFar useSet s w h8
    · refine (Any.strings_IndexAny_long Tryd.laysn153 (zero_of_info info_set).1 (zero_of_info info_set).2 s ⟨#[43, 35]⟩ w (by decide) (by omega) (by omega) (by decide) (by
        intro j b hj
        match j, hj with
        | 0, hj => simp at hj; subst hj; decide
        | 1, hj => simp at hj; subst hj; decide)).mono ?_
      rintro e w' ⟨rfl, rfl⟩
      exact ⟨_, rfl, indexAny_sign _, ((Below.refl _ w).alloc (Nat.le_refl _) _).alloc (by simp) _⟩
  have CC := Lib.hid c
  clear c
  go_enter Tryd.func78, Tryd.ntmps78
  go_wp2_with fail
  refine CC.out.mono ?_
  rintro e w' ⟨i, rfl, hs, hb⟩
  have HS := Lib.hid hs
  clear hs
  go_wp2
  go_ret
  exact ⟨ret_bool HS.out, hb⟩

def nameB (l : List UInt8) : Bool := plainB l && !hasB l 43 35

set_option maxHeartbeats 400000 in
theorem refName_any (hV : ValidSaid) (s : ByteArray) (w : World) (hs : s.size ≤ 9223372036854775807) (hT : Tabs w) :
    Calls Tryd.prog 68 #[.string s] w fun e w' => e = .returned (.bool (nameB s.data.toList)) ∧ Below w.heap.size w w' := by
  have cP := refPlain_any hV s w hs hT
  unfold nameB
  generalize plainB s.data.toList = p at cP ⊢
  cases p
  · go_enter Tryd.func68, Tryd.ntmps68
    go_wp2_with (go_at_call 74; refine cP.mono ?_; rintro e w' ⟨rfl, hb⟩)
    go_ret
    exact ⟨rfl, hb⟩
  · go_enter Tryd.func68, Tryd.ntmps68
    go_wp2_with (first | (go_at_call 74; refine cP.mono ?_; rintro e w' ⟨rfl, hb⟩) | (go_at_call 75; refine (has_any s 43 35 _ hs).mono ?_; rintro e w1 ⟨rfl, rfl⟩))
    go_ret
    exact ⟨rfl, hb⟩

/-- a filter's levels: "+" and "#" stand alone; "#" is the last one -/
def levOk : List ByteArray → Bool
  | [] => true
  | x :: r => (!hasB x.data.toList 43 35 || x.toList == [43] || (x.toList == [35] && r.isEmpty)) && levOk r
def filterB (s : ByteArray) : Bool := plainB s.data.toList && levOk (levels s)

theorem idx0_has (l : List UInt8) : decide (Lib.indexByte l 0 < 0) = !hasB l 0 0 := by
  by_cases h : Lib.indexByte l 0 < 0
  · have := idx_neg 0 l h
    rw [decide_eq_true h]
    symm
    rw [Bool.not_eq_true', ← Bool.not_eq_true]
    unfold hasB
    rw [List.any_eq_true]
    rintro ⟨x, hx, h2⟩
    apply this x hx
    simp at h2
    exact UInt8.toNat_inj.1 (by simp; omega)
  · obtain ⟨k, h1, h2, h3, h4⟩ := idx_pos 0 l (by omega)
    rw [decide_eq_false h]
    symm
    rw [Bool.not_eq_false']
    unfold hasB
    rw [List.any_eq_true]
    exact ⟨0, by rw [h3]; simp, by simp⟩

set_option maxRecDepth 100000 in
set_option maxHeartbeats 1000000 in
theorem plain_any (hI : IndexByteSaid) (hV : ValidSaid) (s : ByteArray) (w : World) (hs : s.size ≤ 9223372036854775807) (hT : Tabs w) :
    Calls Tryd.prog 77 #[.string s] w fun e w' => e = .returned (.bool (plainB s.data.toList)) ∧ Below w.heap.size w w' := by
  have cV := hV s w hs hT
  have CI : Hid (∀ w, Calls Tryd.prog 81 #[.string s, .int .u8 0] w fun e w' => e = .returned (.int .i64 (Lib.indexByte s.data.toList 0)) ∧ w = w') := fun w => by
    have := hI s 0 w; simpa using this
  have HX := Lib.hid (idx0_has s.data.toList)
  by_cases h0 : s.size = 0
  · have HH := Lib.hid (plainB_no s (.inl h0))
    have e0 : s.toList = [] := (toList_nil_iff s).2 h0
    have e1 : (s.toList != []) = false := by simp [e0]
    clear cV h0
    go_enter Tryd.func77, Tryd.ntmps77
    go_wp2
    go_ret
    exact ⟨ret_bool HH.out.symm, Below.refl _ _⟩
  · have e0 : ¬ s.toList = [] := fun h => h0 ((toList_nil_iff s).1 h)
    have e1 : (s.toList != []) = true := by simpa using e0
    have e2 : s.toList.isEmpty = false := by simpa using e0
    by_cases h1 : 65535 < s.size
    · have HH := Lib.hid (plainB_no s (.inr (.inl h1)))
      have h1' : ¬ ((s.size : Int) ≤ 65535) := by omega
      clear cV
      go_enter Tryd.func77, Tryd.ntmps77
      go_wp2
      go_ret
      exact ⟨ret_bool HH.out.symm, Below.refl _ _⟩
    · have h1' : (s.size : Int) ≤ 65535 := by omega
      by_cases h2 : Lib.validD s.data.toList = true
      · have HP := Lib.hid (plainB_yes s (by omega) (by omega) h2)
        rw [h2] at cV
        clear h2
        generalize Lib.indexByte s.data.toList 0 = ix at *
        generalize hasB s.data.toList 0 0 = hb0 at *
        cases hb0
        · have hx : ix < 0 := by simpa using HX.out
          clear HX
          go_enter Tryd.func77, Tryd.ntmps77
          go_wp2_with (first | (go_at_call 79; refine cV.mono ?_; rintro e w' ⟨rfl, hb⟩) | (go_at_call 81; refine (CI.out _).mono ?_; rintro e w1 ⟨rfl, rfl⟩))
          go_ret
          exact ⟨ret_bool HP.out.symm, hb⟩
        · have hx : ¬ ix < 0 := by simpa using HX.out
          clear HX
          go_enter Tryd.func77, Tryd.ntmps77
          go_wp2_with (first | (go_at_call 79; refine cV.mono ?_; rintro e w' ⟨rfl, hb⟩) | (go_at_call 81; refine (CI.out _).mono ?_; rintro e w1 ⟨rfl, rfl⟩))
          go_ret
          exact ⟨ret_bool (by rw [HP.out]; simp; omega), hb⟩
      · have HH := Lib.hid (plainB_no s (.inr (.inr (by simpa using h2))))
        simp only [Bool.not_eq_true] at h2
        rw [h2] at cV
        clear h2
        go_enter Tryd.func77, Tryd.ntmps77
        go_wp2_with (go_at_call 79; refine cV.mono ?_; rintro e w' ⟨rfl, hb⟩)
        go_ret
        exact ⟨ret_bool HH.out.symm, hb⟩

set_option maxHeartbeats 400000 in
theorem name_any (hI : IndexByteSaid) (hV : ValidSaid) (hC : ContainsSaid) (s : ByteArray) (w : World) (hs : s.size ≤ 1048576) (hT : Tabs w) :
    Calls Tryd.prog 71 #[.string s] w fun e w' => e = .returned (.bool (nameB s.data.toList)) ∧ Below w.heap.size w w' := by
  have cP := plain_any hI hV s w (by omega) hT
  have CC := Lib.hid (fun w => hC s w hs)
  unfold nameB
  generalize plainB s.data.toList = p at cP ⊢
  cases p
  · go_enter Tryd.func71, Tryd.ntmps71
    go_wp2_with (go_at_call 77; refine cP.mono ?_; rintro e w' ⟨rfl, hb⟩)
    go_ret
    exact ⟨rfl, hb⟩
  · go_enter Tryd.func71, Tryd.ntmps71
    go_wp2_with (first | (go_at_call 77; refine cP.mono ?_; rintro e w' ⟨rfl, hb⟩) | (go_at_call 78; refine (CC.out _).mono ?_; rintro e w1 ⟨rfl, hb1⟩))
    go_ret
    exact ⟨rfl, hb.trans (hb1.mono hb.size)⟩

end Go.Proofs.YtmncpbfghabamaaDoor
