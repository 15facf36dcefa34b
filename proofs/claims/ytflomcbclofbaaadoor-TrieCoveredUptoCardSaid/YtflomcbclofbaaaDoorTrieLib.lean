/- TRIE: what the library's functions give at this dump; the topics' functions at any text. -/
import Derived.Test.YtflomcbclofbaaaDoorTopicShelf
import Derived.Test.YtflomcbclofbaaaDoorTopicContainsB
import Derived.Test.YtflomcbclofbaaaDoorTopicFilter
import Derived.Test.YtflomcbclofbaaaDoorTopicRefC
namespace Go.Proofs.YtflomcbclofbaaaDoor
open Go Go.RowKit Go.Lib

theorem indexByte_said : IndexByteSaid := fun s c w => by
  have := Any.strings_IndexByte Tryd.laysn137 s c.toNat w
  have e : ((c.toNat : Nat) : Int).toNat.toUInt8 = c := by simp
  rw [e] at this
  exact this.mono fun _ _ ⟨h1, h2⟩ => ⟨h1, h2.symm⟩

theorem valid_said : ValidSaid := fun s w hs hT => Any.utf8_ValidString Tryd.laysn196 s w hs hT

theorem runeAscii : RuneAscii := fun s r w h0 h1 => Any.strings_IndexRune_ascii Tryd.laysn152 s r w h0 h1
theorem runeFar : RuneFar := fun r w h0 h1 => indexRune_far (fun r w => Any.utf8_ValidRune Tryd.laysn119 r w) indexByte_said r w h0 h1
theorem useSet : UseSet := fun n w => Any.strings_shouldUseASCIISet Tryd.laysn226 n w

theorem info_set : (Tryd.prog.info? (Tryd.laysn153_ren.t 116)).map (fun i => (i.zero, i.size)) = some (some (.agg (Array.replicate 256 (.bool false))), 256) := by kernel_rfl

theorem indexAny_sign (l : List UInt8) : decide (0 ≤ Lib.indexAny l [43, 35]) = hasB l 43 35 := by
  induction l with
  | nil => rfl
  | cons b l ih =>
    have e : ([43, 35] : List UInt8).contains b = (((b.toNat : Nat) : Int) == 43 || ((b.toNat : Nat) : Int) == 35) := by
      rw [Lib.contains_iff_indexByte, Bool.eq_iff_iff, decide_eq_true_eq, idx_sign]
    have ge := Lib.indexAny_ge [43, 35] l
    have hc : hasB (b :: l) 43 35 = ((((b.toNat : Nat) : Int) == 43 || ((b.toNat : Nat) : Int) == 35) || hasB l 43 35) := rfl
    rw [hc, ← ih, ← e]
    rw [show Lib.indexAny (b :: l) [43, 35] = if ([43, 35] : List UInt8).contains b then 0 else if Lib.indexAny l [43, 35] == -1 then -1 else Lib.indexAny l [43, 35] + 1 from rfl]
    cases ([43, 35] : List UInt8).contains b
    · simp only [Bool.false_eq_true, if_false, Bool.false_or]
      split
      · rename_i h
        have h' : Lib.indexAny l [43, 35] = -1 := by simpa using h
        rw [h']
      · rename_i h
        have h' : Lib.indexAny l [43, 35] ≠ -1 := by simpa using h
        rw [Bool.eq_iff_iff, decide_eq_true_eq, decide_eq_true_eq]; omega
    · simp

theorem contains_said : ContainsSaid := fun s w hs => by
  have c : Calls Tryd.prog 55 #[.string s, .string ⟨#[43, 35]⟩] w (AnyPost s w) := by
    by_cases h8 : s.size ≤ 8
    · exact indexAny_short runeAscii runeFar useSet s w h8
    · refine (Any.strings_IndexAny_long Tryd.laysn153 (zero_of_info info_set).1 (zero_of_info info_set).2 s ⟨#[43, 35]⟩ w (by decide) (by omega) (by omega) (by decide) (by
        intro j b hj
        match j, hj with
        | 0, hj => simp at hj; subst hj; decide
        | 1, hj => simp at hj; subst hj; decide)).mono ?_
      rintro e w' ⟨rfl, rfl⟩
      exact ⟨_, rfl, indexAny_sign _, ((Below.refl _ w).alloc (Nat.le_refl _) _).alloc (by simp) _⟩
  have CC := Lib.hid c
  clear c
  go_enter Tryd.func39, Tryd.ntmps39
  go_wp2_with fail
  refine CC.out.mono ?_
  rintro e w' ⟨i, rfl, hs, hb⟩
  have HS := Lib.hid hs
  clear hs
  go_wp2
  go_ret
  exact ⟨ret_bool HS.out, hb⟩
end Go.Proofs.YtflomcbclofbaaaDoor
