/- strings.IndexAny(s, "+#"), strings.ContainsAny(s, "+#"), at every s. -/
import Derived.Test.YtflomcbclofbaaaDoorTopicContains
namespace Go.Proofs.YtflomcbclofbaaaDoor
open Go Go.RowKit Go.Lib

def RuneAscii : Prop := ∀ (s : ByteArray) (r : Int) (w : World), 0 ≤ r → r < 128 →
  Calls Tryd.prog 82 #[.string s, .int .i32 r] w fun e w' => e = .returned (.int .i64 (Lib.indexByte s.data.toList r.toNat.toUInt8)) ∧ w' = w
def RuneFar : Prop := ∀ (r : Int) (w : World), 128 ≤ r → r ≤ 2147483647 →
  Calls Tryd.prog 82 #[.string ⟨#[43, 35]⟩, .int .i32 r] w fun e w' => e = .returned (.int .i64 (-1)) ∧ Below w.heap.size w w'
def UseSet : Prop := ∀ (n : Int) (w : World), Calls Tryd.prog 83 #[.int .i64 n] w fun e w' => e = .returned (.bool (decide (8 < n))) ∧ w' = w

theorem idx_sign (b : UInt8) : (0 ≤ Lib.indexByte [43, 35] b) = ((((b.toNat : Nat) : Int) == 43 || ((b.toNat : Nat) : Int) == 35) = true) := by
  have e1 : ((43 : UInt8) == b) = (((b.toNat : Nat) : Int) == 43) := by
    rw [Bool.eq_iff_iff, beq_iff_eq, beq_iff_eq]
    constructor
    · rintro rfl; rfl
    · intro h; exact UInt8.toNat_inj.1 (by simp; omega)
  have e2 : ((35 : UInt8) == b) = (((b.toNat : Nat) : Int) == 35) := by
    rw [Bool.eq_iff_iff, beq_iff_eq, beq_iff_eq]
    constructor
    · rintro rfl; rfl
    · intro h; exact UInt8.toNat_inj.1 (by simp; omega)
  unfold Lib.indexByte Lib.indexByte Lib.indexByte
  rw [e1, e2]
  cases (((b.toNat : Nat) : Int) == 43) <;> cases (((b.toNat : Nat) : Int) == 35) <;> simp

set_option maxHeartbeats 4000000 in
set_option maxRecDepth 100000 in
theorem indexAny_short (hA : RuneAscii) (hF : RuneFar) (hU : UseSet) (s : ByteArray) (w : World) (h8 : s.size ≤ 8) :
    Calls Tryd.prog 55 #[.string s, .string ⟨#[43, 35]⟩] w (AnyPost s w) := by
  have HU := Lib.hid hU
  have HF := Lib.hid hF
  have HA : Hid (∀ (b : UInt8) (w : World), b.toNat < 128 → Calls Tryd.prog 82 #[.string ⟨#[43, 35]⟩, .int .i32 b.toNat] w fun e w' => e = .returned (.int .i64 (Lib.indexByte [43, 35] b)) ∧ w' = w) := fun b w hb => by
    have := hA ⟨#[43, 35]⟩ b.toNat w (by omega) (by omega)
    have e : ((b.toNat : Nat) : Int).toNat.toUInt8 = b := by simp
    rw [e] at this
    exact this
  have h8z : decide ((8 : Int) < (s.size : Int)) = false := decide_eq_false (by omega)
  clear hA hF hU
  go_enter Tryd.func55, Tryd.ntmps55
  go_wp2_with (go_at_call 83; refine (HU.out _ _).mono ?_; rintro e w' ⟨rfl, hw⟩; rw [hw, h8z])
  go_loopg [9, 10] s.size (fun g _ _ wx => ∃ i : Nat, i + g ≤ s.size ∧ s.size ≤ i + g ∧ wx.heap[w.heap.size]? = some (.stringIter s i) ∧ Below w.heap.size w wx ∧ Hid (hasB (s.data.toList.take i) 43 35 = false))
  case atStart => exact ⟨0, by omega, by omega, World.iter_heap _ _ _, (Below.refl _ w).alloc (Nat.le_refl _) _, rfl⟩
  case round =>
    obtain ⟨i, hi1, hi2, hit, hbw, HN⟩ := hrel
    have hbw2 := hbw
    by_cases hlt : i < s.size
    · by_cases hx : (s[i]'hlt).toNat < 128
      · obtain ⟨c, hc⟩ : ∃ c : UInt8, s[i]'hlt = c := ⟨_, rfl⟩
        have hnx := fun ty => run_next_ascii_at (P := Tryd.prog) wr w.heap.size s i ty hit hlt hx
        rw [hc] at hnx hx
        have CA := Lib.hid (HA.out c)
        have HS := Lib.hid (idx_sign c)
        by_cases hh : ((((s[i]'hlt).toNat : Nat) : Int) == 43 || (((s[i]'hlt).toNat : Nat) : Int) == 35) = true
        · have HT := Lib.hid (hasB_hit s i 43 35 hlt hh)
          rw [hc] at hh
          have hge : 0 ≤ Lib.indexByte [43, 35] c := by rw [HS.out]; exact hh
          have hit2 := iterAt_heap wr w.heap.size s i (i + 1) hit
          have hb2 := below_iterAt hbw (k := w.heap.size) (Nat.le_refl _) s (i + 1)
          clear hh HS HN hc hit
          generalize Lib.indexByte [43, 35] c = ix at *
          go_wp2_with (go_at_call 82; refine (CA.out _ hx).mono ?_; rintro e w' ⟨rfl, hw⟩; rw [hw])
          go_ret
          exact ⟨_, rfl, by rw [HT.out]; simp, hb2⟩
        · simp only [Bool.not_eq_true] at hh
          have HM := Lib.hid (hasB_more s i 43 35 hlt HN.out (by cases h : ((((s[i]'hlt).toNat : Nat) : Int) == 43) <;> simp_all) (by cases h : ((((s[i]'hlt).toNat : Nat) : Int) == 35) <;> simp_all))
          rw [hc] at hh
          have hge : ¬ 0 ≤ Lib.indexByte [43, 35] c := by rw [HS.out, hh]; simp
          have hit2 := iterAt_heap wr w.heap.size s i (i + 1) hit
          have hb2 := below_iterAt hbw (k := w.heap.size) (Nat.le_refl _) s (i + 1)
          clear hh HS HN hc hit
          generalize Lib.indexByte [43, 35] c = ix at *
          go_wp2_with (go_at_call 82; refine (CA.out _ hx).mono ?_; rintro e w' ⟨rfl, hw⟩; rw [hw])
          go_roundg (s.size - (i + 1))
          case measure => omega
          case rel => exact ⟨i + 1, by omega, by omega, hit2, hb2, HM⟩
      · obtain ⟨d1, d2, d3, d4⟩ := decode_far s i hlt (by omega)
        have hle := decode_le s i
        have hnx := fun ty => run_next_any_at (P := Tryd.prog) wr w.heap.size s i ty hit hlt
        have HM := Lib.hid (hasB_over s i (Utf8.decode s i).2 HN.out d3 d4)
        clear d4 HN hx
        generalize (Utf8.decode s i).1 = c at *
        generalize (Utf8.decode s i).2 = d at *
        have hit2 := iterAt_heap wr w.heap.size s i (i + d) hit
        have hb2 := below_iterAt hbw (k := w.heap.size) (Nat.le_refl _) s (i + d)
        clear hit
        go_wp2_with (go_at_call 82; refine (HF.out _ _ (by omega) (by omega)).mono ?_; rintro e w' ⟨rfl, hb3⟩)
        go_roundg (s.size - (i + d))
        case measure => omega
        case rel => exact ⟨i + d, by omega, by omega, (hb3.block _ (Array.getElem?_eq_some_iff.1 hit2).1).trans hit2, hb2.trans (hb3.mono hb2.size), HM⟩
    · have HT := Lib.hid (show hasB s.data.toList 43 35 = false by have := HN.out; rwa [List.take_of_length_le (by simp; omega)] at this)
      have hnx := fun ty => run_next_end_at (P := Tryd.prog) wr w.heap.size s i ty hit hlt
      clear HN
      go_wp2
      go_ret
      exact ⟨_, rfl, by rw [HT.out]; rfl, hbw⟩
end Go.Proofs.YtflomcbclofbaaaDoor
