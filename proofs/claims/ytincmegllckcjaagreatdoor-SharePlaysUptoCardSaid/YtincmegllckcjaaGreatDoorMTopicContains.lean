/- strings.ContainsAny(s, "+#"), at every s. strings.IndexAny(s, "+#"), strings.ContainsAny(s, "+#"), at every s. -/
import Derived.Laws.RangeString
import Derived.Laws.RangeAny
import Derived.Deep.LoopGhost
import Derived.Deep.QuietTactic
import Derived.BigQuiet
import Derived.Shelf.Strings.IndexAnyAll
import Derived.Shelf.Small.Utf8
import Derived.Lib.OthersKept
import Derived.Test.YtincmegllckcjaaGreatDoorMTrieStep
namespace Go.Proofs.YtincmegllckcjaaGreatDoor
section
open Go Go.RowKit

/-- what a rune from 128 on is written as -/
theorem encode_far (r : Int) (h : 128 ≤ r) (hv : Utf8.valid r = true) : 2 ≤ (Utf8.encode r).size ∧ (Utf8.encode r).size ≤ 4 ∧ ∀ h1 : 1 < (Utf8.encode r).size, (Utf8.encode r).size = 2 → 128 ≤ ((Utf8.encode r)[1]'h1).toNat := by
  have hc : ¬ r.toNat < 0x80 := by omega
  unfold Utf8.encode
  simp only [hv, if_true, hc, if_false]
  split
  · rename_i h2
    refine ⟨by simp [ByteArray.size], by simp [ByteArray.size], fun h1 _ => ?_⟩
    show 128 ≤ (UInt8.ofNat (128 + r.toNat % 64)).toNat
    simp [UInt8.toNat_ofNat]; omega
  · split
    · exact ⟨by simp [ByteArray.size], by simp [ByteArray.size], fun h1 h2 => by simp [ByteArray.size] at h2⟩
    · exact ⟨by simp [ByteArray.size], by simp [ByteArray.size], fun h1 h2 => by simp [ByteArray.size] at h2⟩

theorem quiet_more_same {P : Program} {f : FuncId} {args : Array Value} {w : World} {a n : Nat} {v : Value}
    (h : Calls P f args (w.drewN (a + n)) fun e w' => e = .returned v ∧ w.drewN (a + n) = w') :
    Calls P f args (w.drewN (a + n)) fun e w'' => e = .returned v ∧ ∃ m, w'' = w.drewN (a + m) :=
  h.mono fun _ _ ⟨he, hm⟩ => ⟨he, n, hm.symm⟩
theorem valid_of (r : Int) (h : Lib.validRune r = true) : Utf8.valid r = true := by
  unfold Lib.validRune at h; unfold Utf8.valid; simp at h ⊢; omega
theorem below_drewN' {B : Nat} {a w : World} (h : Below B a w) (n : Nat) : Below B a (w.drewN n) := ⟨h.os, h.tape, h.output, h.size, h.block⟩

set_option maxHeartbeats 4000000 in
set_option maxRecDepth 100000 in
theorem indexRune_far (hVR : ∀ (r : Int) (w : World), Calls Tryz.prog 153 #[.int .i32 r] w fun e w' => e = .returned (.bool (Lib.validRune r)) ∧ w' = w)
    (hI : IndexByteSaid) (r : Int) (w : World) (h : 128 ≤ r) (h2 : r ≤ 2147483647) :
    Calls Tryz.prog 116 #[.string ⟨#[43, 35]⟩, .int .i32 r] w fun e w' => e = .returned (.int .i64 (-1)) ∧ Below w.heap.size w w' := by
  by_cases hE : r = 65533
  · have hr : (r == 65533) = true := by simpa using hE
    clear hE
    go_enter Tryz.func116, Tryz.ntmps116
    have n0 : ∀ ty, (Instr.next (.pointer (some ⟨w.heap.size, 0, none⟩)) true ty).run Tryz.prog (w.iter ⟨#[43, 35]⟩ 0) = .ok (.tuple #[.bool true, .int .i64 0, .int .i32 43]) (w.iter ⟨#[43, 35]⟩ 1) := fun ty => run_next_ascii (P := Tryz.prog) w ⟨#[43, 35]⟩ 0 ty (by decide) (by decide)
    have n1 : ∀ ty, (Instr.next (.pointer (some ⟨w.heap.size, 0, none⟩)) true ty).run Tryz.prog (w.iter ⟨#[43, 35]⟩ 1) = .ok (.tuple #[.bool true, .int .i64 1, .int .i32 35]) (w.iter ⟨#[43, 35]⟩ 2) := fun ty => run_next_ascii (P := Tryz.prog) w ⟨#[43, 35]⟩ 1 ty (by decide) (by decide)
    have n2 : ∀ ty, (Instr.next (.pointer (some ⟨w.heap.size, 0, none⟩)) true ty).run Tryz.prog (w.iter ⟨#[43, 35]⟩ 2) = .ok (.tuple #[.bool false]) (w.iter ⟨#[43, 35]⟩ 2) := fun ty => run_next_end (P := Tryz.prog) w ⟨#[43, 35]⟩ 2 ty (by decide)
    have hbi : ∀ p, Below w.heap.size w (w.iter ⟨#[43, 35]⟩ p) := fun p => (Below.refl _ w).alloc (Nat.le_refl _) _
    have HB := Lib.hid hbi
    clear hbi
    go_wp2
    go_loopw [5, 6] (fun _ _ wr => wr = w.iter ⟨#[43, 35]⟩ 0 ∨ wr = w.iter ⟨#[43, 35]⟩ 1 ∨ wr = w.iter ⟨#[43, 35]⟩ 2) (fun _ _ wr => 2 - wr.iterPos w.heap.size)
    case atStart => exact .inl rfl
    case round =>
      rcases hrel with rfl | rfl | rfl
      · go_wp2
        go_roundw
        case rel => first | exact .inr (.inl rfl) | exact .inr (.inl trivial)
        case measure => simp
      · go_wp2
        go_roundw
        case rel => first | exact .inr (.inr rfl) | exact .inr (.inr trivial)
        case measure => simp
      · go_wp2
        go_ret
        exact ⟨rfl, HB.out _⟩
  · have hr : (r == 65533) = false := by simpa using hE
    clear hE
    have CV := Lib.hid (hVR r)
    cases hv : Lib.validRune r
    · rw [hv] at CV
      go_enter Tryz.func116, Tryz.ntmps116
      go_wp2_with (go_at_call 153; refine (CV.out _).mono ?_; rintro e w' ⟨rfl, rfl⟩)
      go_ret
      exact ⟨rfl, Below.refl _ _⟩
    · rw [hv] at CV
      obtain ⟨hz1, hz2, hz3⟩ := encode_far r h (valid_of r hv)
      obtain ⟨t, ht⟩ : ∃ t, Utf8.encode r = t := ⟨_, rfl⟩
      rw [ht] at hz1 hz2 hz3
      by_cases h3 : t.size = 2
      · have h1t : 1 < t.size := by omega
        have h128 : 128 ≤ (t[1]'h1t).toNat := hz3 h1t h3
        clear hz3
        have hlt : ((t.size : Int) - 1 < 2) := by omega
        have e1 : ((t.size : Int) - 1) = 1 := by omega
        have e3 : ¬ t.size = 1 := by omega
        obtain ⟨c, hc⟩ : ∃ c : UInt8, t[1]'h1t = c := ⟨_, rfl⟩
        rw [hc] at h128
        have CI : Hid (∀ (w : World), Calls Tryz.prog 90 #[.string ByteArray.empty, .int .u8 c.toNat] w fun e w' => e = .returned (.int .i64 (-1)) ∧ w = w') := fun w => hI ByteArray.empty c w
        have hne : (((((⟨#[43, 35]⟩ : ByteArray)[1]'(by decide)).toNat : Nat) : Int) != (c.toNat : Int)) = true := by
          have e35 : ((⟨#[43, 35]⟩ : ByteArray)[1]'(by decide)).toNat = 35 := rfl
          rw [e35, bne_iff_ne]; omega
        go_enter Tryz.func116, Tryz.ntmps116
        go_wp2_with (go_at_call 153; refine (CV.out _).mono ?_; rintro e w' ⟨rfl, rfl⟩)
        go_step3
        go_wp2
        apply wp_loop_once
        go_wp2
        go_step3
        go_wp2
        go_quiet (fail)
        go_wp2
        go_quiet ((go_at_call 90; exact quiet_more_same (CI.out _)))
        go_wp2
        rw [Exit.noGoto_ret]
        go_wp2
        rw [Exit.noGoto_ret]
        go_ret
        exact ⟨rfl, below_drewN' (Below.refl _ _) _⟩
      · clear hz3
        have hlt : ¬ ((t.size : Int) - 1 < 2) := by omega
        go_enter Tryz.func116, Tryz.ntmps116
        go_wp2_with (go_at_call 153; refine (CV.out _).mono ?_; rintro e w' ⟨rfl, rfl⟩)
        go_step3
        go_wp2
        apply wp_loop_once
        go_wp2
        rw [Exit.noGoto_ret]
        go_ret
        exact ⟨rfl, Below.refl _ _⟩
theorem get!_eq (s : ByteArray) (k : Nat) (h : k < s.size) : s.get! k = s[k] := by simp [ByteArray.get!, getElem!_pos, h]; rfl

/-- a rune that does not begin below 128: it is none below 128, and goes over bytes from 128 on -/
theorem decode_far (s : ByteArray) (i : Nat) (h : i < s.size) (hb : 128 ≤ s[i].toNat) :
    128 ≤ (Utf8.decode s i).1 ∧ 1 ≤ (Utf8.decode s i).2 ∧ i + (Utf8.decode s i).2 ≤ s.size ∧ ∀ j (hj : j < s.size), i ≤ j → j < i + (Utf8.decode s i).2 → 128 ≤ s[j].toNat := by
  have h0 : ¬ (s.get! (i + 0)).toNat < 0x80 := by rw [Nat.add_zero, get!_eq s i h]; omega
  have cont : ∀ k, (decide (i + k < s.size) && (s.get! (i + k)).toNat / 64 == 2) = true → ∃ hk : i + k < s.size, 128 ≤ (s[i + k]'hk).toNat := by
    intro k hk
    rw [Bool.and_eq_true, decide_eq_true_eq, beq_iff_eq] at hk
    refine ⟨hk.1, ?_⟩
    rw [← get!_eq s (i + k) hk.1]; omega
  unfold Utf8.decode
  simp only [h0, if_false]
  have one : (128 ≤ (Utf8.runeError, 1).1 ∧ 1 ≤ (Utf8.runeError, 1).2 ∧ i + (Utf8.runeError, 1).2 ≤ s.size ∧ ∀ j (hj : j < s.size), i ≤ j → j < i + (Utf8.runeError, 1).2 → 128 ≤ s[j].toNat) := by
    refine ⟨by decide, by decide, by show i + 1 ≤ s.size; omega, fun j hj h1 h2 => ?_⟩
    obtain rfl : j = i := by have : j < i + 1 := h2; omega
    exact hb
  split
  · rename_i hc
    rw [Bool.and_eq_true] at hc
    obtain ⟨k1, c1⟩ := cont 1 hc.2
    split
    · rename_i hv
      refine ⟨by simpa using hv, by show 1 ≤ 2; omega, by show i + 2 ≤ s.size; omega, fun j hj h1 h2 => ?_⟩
      have h2' : j < i + 2 := h2
      rcases (by omega : j = i ∨ j = i + 1) with rfl | rfl
      · exact hb
      · exact c1
    · exact one
  · split
    · rename_i hc
      rw [Bool.and_eq_true, Bool.and_eq_true] at hc
      obtain ⟨k1, c1⟩ := cont 1 hc.1.2
      obtain ⟨k2, c2⟩ := cont 2 hc.2
      split
      · rename_i hv
        rw [Bool.and_eq_true, decide_eq_true_eq] at hv
        refine ⟨by have := hv.1; show 128 ≤ _; omega, by show 1 ≤ 3; omega, by show i + 3 ≤ s.size; omega, fun j hj h1 h2 => ?_⟩
        have h2' : j < i + 3 := h2
        rcases (by omega : j = i ∨ j = i + 1 ∨ j = i + 2) with rfl | rfl | rfl
        · exact hb
        · exact c1
        · exact c2
      · exact one
    · split
      · rename_i hc
        rw [Bool.and_eq_true, Bool.and_eq_true, Bool.and_eq_true] at hc
        obtain ⟨k1, c1⟩ := cont 1 hc.1.1.2
        obtain ⟨k2, c2⟩ := cont 2 hc.1.2
        obtain ⟨k3, c3⟩ := cont 3 hc.2
        split
        · rename_i hv
          rw [Bool.and_eq_true, decide_eq_true_eq] at hv
          refine ⟨by have := hv.1; show 128 ≤ _; omega, by show 1 ≤ 4; omega, by show i + 4 ≤ s.size; omega, fun j hj h1 h2 => ?_⟩
          have h2' : j < i + 4 := h2
          rcases (by omega : j = i ∨ j = i + 1 ∨ j = i + 2 ∨ j = i + 3) with rfl | rfl | rfl | rfl
          · exact hb
          · exact c1
          · exact c2
          · exact c3
        · exact one
      · exact one

theorem hasB_over (s : ByteArray) (i d : Nat) (h0 : hasB (s.data.toList.take i) 43 35 = false) (hd : i + d ≤ s.size) (h : ∀ j (hj : j < s.size), i ≤ j → j < i + d → 128 ≤ s[j].toNat) :
    hasB (s.data.toList.take (i + d)) 43 35 = false := by
  induction d with
  | zero => exact h0
  | succ d ih =>
    have ih' := ih (by omega) (fun j hj h1 h2 => h j hj h1 (by omega))
    have hb := h (i + d) (by omega) (by omega) (by omega)
    exact hasB_more s (i + d) 43 35 (by omega) ih' (by simp; omega) (by simp; omega)

/-- what strings.IndexAny(s, "+#") comes to, as far as it is asked here -/
def AnyPost (s : ByteArray) (w : World) (e : Ending) (w' : World) : Prop := ∃ i : Int, e = .returned (.int .i64 i) ∧ decide (0 ≤ i) = hasB s.data.toList 43 35 ∧ Below w.heap.size w w'
end
section
open Go Go.RowKit Go.Lib

def RuneAscii : Prop := ∀ (s : ByteArray) (r : Int) (w : World), 0 ≤ r → r < 128 →
  Calls Tryz.prog 116 #[.string s, .int .i32 r] w fun e w' => e = .returned (.int .i64 (Lib.indexByte s.data.toList r.toNat.toUInt8)) ∧ w' = w
def RuneFar : Prop := ∀ (r : Int) (w : World), 128 ≤ r → r ≤ 2147483647 →
  Calls Tryz.prog 116 #[.string ⟨#[43, 35]⟩, .int .i32 r] w fun e w' => e = .returned (.int .i64 (-1)) ∧ Below w.heap.size w w'
def UseSet : Prop := ∀ (n : Int) (w : World), Calls Tryz.prog 117 #[.int .i64 n] w fun e w' => e = .returned (.bool (decide (8 < n))) ∧ w' = w

theorem idx_sign (b : UInt8) : (0 ≤ Lib.indexByte [43, 35] b) = ((((b.toNat : Nat) : Int) == 43 || ((b.toNat : Nat) : Int) == 35) = true) := by
  have e1 : ((43 : UInt8) == b) = (((b.toNat : Nat) : Int) == 43) := by
    rw [Bool.eq_iff_iff, beq_iff_eq, beq_iff_eq]
    constructor
    · rintro rfl; rfl
    · intro h; exact UInt8.toNat_inj.1 (by simp; omega)
  have e2 : ((35 : UInt8) == b) = (((b.toNat : Nat) : Int) == 35) := by
    rw [Bool.eq_iff_iff, beq_iff_eq, beq_iff_eq]
    constructor
    · rintro rfl; rfl
    · intro h; exact UInt8.toNat_inj.1 (by simp; omega)
  unfold Lib.indexByte Lib.indexByte Lib.indexByte
  rw [e1, e2]
  cases (((b.toNat : Nat) : Int) == 43) <;> cases (((b.toNat : Nat) : Int) == 35) <;> simp

set_option maxHeartbeats 4000000 in
set_option maxRecDepth 100000 in
theorem indexAny_short (hA : RuneAscii) (hF : RuneFar) (hU : UseSet) (s : ByteArray) (w : World) (h8 : s.size ≤ 8) :
    Calls Tryz.prog 75 #[.string s, .string ⟨#[43, 35]⟩] w (AnyPost s w) := by
  have HU := Lib.hid hU
  have HF := Lib.hid hF
  have HA : Hid (∀ (b : UInt8) (w : World), b.toNat < 128 → Calls Tryz.prog 116 #[.string ⟨#[43, 35]⟩, .int .i32 b.toNat] w fun e w' => e = .returned (.int .i64 (Lib.indexByte [43, 35] b)) ∧ w' = w) := fun b w hb => by
    have := hA ⟨#[43, 35]⟩ b.toNat w (by omega) (by omega)
    have e : ((b.toNat : Nat) : Int).toNat.toUInt8 = b := by simp
    rw [e] at this
    exact this
  have h8z : decide ((8 : Int) < (s.size : Int)) = false := decide_eq_false (by omega)
  clear hA hF hU
  go_enter Tryz.func75, Tryz.ntmps75
  go_wp2_with (go_at_call 117; refine (HU.out _ _).mono ?_; rintro e w' ⟨rfl, hw⟩; rw [hw, h8z])
  go_loopg [9, 10] s.size (fun g _ _ wx => ∃ i : Nat, i + g ≤ s.size ∧ s.size ≤ i + g ∧ wx.heap[w.heap.size]? = some (.stringIter s i) ∧ Below w.heap.size w wx ∧ Hid (hasB (s.data.toList.take i) 43 35 = false))
  case atStart => exact ⟨0, by omega, by omega, World.iter_heap _ _ _, (Below.refl _ w).alloc (Nat.le_refl _) _, rfl⟩
  case round =>
    obtain ⟨i, hi1, hi2, hit, hbw, HN⟩ := hrel
    have hbw2 := hbw
    by_cases hlt : i < s.size
    · by_cases hx : (s[i]'hlt).toNat < 128
      · obtain ⟨c, hc⟩ : ∃ c : UInt8, s[i]'hlt = c := ⟨_, rfl⟩
        have hnx := fun ty => run_next_ascii_at (P := Tryz.prog) wr w.heap.size s i ty hit hlt hx
        rw [hc] at hnx hx
        have CA := Lib.hid (HA.out c)
        have HS := Lib.hid (idx_sign c)
        by_cases hh : ((((s[i]'hlt).toNat : Nat) : Int) == 43 || (((s[i]'hlt).toNat : Nat) : Int) == 35) = true
        · have HT := Lib.hid (hasB_hit s i 43 35 hlt hh)
          rw [hc] at hh
          have hge : 0 ≤ Lib.indexByte [43, 35] c := by rw [HS.out]; exact hh
          have hit2 := iterAt_heap wr w.heap.size s i (i + 1) hit
          have hb2 := below_iterAt hbw (k := w.heap.size) (Nat.le_refl _) s (i + 1)
          clear hh HS HN hc hit
          generalize Lib.indexByte [43, 35] c = ix at *
          go_wp2_with (go_at_call 116; refine (CA.out _ hx).mono ?_; rintro e w' ⟨rfl, hw⟩; rw [hw])
          go_ret
          exact ⟨_, rfl, by rw [HT.out]; simp, hb2⟩
        · simp only [Bool.not_eq_true] at hh
          have HM := Lib.hid (hasB_more s i 43 35 hlt HN.out (by cases h : ((((s[i]'hlt).toNat : Nat) : Int) == 43) <;> simp_all) (by cases h : ((((s[i]'hlt).toNat : Nat) : Int) == 35) <;> simp_all))
          rw [hc] at hh
          have hge : ¬ 0 ≤ Lib.indexByte [43, 35] c := by rw [HS.out, hh]; simp
          have hit2 := iterAt_heap wr w.heap.size s i (i + 1) hit
          have hb2 := below_iterAt hbw (k := w.heap.size) (Nat.le_refl _) s (i + 1)
          clear hh HS HN hc hit
          generalize Lib.indexByte [43, 35] c = ix at *
          go_wp2_with (go_at_call 116; refine (CA.out _ hx).mono ?_; rintro e w' ⟨rfl, hw⟩; rw [hw])
          go_roundg (s.size - (i + 1))
          case measure => omega
          case rel => exact ⟨i + 1, by omega, by omega, hit2, hb2, HM⟩
      · obtain ⟨d1, d2, d3, d4⟩ := decode_far s i hlt (by omega)
        have hle := decode_le s i
        have hnx := fun ty => run_next_any_at (P := Tryz.prog) wr w.heap.size s i ty hit hlt
        have HM := Lib.hid (hasB_over s i (Utf8.decode s i).2 HN.out d3 d4)
        clear d4 HN hx
        generalize (Utf8.decode s i).1 = c at *
        generalize (Utf8.decode s i).2 = d at *
        have hit2 := iterAt_heap wr w.heap.size s i (i + d) hit
        have hb2 := below_iterAt hbw (k := w.heap.size) (Nat.le_refl _) s (i + d)
        clear hit
        go_wp2_with (go_at_call 116; refine (HF.out _ _ (by omega) (by omega)).mono ?_; rintro e w' ⟨rfl, hb3⟩)
        go_roundg (s.size - (i + d))
        case measure => omega
        case rel => exact ⟨i + d, by omega, by omega, (hb3.block _ (Array.getElem?_eq_some_iff.1 hit2).1).trans hit2, hb2.trans (hb3.mono hb2.size), HM⟩
    · have HT := Lib.hid (show hasB s.data.toList 43 35 = false by have := HN.out; rwa [List.take_of_length_le (by simp; omega)] at this)
      have hnx := fun ty => run_next_end_at (P := Tryz.prog) wr w.heap.size s i ty hit hlt
      clear HN
      go_wp2
      go_ret
      exact ⟨_, rfl, by rw [HT.out]; rfl, hbw⟩
end
end Go.Proofs.YtincmegllckcjaaGreatDoor
