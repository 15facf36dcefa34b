/- strings.ContainsAny(s, "+#" and a zero byte), at every s. -/
import Derived.BigQuiet
import Derived.Deep.LoopGhost
import Derived.Deep.QuietTactic
import Derived.Laws.RangeAny
import Derived.Laws.RangeString
import Derived.Lib.OthersKept
import Derived.Shelf.Small.Utf8
import Derived.Shelf.Strings.IndexAnyAll
import Derived.Test.YtincmegllckcjaaGreatDoorMTrieLib
namespace Go.Proofs.YtincmegllckcjaaGreatDoor
open Go Go.RowKit Go.Lib

theorem index_zero {c : UInt8} (h : 128 ≤ c.toNat) : Lib.indexByte (⟨#[0]⟩ : ByteArray).data.toList c = -1 := by
  have : ((0 : UInt8) == c) = false := by
    rw [beq_eq_false_iff_ne]
    rintro rfl
    simp at h
  show Lib.indexByte [0] c = -1
  unfold Lib.indexByte
  rw [this]
  simp [Lib.indexByte]
theorem encode_far3 (r : Int) (h : 128 ≤ r) (hv : Utf8.valid r = true) : 2 ≤ (Utf8.encode r).size ∧ (Utf8.encode r).size ≤ 4 ∧ ∀ k (h1 : k < (Utf8.encode r).size), k + 1 = (Utf8.encode r).size → 128 ≤ ((Utf8.encode r)[k]'h1).toNat := by
  have hc : ¬ r.toNat < 0x80 := by omega
  unfold Utf8.encode
  simp only [hv, if_true, hc, if_false]
  split
  · rename_i h2
    refine ⟨by simp [ByteArray.size], by simp [ByteArray.size], fun k h1 hk => ?_⟩
    have : k = 1 := by simp [ByteArray.size] at hk; omega
    subst this
    show 128 ≤ (UInt8.ofNat (128 + r.toNat % 64)).toNat
    simp [UInt8.toNat_ofNat]; omega
  · split
    · refine ⟨by simp [ByteArray.size], by simp [ByteArray.size], fun k h1 hk => ?_⟩
      have : k = 2 := by simp [ByteArray.size] at hk; omega
      subst this
      show 128 ≤ (UInt8.ofNat (128 + r.toNat % 64)).toNat
      simp [UInt8.toNat_ofNat]; omega
    · refine ⟨by simp [ByteArray.size], by simp [ByteArray.size], fun k h1 hk => ?_⟩
      have : k = 3 := by simp [ByteArray.size] at hk; omega
      subst this
      show 128 ≤ (UInt8.ofNat (128 + r.toNat % 64)).toNat
      simp [UInt8.toNat_ofNat]; omega
set_option maxHeartbeats 4000000 in
set_option maxRecDepth 100000 in
theorem indexRune_far3 (hVR : ∀ (r : Int) (w : World), Calls Tryz.prog 153 #[.int .i32 r] w fun e w' => e = .returned (.bool (Lib.validRune r)) ∧ w' = w)
    (hI : IndexByteSaid) (r : Int) (w : World) (h : 128 ≤ r) (h2 : r ≤ 2147483647) :
    Calls Tryz.prog 116 #[.string ⟨#[43, 35, 0]⟩, .int .i32 r] w fun e w' => e = .returned (.int .i64 (-1)) ∧ Below w.heap.size w w' := by
  by_cases hE : r = 65533
  · have hr : (r == 65533) = true := by simpa using hE
    clear hE
    go_enter Tryz.func116, Tryz.ntmps116
    have n0 : ∀ ty, (Instr.next (.pointer (some ⟨w.heap.size, 0, none⟩)) true ty).run Tryz.prog (w.iter ⟨#[43, 35, 0]⟩ 0) = .ok (.tuple #[.bool true, .int .i64 0, .int .i32 43]) (w.iter ⟨#[43, 35, 0]⟩ 1) := fun ty => run_next_ascii (P := Tryz.prog) w ⟨#[43, 35, 0]⟩ 0 ty (by decide) (by decide)
    have n1 : ∀ ty, (Instr.next (.pointer (some ⟨w.heap.size, 0, none⟩)) true ty).run Tryz.prog (w.iter ⟨#[43, 35, 0]⟩ 1) = .ok (.tuple #[.bool true, .int .i64 1, .int .i32 35]) (w.iter ⟨#[43, 35, 0]⟩ 2) := fun ty => run_next_ascii (P := Tryz.prog) w ⟨#[43, 35, 0]⟩ 1 ty (by decide) (by decide)
    have n2 : ∀ ty, (Instr.next (.pointer (some ⟨w.heap.size, 0, none⟩)) true ty).run Tryz.prog (w.iter ⟨#[43, 35, 0]⟩ 2) = .ok (.tuple #[.bool true, .int .i64 2, .int .i32 0]) (w.iter ⟨#[43, 35, 0]⟩ 3) := fun ty => run_next_ascii (P := Tryz.prog) w ⟨#[43, 35, 0]⟩ 2 ty (by decide) (by decide)
    have n3 : ∀ ty, (Instr.next (.pointer (some ⟨w.heap.size, 0, none⟩)) true ty).run Tryz.prog (w.iter ⟨#[43, 35, 0]⟩ 3) = .ok (.tuple #[.bool false]) (w.iter ⟨#[43, 35, 0]⟩ 3) := fun ty => run_next_end (P := Tryz.prog) w ⟨#[43, 35, 0]⟩ 3 ty (by decide)
    have hbi : ∀ p, Below w.heap.size w (w.iter ⟨#[43, 35, 0]⟩ p) := fun p => (Below.refl _ w).alloc (Nat.le_refl _) _
    have HB := Lib.hid hbi
    clear hbi
    go_wp2
    go_loopw [5, 6] (fun _ _ wr => wr = w.iter ⟨#[43, 35, 0]⟩ 0 ∨ wr = w.iter ⟨#[43, 35, 0]⟩ 1 ∨ wr = w.iter ⟨#[43, 35, 0]⟩ 2 ∨ wr = w.iter ⟨#[43, 35, 0]⟩ 3) (fun _ _ wr => 3 - wr.iterPos w.heap.size)
    case atStart => exact .inl rfl
    case round =>
      rcases hrel with rfl | rfl | rfl | rfl
      · go_wp2
        go_roundw
        case rel => first | exact .inr (.inl rfl) | exact .inr (.inl trivial)
        case measure => simp
      · go_wp2
        go_roundw
        case rel => first | exact .inr (.inr (.inl rfl)) | exact .inr (.inr (.inl trivial))
        case measure => simp
      · go_wp2
        go_roundw
        case rel => first | exact .inr (.inr (.inr rfl)) | exact .inr (.inr (.inr trivial))
        case measure => simp
      · go_wp2
        go_ret
        exact ⟨rfl, HB.out _⟩
  · have hr : (r == 65533) = false := by simpa using hE
    clear hE
    have CV := Lib.hid (hVR r)
    cases hv : Lib.validRune r
    · rw [hv] at CV
      go_enter Tryz.func116, Tryz.ntmps116
      go_wp2_with (go_at_call 153; refine (CV.out _).mono ?_; rintro e w' ⟨rfl, rfl⟩)
      go_ret
      exact ⟨rfl, Below.refl _ _⟩
    · rw [hv] at CV
      obtain ⟨hz1, hz2, hz3⟩ := encode_far3 r h (valid_of r hv)
      obtain ⟨t, ht⟩ : ∃ t, Utf8.encode r = t := ⟨_, rfl⟩
      rw [ht] at hz1 hz2 hz3
      by_cases h3 : t.size = 2
      · have h1t : 1 < t.size := by omega
        have h128 : 128 ≤ (t[1]'h1t).toNat := hz3 1 h1t (by omega)
        clear hz3
        have hlt : ((t.size : Int) - 1 < 3) := by omega
        have e1 : ((t.size : Int) - 1) = 1 := by omega
        have e3 : ¬ t.size = 1 := by omega
        obtain ⟨c, hc⟩ : ∃ c : UInt8, t[1]'h1t = c := ⟨_, rfl⟩
        rw [hc] at h128
        have CI : Hid (∀ (w : World), Calls Tryz.prog 90 #[.string ⟨#[0]⟩, .int .u8 c.toNat] w fun e w' => e = .returned (.int .i64 (-1)) ∧ w = w') := fun w => by have := hI ⟨#[0]⟩ c w; rwa [index_zero h128] at this
        have hne : (((((⟨#[43, 35, 0]⟩ : ByteArray)[1]'(by decide)).toNat : Nat) : Int) != (c.toNat : Int)) = true := by
          have e35 : ((⟨#[43, 35, 0]⟩ : ByteArray)[1]'(by decide)).toNat = 35 := rfl
          rw [e35, bne_iff_ne]; omega
        go_enter Tryz.func116, Tryz.ntmps116
        go_wp2_with (go_at_call 153; refine (CV.out _).mono ?_; rintro e w' ⟨rfl, rfl⟩)
        go_step3
        go_wp2
        apply wp_loop_once
        go_wp2
        go_step3
        go_wp2
        go_quiet (fail)
        go_wp2
        go_quiet ((go_at_call 90; exact quiet_more_same (CI.out _)))
        go_wp2
        rw [Exit.noGoto_ret]
        go_wp2
        rw [Exit.noGoto_ret]
        go_ret
        exact ⟨rfl, below_drewN' (Below.refl _ _) _⟩
      · by_cases h4 : t.size = 3
        · have h1t : 2 < t.size := by omega
          have h128 : 128 ≤ (t[2]'h1t).toNat := hz3 2 h1t (by omega)
          clear hz3
          have hlt : ((t.size : Int) - 1 < 3) := by omega
          have e1 : ((t.size : Int) - 1) = 2 := by omega
          have e3 : ¬ t.size = 1 := by omega
          obtain ⟨c, hc⟩ : ∃ c : UInt8, t[2]'h1t = c := ⟨_, rfl⟩
          rw [hc] at h128
          have CI : Hid (∀ (w : World), Calls Tryz.prog 90 #[.string ByteArray.empty, .int .u8 c.toNat] w fun e w' => e = .returned (.int .i64 (-1)) ∧ w = w') := fun w => hI ByteArray.empty c w
          have hne : (((((⟨#[43, 35, 0]⟩ : ByteArray)[2]'(by decide)).toNat : Nat) : Int) != (c.toNat : Int)) = true := by
            have e35 : ((⟨#[43, 35, 0]⟩ : ByteArray)[2]'(by decide)).toNat = 0 := rfl
            rw [e35, bne_iff_ne]; omega
          go_enter Tryz.func116, Tryz.ntmps116
          go_wp2_with (go_at_call 153; refine (CV.out _).mono ?_; rintro e w' ⟨rfl, rfl⟩)
          go_step3
          go_wp2
          apply wp_loop_once
          go_wp2
          go_step3
          go_wp2
          go_quiet (fail)
          go_wp2
          go_quiet ((go_at_call 90; exact quiet_more_same (CI.out _)))
          go_wp2
          rw [Exit.noGoto_ret]
          go_wp2
          rw [Exit.noGoto_ret]
          go_ret
          exact ⟨rfl, below_drewN' (Below.refl _ _) _⟩
        · clear hz3
          have hlt : ¬ ((t.size : Int) - 1 < 3) := by omega
          go_enter Tryz.func116, Tryz.ntmps116
          go_wp2_with (go_at_call 153; refine (CV.out _).mono ?_; rintro e w' ⟨rfl, rfl⟩)
          go_step3
          go_wp2
          apply wp_loop_once
          go_wp2
          rw [Exit.noGoto_ret]
          go_ret
          exact ⟨rfl, Below.refl _ _⟩

def is3 (b : UInt8) : Bool := ((b.toNat : Nat) : Int) == 43 || ((b.toNat : Nat) : Int) == 35 || ((b.toNat : Nat) : Int) == 0
def has3 (l : List UInt8) : Bool := l.any is3
theorem has3_hit (s : ByteArray) (i : Nat) (h : i < s.size) (hh : is3 (s[i]'h) = true) : has3 s.data.toList = true := by
  unfold has3
  rw [List.any_eq_true]
  exact ⟨s[i]'h, by rw [show s[i]'h = s.data.toList[i]'(by simpa using h) from rfl]; exact List.getElem_mem _, hh⟩
theorem has3_more (s : ByteArray) (i : Nat) (h : i < s.size) (h0 : has3 (s.data.toList.take i) = false) (hh : is3 (s[i]'h) = false) : has3 (s.data.toList.take (i + 1)) = false := by
  unfold has3 at *
  have hl : i < s.data.toList.length := by simpa using h
  rw [List.take_succ_eq_append_getElem hl, List.any_append, h0]
  have : s.data.toList[i]'hl = s[i]'h := rfl
  rw [this]
  simp [hh]
theorem is3_far {b : UInt8} (h : 128 ≤ b.toNat) : is3 b = false := by
  unfold is3
  have h1 : ((b.toNat : Nat) : Int) ≠ 43 := by omega
  have h2 : ((b.toNat : Nat) : Int) ≠ 35 := by omega
  have h3 : ((b.toNat : Nat) : Int) ≠ 0 := by omega
  simp only [Bool.or_eq_false_iff, beq_eq_false_iff_ne]
  exact ⟨⟨h1, h2⟩, h3⟩
theorem has3_over (s : ByteArray) (i d : Nat) (h0 : has3 (s.data.toList.take i) = false) (hd : i + d ≤ s.size) (h : ∀ j (hj : j < s.size), i ≤ j → j < i + d → 128 ≤ s[j].toNat) :
    has3 (s.data.toList.take (i + d)) = false := by
  induction d with
  | zero => exact h0
  | succ d ih =>
    have ih' := ih (by omega) (fun j hj h1 h2 => h j hj h1 (by omega))
    have hb := h (i + d) (by omega) (by omega) (by omega)
    exact has3_more s (i + d) (by omega) ih' (is3_far hb)
theorem has3_parts (l : List UInt8) : has3 l = (hasB l 43 35 || hasB l 0 0) := by
  induction l with
  | nil => rfl
  | cons b l ih =>
    show (is3 b || has3 l) = _
    rw [ih, show hasB (b :: l) 43 35 = ((((b.toNat : Nat) : Int) == 43 || ((b.toNat : Nat) : Int) == 35) || hasB l 43 35) from rfl, show hasB (b :: l) 0 0 = ((((b.toNat : Nat) : Int) == 0 || ((b.toNat : Nat) : Int) == 0) || hasB l 0 0) from rfl]
    unfold is3
    cases (((b.toNat : Nat) : Int) == 43) <;> cases (((b.toNat : Nat) : Int) == 35) <;> cases (((b.toNat : Nat) : Int) == 0) <;> cases hasB l 43 35 <;> cases hasB l 0 0 <;> rfl
/-- what strings.IndexAny(s, .) comes to, as far as it is asked here -/
def AnyPost3 (s : ByteArray) (w : World) (e : Ending) (w' : World) : Prop := ∃ i : Int, e = .returned (.int .i64 i) ∧ decide (0 ≤ i) = has3 s.data.toList ∧ Below w.heap.size w w'
def RuneFar3 : Prop := ∀ (r : Int) (w : World), 128 ≤ r → r ≤ 2147483647 →
  Calls Tryz.prog 116 #[.string ⟨#[43, 35, 0]⟩, .int .i32 r] w fun e w' => e = .returned (.int .i64 (-1)) ∧ Below w.heap.size w w'
theorem idx_sign3 (b : UInt8) : (0 ≤ Lib.indexByte [43, 35, 0] b) = (is3 b = true) := by
  have e1 : ((43 : UInt8) == b) = (((b.toNat : Nat) : Int) == 43) := by
    rw [Bool.eq_iff_iff, beq_iff_eq, beq_iff_eq]
    constructor
    · rintro rfl; rfl
    · intro h; exact UInt8.toNat_inj.1 (by simp; omega)
  have e2 : ((35 : UInt8) == b) = (((b.toNat : Nat) : Int) == 35) := by
    rw [Bool.eq_iff_iff, beq_iff_eq, beq_iff_eq]
    constructor
    · rintro rfl; rfl
    · intro h; exact UInt8.toNat_inj.1 (by simp; omega)
  have e3 : ((0 : UInt8) == b) = (((b.toNat : Nat) : Int) == 0) := by
    rw [Bool.eq_iff_iff, beq_iff_eq, beq_iff_eq]
    constructor
    · rintro rfl; rfl
    · intro h; exact UInt8.toNat_inj.1 (by simp; omega)
  unfold Lib.indexByte Lib.indexByte Lib.indexByte Lib.indexByte is3
  rw [e1, e2, e3]
  cases (((b.toNat : Nat) : Int) == 43) <;> cases (((b.toNat : Nat) : Int) == 35) <;> cases (((b.toNat : Nat) : Int) == 0) <;> simp

set_option maxHeartbeats 4000000 in
set_option maxRecDepth 100000 in
theorem indexAny_short3 (hA : RuneAscii) (hF : RuneFar3) (hU : UseSet) (s : ByteArray) (w : World) (h8 : s.size ≤ 8) :
    Calls Tryz.prog 75 #[.string s, .string ⟨#[43, 35, 0]⟩] w (AnyPost3 s w) := by
  have HU := Lib.hid hU
  have HF := Lib.hid hF
  have HA : Hid (∀ (b : UInt8) (w : World), b.toNat < 128 → Calls Tryz.prog 116 #[.string ⟨#[43, 35, 0]⟩, .int .i32 b.toNat] w fun e w' => e = .returned (.int .i64 (Lib.indexByte [43, 35, 0] b)) ∧ w' = w) := fun b w hb => by
    have := hA ⟨#[43, 35, 0]⟩ b.toNat w (by omega) (by omega)
    have e : ((b.toNat : Nat) : Int).toNat.toUInt8 = b := by simp
    rw [e] at this
    exact this
  have h8z : decide ((8 : Int) < (s.size : Int)) = false := decide_eq_false (by omega)
  clear hA hF hU
  go_enter Tryz.func75, Tryz.ntmps75
  go_wp2_with (go_at_call 117; refine (HU.out _ _).mono ?_; rintro e w' ⟨rfl, hw⟩; rw [hw, h8z])
  go_loopg [9, 10] s.size (fun g _ _ wx => ∃ i : Nat, i + g ≤ s.size ∧ s.size ≤ i + g ∧ wx.heap[w.heap.size]? = some (.stringIter s i) ∧ Below w.heap.size w wx ∧ Hid (has3 (s.data.toList.take i) = false))
  case atStart => exact ⟨0, by omega, by omega, World.iter_heap _ _ _, (Below.refl _ w).alloc (Nat.le_refl _) _, rfl⟩
  case round =>
    obtain ⟨i, hi1, hi2, hit, hbw, HN⟩ := hrel
    have hbw2 := hbw
    by_cases hlt : i < s.size
    · by_cases hx : (s[i]'hlt).toNat < 128
      · obtain ⟨c, hc⟩ : ∃ c : UInt8, s[i]'hlt = c := ⟨_, rfl⟩
        have hnx := fun ty => run_next_ascii_at (P := Tryz.prog) wr w.heap.size s i ty hit hlt hx
        rw [hc] at hnx hx
        have CA := Lib.hid (HA.out c)
        have HS := Lib.hid (idx_sign3 c)
        by_cases hh : is3 (s[i]'hlt) = true
        · have HT := Lib.hid (has3_hit s i hlt hh)
          rw [hc] at hh
          have hge : 0 ≤ Lib.indexByte [43, 35, 0] c := by rw [HS.out]; exact hh
          have hit2 := iterAt_heap wr w.heap.size s i (i + 1) hit
          have hb2 := below_iterAt hbw (k := w.heap.size) (Nat.le_refl _) s (i + 1)
          clear hh HS HN hc hit
          generalize Lib.indexByte [43, 35, 0] c = ix at *
          go_wp2_with (go_at_call 116; refine (CA.out _ hx).mono ?_; rintro e w' ⟨rfl, hw⟩; rw [hw])
          go_ret
          exact ⟨_, rfl, by rw [HT.out]; simp, hb2⟩
        · simp only [Bool.not_eq_true] at hh
          have HM := Lib.hid (has3_more s i hlt HN.out hh)
          rw [hc] at hh
          have hge : ¬ 0 ≤ Lib.indexByte [43, 35, 0] c := by rw [HS.out, hh]; simp
          have hit2 := iterAt_heap wr w.heap.size s i (i + 1) hit
          have hb2 := below_iterAt hbw (k := w.heap.size) (Nat.le_refl _) s (i + 1)
          clear hh HS HN hc hit
          generalize Lib.indexByte [43, 35, 0] c = ix at *
          go_wp2_with (go_at_call 116; refine (CA.out _ hx).mono ?_; rintro e w' ⟨rfl, hw⟩; rw [hw])
          go_roundg (s.size - (i + 1))
          case measure => omega
          case rel => exact ⟨i + 1, by omega, by omega, hit2, hb2, HM⟩
      · obtain ⟨d1, d2, d3, d4⟩ := decode_far s i hlt (by omega)
        have hle := decode_le s i
        have hnx := fun ty => run_next_any_at (P := Tryz.prog) wr w.heap.size s i ty hit hlt
        have HM := Lib.hid (has3_over s i (Utf8.decode s i).2 HN.out d3 d4)
        clear d4 HN hx
        generalize (Utf8.decode s i).1 = c at *
        generalize (Utf8.decode s i).2 = d at *
        have hit2 := iterAt_heap wr w.heap.size s i (i + d) hit
        have hb2 := below_iterAt hbw (k := w.heap.size) (Nat.le_refl _) s (i + d)
        clear hit
        go_wp2_with (go_at_call 116; refine (HF.out _ _ (by omega) (by omega)).mono ?_; rintro e w' ⟨rfl, hb3⟩)
        go_roundg (s.size - (i + d))
        case measure => omega
        case rel => exact ⟨i + d, by omega, by omega, (hb3.block _ (Array.getElem?_eq_some_iff.1 hit2).1).trans hit2, hb2.trans (hb3.mono hb2.size), HM⟩
    · have HT := Lib.hid (show has3 s.data.toList = false by have := HN.out; rwa [List.take_of_length_le (by simp; omega)] at this)
      have hnx := fun ty => run_next_end_at (P := Tryz.prog) wr w.heap.size s i ty hit hlt
      clear HN
      go_wp2
      go_ret
      exact ⟨_, rfl, by rw [HT.out]; rfl, hbw⟩

theorem runeFar3 : RuneFar3 := fun r w h0 h1 => indexRune_far3 (fun r w => Any.utf8_ValidRune Tryz.laysn119 r w) indexByte_said r w h0 h1
theorem indexAny_sign3 (l : List UInt8) : decide (0 ≤ Lib.indexAny l [43, 35, 0]) = has3 l := by
  induction l with
  | nil => rfl
  | cons b l ih =>
    have e : ([43, 35, 0] : List UInt8).contains b = is3 b := by
      rw [Lib.contains_iff_indexByte, Bool.eq_iff_iff, decide_eq_true_eq, idx_sign3]
    have ge := Lib.indexAny_ge [43, 35, 0] l
    have hc : has3 (b :: l) = (is3 b || has3 l) := rfl
    rw [hc, ← ih, ← e]
    rw [show Lib.indexAny (b :: l) [43, 35, 0] = if ([43, 35, 0] : List UInt8).contains b then 0 else if Lib.indexAny l [43, 35, 0] == -1 then -1 else Lib.indexAny l [43, 35, 0] + 1 from rfl]
    cases ([43, 35, 0] : List UInt8).contains b
    · simp only [Bool.false_eq_true, if_false, Bool.false_or]
      split
      · rename_i h
        have h' : Lib.indexAny l [43, 35, 0] = -1 := by simpa using h
        rw [h']
      · rename_i h
        have h' : Lib.indexAny l [43, 35, 0] ≠ -1 := by simpa using h
        rw [Bool.eq_iff_iff, decide_eq_true_eq, decide_eq_true_eq]; omega
    · simp

theorem contains3_said (s : ByteArray) (w : World) (hs : s.size ≤ 1048576) : Calls Tryz.prog 44 #[.string s, .string ⟨#[43, 35, 0]⟩] w fun e w' => e = .returned (.bool (has3 s.data.toList)) ∧ Below w.heap.size w w' := by
  have c : Calls Tryz.prog 75 #[.string s, .string ⟨#[43, 35, 0]⟩] w (AnyPost3 s w) := by
    by_cases h8 : s.size ≤ 8
    · exact indexAny_short3 runeAscii runeFar3 useSet s w h8
    · refine (Any.strings_IndexAny_long Tryz.laysn153 (zero_of_info info_set).1 (zero_of_info info_set).2 s ⟨#[43, 35, 0]⟩ w (by decide) (by omega) (by omega) (by decide) (by
        intro j b hj
        match j, hj with
        | 0, hj => simp at hj; subst hj; decide
        | 1, hj => simp at hj; subst hj; decide
        | 2, hj => simp at hj; subst hj; decide)).mono ?_
      rintro e w' ⟨rfl, rfl⟩
      exact ⟨_, rfl, indexAny_sign3 _, ((Below.refl _ w).alloc (Nat.le_refl _) _).alloc (by simp) _⟩
  have CC := Lib.hid c
  clear c
  go_enter Tryz.func44, Tryz.ntmps44
  go_wp2_with fail
  refine CC.out.mono ?_
  rintro e w' ⟨i, rfl, hs, hb⟩
  have HS := Lib.hid hs
  clear hs
  go_wp2
  go_ret
  exact ⟨ret_bool HS.out, hb⟩
end Go.Proofs.YtincmegllckcjaaGreatDoor
