/- WIRE: the two check sums walked. WIRE: the reference's check sum, walked; it is the program's. WIRE: bytes that grow: a row that a value holds, what else stays; a number's bytes; the writer's number. WIRE: numbers written: the program's and the reference's. WIRE: signed numbers, texts. WIRE: texts written. WIRE: the reference's Text. -/
import Derived.WalkKit
import Derived.Lib.Hide
import Derived.Below
import Derived.OwnWalk
import Derived.Laws.BitsAllLaws
import Derived.Test.YtmncpbfghabamaaDoorProg
import Derived.RangeFuncBox
import Derived.Maps.AppendAt
import Derived.Lib.AppendStr
import Derived.Lib.ConvBytes
namespace Go.Proofs.YtmncpbfghabamaaDoor
open Go Go.RowKit

/-- v reads as these bytes -/
def Bs (w : World) (v : Value) (l : List UInt8) : Prop := ∃ p cap, v = .slice p l.length cap ∧ l.length ≤ cap ∧ cap ≤ 9223372036854775807 ∧ (0 < l.length → ∃ b o, p = some ⟨b, o, none⟩ ∧ ∀ j x, l[j]? = some x → w.cell? ⟨b, o + j, none⟩ = some (.int .u8 (x.toNat : Nat)))
def stepC (c : BitVec 16) : BitVec 16 := if c.msb then (c <<< 1) ^^^ 0x1021#16 else c <<< 1
def crc1 (c : BitVec 16) (x : UInt8) : BitVec 16 := stepC (stepC (stepC (stepC (stepC (stepC (stepC (stepC (c ^^^ (BitVec.ofNat 16 x.toNat <<< 8)))))))))
def stepN : Nat → BitVec 16 → BitVec 16
  | 0, c => c
  | n + 1, c => stepC (stepN n c)
theorem crc1_eq (c : BitVec 16) (x : UInt8) : crc1 c x = stepN 8 (c ^^^ (BitVec.ofNat 16 x.toNat <<< 8)) := rfl
theorem xor_byte (C : BitVec 16) (x : UInt8) : bits .xor .u16 ((C.toNat : Nat) : Int) (((x.toNat : Nat) : Int) * 256) = (((C ^^^ (BitVec.ofNat 16 x.toNat <<< 8)).toNat : Nat) : Int) := by
  have hx := x.toNat_lt
  have e : (((x.toNat : Nat) : Int) * 256) = ((x.toNat * 256 : Nat) : Int) := by simp
  rw [e, u16_xor_nat _ _ C.isLt (by omega), BitVec.toNat_xor]
  congr 2
  rw [BitVec.toNat_shiftLeft, BitVec.toNat_ofNat, Nat.shiftLeft_eq]
  omega
theorem and_pow15 (n : Nat) : n &&& 2 ^ 15 = if n.testBit 15 then 2 ^ 15 else 0 := by
  apply Nat.eq_of_testBit_eq
  intro i
  rw [Nat.testBit_and, Nat.testBit_two_pow]
  cases hb : n.testBit 15 with
  | true =>
    rw [if_pos rfl, Nat.testBit_two_pow]
    by_cases h : 15 = i
    · subst h; simp [hb]
    · simp [h]
  | false =>
    rw [if_neg (by simp), Nat.zero_testBit]
    by_cases h : 15 = i
    · subst h; simp [hb]
    · simp [h]
theorem and_top (C : BitVec 16) : bits .and .u16 ((C.toNat : Nat) : Int) 32768 = if C.msb then 32768 else 0 := by
  have h := u16_and_nat C.toNat 32768 C.isLt (by omega)
  have e : ((32768 : Nat) : Int) = 32768 := rfl
  rw [e] at h
  rw [h, show (32768 : Nat) = 2 ^ 15 from rfl, and_pow15]
  rw [BitVec.msb_eq_getLsbD_last]
  show _ = if C.getLsbD 15 then (32768 : Int) else 0
  rw [← BitVec.testBit_toNat]
  cases C.toNat.testBit 15 <;> rfl
theorem shl_one (C : BitVec 16) : IntKind.u16.wrap (((C.toNat : Nat) : Int) * 2) = (((C <<< 1).toNat : Nat) : Int) := by
  rw [BitVec.toNat_shiftLeft, Nat.shiftLeft_eq, IntKind.wrap_u16]
  simp
theorem xor_poly (C : BitVec 16) : bits .xor .u16 ((C.toNat : Nat) : Int) 4129 = (((C ^^^ 0x1021#16).toNat : Nat) : Int) := by
  have h := u16_xor_nat C.toNat 4129 C.isLt (by omega)
  have e : ((4129 : Nat) : Int) = 4129 := rfl
  rw [e] at h
  rw [h, BitVec.toNat_xor]
  rfl
def crc (l : List UInt8) : BitVec 16 := l.foldl crc1 0xffff#16

set_option maxHeartbeats 1000000 in
theorem sum_any (p : Option Addr) (cap : Nat) (l : List UInt8) (w : World) (hB : Bs w (.slice p l.length cap) l) :
    Calls Tryd.prog 25 #[.slice p l.length cap] w fun e w' => e = .returned (.int .u16 ((crc l).toNat : Nat)) ∧ w' = w := by
  obtain ⟨p', cap', he, h1, h2, h3⟩ := hB
  injection he with e1 e2 e3
  subst e1; subst e3
  have H3 := Lib.hid h3
  clear h3
  go_enter Tryd.func25, Tryd.ntmps25
  go_wp2_with fail
  go_loop [3, 8] (fun c i => ∃ (j : Nat) (C : BitVec 16), c = .int .u16 (C.toNat : Nat) ∧ i = .int .i64 (j : Nat) ∧ j ≤ l.length ∧ Hid (C = crc (l.take j))) (fun _ i => l.length - (intOf i).toNat)
  case atStart => exact ⟨0, 0xffff#16, rfl, rfl, by omega, by show _ = _; simp [crc]⟩
  case round =>
    obtain ⟨j, C, rfl, rfl, hj, HC⟩ := hrel
    by_cases hlt : j < l.length
    · obtain ⟨x, hx⟩ : ∃ x, l[j]? = some x := ⟨_, List.getElem?_eq_getElem hlt⟩
      obtain ⟨b, o, rfl, hc⟩ := H3.out (by omega)
      have hcx := hc j x hx
      have hlt' : (j : Int) < (l.length : Int) := by omega
      have hCl := C.isLt
      have hxl : x.toNat < 256 := x.toNat_lt
      have hX := xor_byte C x
      have HC1 : Hid (crc (l.take (j + 1)) = stepN 8 (C ^^^ (BitVec.ofNat 16 x.toNat <<< 8))) := by
        show _ = _; rw [← crc1_eq, HC.out, crc, List.take_add_one, hx]; simp [List.foldl_append, crc]
      clear hc hx HC
      generalize C ^^^ (BitVec.ofNat 16 x.toNat <<< 8) = C1 at *
      go_wp2_with fail
      clear hX
      go_loop [3, 17] (fun c i => ∃ (k : Nat) (C : BitVec 16), c = .int .u16 (C.toNat : Nat) ∧ i = .int .i64 (k : Nat) ∧ k ≤ 8 ∧ Hid (C = stepN k C1)) (fun _ i => 8 - (intOf i).toNat)
      case atStart => exact ⟨0, C1, rfl, rfl, by omega, rfl⟩
      case round =>
        obtain ⟨k, C2, rfl, rfl, hk, HK⟩ := hrel
        by_cases hk8 : k < 8
        · have hk8' : (k : Int) < 8 := by omega
          have hC2 := C2.isLt
          have ha := and_top C2
          have hs := shl_one C2
          have hp := xor_poly (C2 <<< 1)
          obtain ⟨D, hD⟩ : ∃ D, Hid (C2 <<< 1 = D) := ⟨_, rfl⟩
          rw [hD.out] at hs hp
          obtain ⟨E, hE⟩ : ∃ E, Hid (D ^^^ 0x1021#16 = E) := ⟨_, rfl⟩
          rw [hE.out] at hp
          have HS : Hid (stepN (k + 1) C1 = stepC C2) := by show _ = _; rw [HK.out]; rfl
          cases hm : C2.msb with
          | true =>
            rw [hm] at ha
            simp only [if_true] at ha
            have HS2 : Hid (E = stepN (k + 1) C1) := by show _ = _; rw [HS.out, stepC, hm, ← hE.out, ← hD.out]; rfl
            clear HS hm
            go_wp2_with fail
            go_round
            case rel => exact ⟨k + 1, E, by (first | rfl | (rw [hs, hp])), by go_num, by omega, HS2.out⟩
            case measure => simp [intOf]; omega
          | false =>
            rw [hm] at ha
            simp only [if_false, Bool.false_eq_true] at ha
            have HS2 : Hid (D = stepN (k + 1) C1) := by show _ = _; rw [HS.out, stepC, hm, ← hD.out]; rfl
            clear HS hm hp
            go_wp2_with fail
            go_round
            case rel => exact ⟨k + 1, D, by (first | rfl | (rw [hs])), by go_num, by omega, HS2.out⟩
            case measure => simp [intOf]; omega
        · obtain rfl : k = 8 := by omega
          have HE : Hid (C2 = crc (l.take (j + 1))) := by show _ = _; rw [HC1.out, HK.out]
          clear HK HC1
          go_wp2_with fail
          go_round
          case rel => exact ⟨j + 1, C2, rfl, by go_num, by omega, HE.out⟩
          case measure => simp [intOf]; omega
    · obtain rfl : j = l.length := by omega
      have HE : Hid (C = crc l) := by show _ = _; have h := HC.out; rw [List.take_length] at h; exact h
      clear HC
      go_wp2_with fail
      go_ret
      rw [HE.out]
      exact ⟨rfl, rfl⟩

def stepR (s : BitVec 16) (b : Bool) : BitVec 16 := if (s.msb != b) then (s <<< 1) ^^^ 0x1021#16 else s <<< 1
def bitsN (x : UInt8) : Nat → BitVec 16 → BitVec 16
  | 0, c => c
  | n + 1, c => stepR (bitsN x n c) (x.toNat.testBit (7 - n))
theorem stepC_xor (R Y : BitVec 16) (b : Bool) (h : Y.msb = b) : stepC (R ^^^ Y) = stepR R b ^^^ (Y <<< 1) := by
  unfold stepC stepR
  rw [BitVec.msb_xor, h, BitVec.shiftLeft_xor_distrib]
  cases R.msb <;> cases b <;> simp <;> ac_rfl
theorem byte_msb (x : UInt8) (i : Nat) (hi : i < 8) : (BitVec.ofNat 16 x.toNat <<< (8 + i)).msb = x.toNat.testBit (7 - i) := by
  rw [BitVec.msb_eq_getLsbD_last]
  show (BitVec.ofNat 16 x.toNat <<< (8 + i)).getLsbD 15 = _
  rw [BitVec.getLsbD_shiftLeft, BitVec.getLsbD_ofNat]
  have e : 15 - (8 + i) = 7 - i := by omega
  rw [e]
  have h1 : ¬ 15 < 8 + i := by omega
  have h2 : 7 - i < 16 := by omega
  simp [h1, h2]
theorem bits_inv (x : UInt8) (c : BitVec 16) : ∀ n, n ≤ 8 → stepN n (c ^^^ (BitVec.ofNat 16 x.toNat <<< 8)) = bitsN x n c ^^^ (BitVec.ofNat 16 x.toNat <<< (8 + n)) := by
  intro n
  induction n with
  | zero => intro _; rfl
  | succ n ih =>
    intro hn
    have e : (BitVec.ofNat 16 x.toNat <<< (8 + n)) <<< 1 = BitVec.ofNat 16 x.toNat <<< (8 + (n + 1)) := by rw [← BitVec.shiftLeft_add]; rfl
    rw [stepN, ih (by omega), stepC_xor _ _ _ (byte_msb x n (by omega)), e]
    rfl
theorem bits_crc (x : UInt8) (c : BitVec 16) : bitsN x 8 c = crc1 c x := by
  rw [crc1_eq, bits_inv x c 8 (Nat.le_refl _)]
  have : BitVec.ofNat 16 x.toNat <<< (8 + 8) = 0#16 := by
    apply BitVec.eq_of_toNat_eq
    rw [BitVec.toNat_shiftLeft, Nat.shiftLeft_eq]
    simp
  rw [this, BitVec.xor_zero]
theorem top_bit (C : BitVec 16) : (((C.toNat : Nat) : Int) / 32768 == 1) = C.msb := by
  have h := C.isLt
  rw [BitVec.msb_eq_decide]
  rw [Bool.eq_iff_iff, beq_iff_eq, decide_eq_true_eq]
  omega

theorem low_bit (x : UInt8) (n : Nat) : (bits .and .u8 (((x.toNat : Nat) : Int) / 2 ^ n) 1 == 1) = x.toNat.testBit n := by
  have hx := x.toNat_lt
  have hd : x.toNat / 2 ^ n < 256 := Nat.lt_of_le_of_lt (Nat.div_le_self _ _) (by omega)
  have e : ((x.toNat : Nat) : Int) / 2 ^ n = ((x.toNat / 2 ^ n : Nat) : Int) := by simp
  have h := u8_and_nat (x.toNat / 2 ^ n) 1 hd (by omega)
  rw [show ((1 : Nat) : Int) = 1 from rfl] at h
  rw [e, h, Nat.and_one_is_mod, Nat.testBit_eq_decide_div_mod_eq]
  rw [Bool.eq_iff_iff, beq_iff_eq, decide_eq_true_eq]
  omega

set_option maxHeartbeats 1000000 in
theorem refSum_any (p : Option Addr) (cap : Nat) (l : List UInt8) (w : World) (hB : Bs w (.slice p l.length cap) l) :
    Calls Tryd.prog 26 #[.slice p l.length cap] w fun e w' => e = .returned (.int .u16 ((crc l).toNat : Nat)) ∧ w' = w := by
  obtain ⟨p', cap', he, h1, h2, h3⟩ := hB
  injection he with e1 e2 e3
  subst e1; subst e3
  have H3 := Lib.hid h3
  clear h3
  go_enter Tryd.func26, Tryd.ntmps26
  go_wp2_with fail
  go_loop [3, 4] (fun c i => ∃ (j : Nat) (C : BitVec 16), c = .int .u16 (C.toNat : Nat) ∧ i = .int .i64 (j : Nat) ∧ j ≤ l.length ∧ Hid (C = crc (l.take j))) (fun _ i => l.length - (intOf i).toNat)
  case atStart => exact ⟨0, 0xffff#16, rfl, rfl, by omega, by show _ = _; simp [crc]⟩
  case round =>
    obtain ⟨j, C, rfl, rfl, hj, HC⟩ := hrel
    by_cases hlt : j < l.length
    · obtain ⟨x, hx⟩ : ∃ x, l[j]? = some x := ⟨_, List.getElem?_eq_getElem hlt⟩
      obtain ⟨b, o, rfl, hc⟩ := H3.out (by omega)
      have hcx := hc j x hx
      have hlt' : (j : Int) < (l.length : Int) := by omega
      have HC1 : Hid (crc (l.take (j + 1)) = bitsN x 8 C) := by
        show _ = _; rw [bits_crc, HC.out, crc, List.take_add_one, hx]; simp [List.foldl_append, crc]
      clear hc hx HC
      go_wp2_with fail
      go_loop [3, 5] (fun c i => ∃ (k : Nat) (C2 : BitVec 16), c = .int .u16 (C2.toNat : Nat) ∧ i = .int .i64 (7 - (k : Nat)) ∧ k ≤ 8 ∧ Hid (C2 = bitsN x k C)) (fun _ i => (intOf i + 1).toNat)
      case atStart => exact ⟨0, C, rfl, rfl, by omega, rfl⟩
      case round =>
        obtain ⟨k, C2, rfl, rfl, hk, HK⟩ := hrel
        by_cases hk8 : k < 8
        · have hk8' : (0 : Int) ≤ 7 - (k : Int) := by omega
          have hC2 := C2.isLt
          have hxl := x.toNat_lt
          have ht := top_bit C2
          have hs := shl_one C2
          obtain ⟨D, hD⟩ : ∃ D, Hid (C2 <<< 1 = D) := ⟨_, rfl⟩
          rw [hD.out] at hs
          have hp := xor_poly D
          obtain ⟨E, hE⟩ : ∃ E, Hid (D ^^^ 0x1021#16 = E) := ⟨_, rfl⟩
          rw [hE.out] at hp
          have hb := low_bit x (7 - k)
          have HS : Hid (bitsN x (k + 1) C = stepR C2 (x.toNat.testBit (7 - k))) := by show _ = _; rw [HK.out]; rfl
          generalize x.toNat.testBit (7 - k) = bt at *
          clear HK
          cases hm : C2.msb <;> cases bt
          all_goals
            rw [hm] at ht
            first
            | have HS2 : Hid (E = bitsN x (k + 1) C) := (by show _ = _; rw [HS.out, stepR, hm, ← hE.out, ← hD.out]; rfl)
            | have HS2 : Hid (D = bitsN x (k + 1) C) := (by show _ = _; rw [HS.out, stepR, hm, ← hD.out]; rfl)
            clear HS hm
            go_wp2_with fail
            go_round
            case rel => exact ⟨k + 1, _, by (first | rfl | (rw [hs, hp]) | (rw [hs])), by go_num, by omega, HS2.out⟩
            case measure => simp [intOf]; omega
        · obtain rfl : k = 8 := by omega
          have HE : Hid (C2 = crc (l.take (j + 1))) := by show _ = _; rw [HC1.out, HK.out]
          clear HK HC1
          go_wp2_with fail
          go_round
          case rel => exact ⟨j + 1, C2, rfl, by go_num, by omega, HE.out⟩
          case measure => simp [intOf]; omega
    · obtain rfl : j = l.length := by omega
      have HE : Hid (C = crc l) := by show _ = _; have h := HC.out; rw [List.take_length] at h; exact h
      clear HC
      go_wp2_with fail
      go_ret
      rw [HE.out]
      exact ⟨rfl, rfl⟩

def bv (x : UInt8) : Value := .int .u8 (x.toNat : Nat)
theorem info_u8 : (Tryd.prog.info? 5).map (fun i => (i.zero, i.size, i.bytes)) = some (some (.int .u8 0), 1, 1) := by kernel_rfl
/-- the row that v holds -/
abbrev Row (W : World) (base : Nat) (v : Value) (l : List UInt8) : Prop := W.ownsRow base 5 1 v l.length (l.map bv)
theorem bs_of_own {w : World} {base : Nat} {v : Value} {l : List UInt8} (h : Row w base v l) : Bs w v l := by
  rcases h.2 with ⟨rfl, h0⟩ | ⟨g, cap, cur, rfl, hb, hg, h1, h2, h3, h4⟩
  · exact ⟨none, 0, by rw [h0], by omega, by omega, fun h => by omega⟩
  · refine ⟨_, cap, rfl, h1, by unfold maxLen at h2; omega, fun _ => ⟨g, 0, rfl, fun j x hj => ?_⟩⟩
    have hj' : j < l.length := (List.getElem?_eq_some_iff.1 hj).1
    have := h.cellAt j (by omega)
    rw [Nat.zero_add, this, List.getElem?_map, hj]; rfl
theorem Bs.below {w w' : World} {v : Value} {l : List UInt8} (h : Bs w v l) (hb : Below w.heap.size w w') : Bs w' v l := by
  obtain ⟨p, cap, hv, h1, h2, h3⟩ := h
  refine ⟨p, cap, hv, h1, h2, fun hn => ?_⟩
  obtain ⟨b, o, hp, hc⟩ := h3 hn
  exact ⟨b, o, hp, fun j x hj => (hb.cell (World.block_lt_of_cell? w _ (hc j x hj))).trans (hc j x hj)⟩
/-- what a writing leaves as it was: all blocks but the writer's and the row's; where the row lies then -/
structure Grow (ex : Option Nat) (v : Value) (W : World) (v' : Value) (W' : World) : Prop where
  os : W'.os = W.os
  tape : W'.tape = W.tape
  output : W'.output = W.output
  size : W.heap.size ≤ W'.heap.size
  block : ∀ k, k < W.heap.size → some k ≠ ex → some k ≠ v.ownBlock → W'.heap[k]? = W.heap[k]?
  at_ : v'.ownBlock = v.ownBlock ∨ ∀ g, v'.ownBlock = some g → W.heap.size ≤ g
theorem Grow.refl (ex : Option Nat) (v : Value) (W : World) : Grow ex v W v W := ⟨rfl, rfl, rfl, Nat.le_refl _, fun _ _ _ _ => rfl, .inl rfl⟩
theorem Grow.trans {ex : Option Nat} {v v1 v2 : Value} {W W1 W2 : World} (h : Grow ex v W v1 W1) (k : Grow ex v1 W1 v2 W2) : Grow ex v W v2 W2 := by
  refine ⟨k.os.trans h.os, k.tape.trans h.tape, k.output.trans h.output, Nat.le_trans h.size k.size, fun i hi h1 h2 => ?_, ?_⟩
  · refine (k.block i (Nat.lt_of_lt_of_le hi h.size) h1 fun e => ?_).trans (h.block i hi h1 h2)
    rcases h.at_ with ha | ha
    · exact h2 (e.trans ha)
    · have := ha i e.symm; omega
  · rcases k.at_ with ka | ka
    · rw [ka]; exact h.at_
    · exact .inr fun g hg => Nat.le_trans h.size (ka g hg)
/-- what lay below is as it was -/
theorem Grow.below {ex : Option Nat} {v v' : Value} {W W' a : World} {B : Nat} (h : Grow ex v W v' W') (hb : Below B a W) (hB : B ≤ W.heap.size) (hx : ∀ k, ex = some k → B ≤ k) (hv : ∀ k, v.ownBlock = some k → B ≤ k) : Below B a W' :=
  hb.trans ⟨h.os, h.tape, h.output, h.size, fun k hk => h.block k (by omega) (fun e => by have := hx k e.symm; omega) (fun e => by have := hv k e.symm; omega)⟩
theorem Grow.boxed {ex : Option Nat} {v v' : Value} {W W' : World} {B : Nat} {o : Obj} (h : Grow ex v W v' W') (hb : W.heap[B]? = some o) (hx : some B ≠ ex) (hv : some B ≠ v.ownBlock) : W'.heap[B]? = some o :=
  (h.block B (Array.getElem?_eq_some_iff.1 hb).1 hx hv).trans hb
/-- a block of another type is no row -/
theorem not_row {W : World} {B base : Nat} {t : TypeId} {cs : Array Value} {fr : Nat × Nat} {v : Value} {l : List UInt8} (h : W.heap[B]? = some (.cells cs t fr)) (ht : t ≠ 5) (hr : Row W base v l) : some B ≠ v.ownBlock := by
  rcases hr.2 with ⟨rfl, _⟩ | ⟨g, cap, cur, rfl, _, hg, _⟩
  · simp [Value.ownBlock]
  · intro e
    obtain rfl : B = g := by simpa [Value.ownBlock] using e
    rw [h] at hg
    injection hg with hg
    injection hg with _ hg
    exact ht hg
/-- an append to the writer's row, and the store of what came -/
theorem grow_append {W w1 : World} {Bw base n n' : Nat} {v v' : Value} {xs ys : List Value} {tmp : Obj} {t : TypeId} (hbox : Boxed W Bw t v) (ht : t ≠ 5) (hown : W.ownsRow base 5 1 v n xs) (hown' : w1.ownsRow base 5 1 v' n' ys)
    (hg : (W.alloc tmp).grownBy w1 v.ownBlock) (hat : v'.ownBlock = v.ownBlock ∨ v'.ownBlock = some (W.alloc tmp).heap.size) :
    Boxed (w1.setCell ⟨Bw, 0, none⟩ v') Bw t v' ∧ (w1.setCell ⟨Bw, 0, none⟩ v').ownsRow base 5 1 v' n' ys ∧ Grow (some Bw) v W v' (w1.setCell ⟨Bw, 0, none⟩ v') ∧ Boxed w1 Bw t v := by
  have hv1 : Boxed w1 Bw t v := (hbox.alloc tmp).kept hg (hbox.not_row ht hown)
  refine ⟨hv1.set v', hown'.kept (grownBy_setCell' w1 Bw v') (.inr (hv1.not_row ht hown').symm), ?_, hv1⟩
  have hsz := hg.size
  simp only [World.size_alloc] at hsz
  have e1 : (w1.setCell ⟨Bw, 0, none⟩ v').heap.size = w1.heap.size := by simp [World.setCell]
  refine ⟨hg.os, hg.tape, hg.output, by rw [e1]; omega, fun k hk h1 h2 => ?_, ?_⟩
  · rw [Below.heap_setCell _ _ _ _ (by intro e; exact h1 (by rw [e])), hg.block k (by simp; omega) h2]
    exact Below.heap_alloc _ _ _ hk
  · rcases hat with ha | ha
    · exact .inl ha
    · right; intro g e
      rw [ha] at e
      injection e with e
      rw [← e]; simp
/-- a number's bytes -/
def numB (x : Nat) : List UInt8 := if h : x < 128 then [UInt8.ofNat x] else UInt8.ofNat (x % 128 + 128) :: numB (x / 128)
termination_by x
decreasing_by omega
theorem numB_small {x : Nat} (h : x < 128) : numB x = [UInt8.ofNat x] := by rw [numB, dif_pos h]
theorem numB_big {x : Nat} (h : ¬ x < 128) : numB x = UInt8.ofNat (x % 128 + 128) :: numB (x / 128) := by rw [numB, dif_neg h]
theorem numB_len : ∀ (n x : Nat), x < 128 ^ (n + 1) → (numB x).length ≤ n + 1 := by
  intro n
  induction n with
  | zero => intro x h; rw [numB_small (by simpa using h)]; simp
  | succ n ih =>
    intro x h
    by_cases hx : x < 128
    · rw [numB_small hx]; simp
    · rw [numB_big hx, List.length_cons]
      have := ih (x / 128) (by rw [Nat.pow_succ] at h; omega)
      omega
theorem numB_ten {x : Nat} (h : x < 18446744073709551616) : (numB x).length ≤ 10 := numB_len 9 x (by omega)
theorem byte_nat {n : Nat} (h : n < 256) : ((UInt8.ofNat n).toNat : Nat) = n := by simp; omega
theorem or_top (y : Nat) : bits .or .u8 (((y : Nat) : Int) % 256) 128 = ((y % 128 + 128 : Nat) : Int) := by
  have e : ((y : Nat) : Int) % 256 = ((y % 256 : Nat) : Int) := by simp
  have h := u8_or_nat (y % 256) 128 (by omega) (by omega)
  rw [show ((128 : Nat) : Int) = 128 from rfl] at h
  rw [e, h]
  congr 1
  have h1 : y % 256 = (y % 128) + 128 * (y / 128 % 2) := by omega
  rcases Nat.mod_two_eq_zero_or_one (y / 128) with h2 | h2
  · rw [h1, h2, Nat.mul_zero, Nat.add_zero]
    have := Nat.two_pow_add_eq_or_of_lt (i := 7) (b := y % 128) (by omega) 1
    rw [Nat.or_comm]
    simp at this
    omega
  · rw [h1, h2]
    have h3 : y % 128 + 128 * 1 = 128 ||| (y % 128) := by
      have := Nat.two_pow_add_eq_or_of_lt (i := 7) (b := y % 128) (by omega) 1
      simp at this
      omega
    rw [h3, Nat.or_comm, ← Nat.or_assoc, Nat.or_self]

theorem news_cell (w : World) (u : Value) (t : TypeId) : ∀ j x, [u][j]? = some x → (w.alloc (.cells #[u] t)).cell? ((⟨w.heap.size, 0, none⟩ : Addr).add j) = some x := by
  intro j x hj
  match j, hj with
  | 0, hj =>
    simp at hj; subst hj
    show (w.alloc (.cells #[u] t)).cell? ⟨w.heap.size, 0, none⟩ = some u
    go_simp
  | j + 1, hj => simp at hj
theorem row_snoc {W : World} {base : Nat} {v : Value} {l : List UInt8} {x : UInt8} {u : Value} (h : W.ownsRow base 5 1 v (l.length + 1) (l.map bv ++ [u])) (hu : bv x = u) : Row W base v (l ++ [x]) := by
  subst hu
  unfold Row
  rw [List.map_append, List.length_append]
  exact h
/-- what a writing to a writer leaves -/
def WPost (Bw base : Nat) (v : Value) (W : World) (l : List UInt8) (r : Ending) (W' : World) : Prop :=
  ∃ v', r = .returned (.tuple #[]) ∧ Boxed W' Bw 67 v' ∧ Row W' base v' l ∧ Grow (some Bw) v W v' W'
/-- what a writing to a slice leaves -/
def SPost (base : Nat) (v : Value) (W : World) (l : List UInt8) (r : Ending) (W' : World) : Prop :=
  ∃ v', r = .returned v' ∧ Row W' base v' l ∧ Grow none v W v' W'

set_option maxRecDepth 100000 in
set_option maxHeartbeats 2000000 in
theorem number_any (Bw base : Nat) (v : Value) (l : List UInt8) (x : Nat) (W : World) (hbox : Boxed W Bw 67 v) (hrow : Row W base v l) (hb : base ≤ W.heap.size) (hx : x < 18446744073709551616) (hl : l.length ≤ 100000000) :
    Calls Tryd.prog 41 #[.pointer (some ⟨Bw, 0, none⟩), .int .u64 (x : Nat)] W (WPost Bw base v W (l ++ numB x)) := by
  obtain ⟨PP, hPP⟩ : ∃ PP, WPost Bw base v W (l ++ numB x) = PP := ⟨_, rfl⟩
  rw [hPP]
  have HPP := Lib.hid hPP
  obtain ⟨i0, hi, hz0, hz1, hz2⟩ := info_parts info_u8
  have h10 := numB_ten hx
  have HB := Lib.hid hbox
  have HR := Lib.hid hrow
  clear hPP hbox hrow hx
  go_enter Tryd.func41, Tryd.ntmps41
  go_wp2_with fail
  go_loopw [1] (fun s wr => ∃ (y : Nat) (l1 : List UInt8) (v1 : Value), s = .int .u64 (y : Nat) ∧ y ≤ x ∧ Hid (l ++ numB x = l1 ++ numB y) ∧ Hid (Boxed wr Bw 67 v1) ∧ Hid (Row wr base v1 l1) ∧ Hid (Grow (some Bw) v W v1 wr)) (fun s _ => (intOf s).toNat)
  case atStart => exact ⟨x, l, v, rfl, Nat.le_refl _, rfl, HB.out, HR.out, Grow.refl _ _ _⟩
  case round =>
    obtain ⟨y, l1, v1, rfl, hy, HL, HB1, HR1, HG⟩ := hrel
    clear HB HR
    have hl1 : l1.length ≤ 100000010 := by have h := congrArg List.length HL.out; simp only [List.length_append] at h; omega
    have hc := HB1.out.cell
    have hf := HB1.out.frozen
    have hlt := HB1.out.lt
    have hsz := HG.out.size
    by_cases h128 : y < 128
    · have h1 : (y : Int) < 128 := by omega
      have hm : (y : Int) % 256 = (y : Int) := by omega
      have HL2 : Hid (l1 ++ [UInt8.ofNat y] = l ++ numB x) := by show _ = _; rw [HL.out, numB_small h128]
      have hbn : bv (UInt8.ofNat y) = .int .u8 (y : Nat) := by unfold bv; rw [byte_nat (by omega)]
      go_wp2_with (at_builtin; refine wpList_append_own_at _ rfl _ _ 26 rfl base 5 i0 (.int .u8 0) 1 1 Tryd.underlying26 hi hz0 hz1 hz2 rfl (by decide) _ _ _ rfl (HR1.out.alloc _) ⟨wr.heap.size, 0, none⟩ 1 1 [.int .u8 (y : Nat)] rfl rfl (news_cell _ _ _) (fun x hx => by simp at hx; subst hx; rfl) (by unfold maxLen; omega) (by omega) (by simp; omega) ?_; intro v' w1 hown' hgrow _ hat; obtain ⟨t1, t2, t3, t4⟩ := grow_append HB1.out (by decide) HR1.out hown' hgrow hat; obtain ⟨g', cap', rfl⟩ := ownsRow_succ hown'; have hc3 := t4.cell; have hf3 := t4.frozen; have T1 := Lib.hid t1; have T2 := Lib.hid t2; have T3 := Lib.hid t3; clear t1 t2 t3 t4 hown' hgrow hat)
      refine bodyPost_end (results_none rfl _ _ _) rfl ?_
      rw [← HPP.out]
      refine ⟨_, rfl, T1.out, ?_, HG.out.trans T3.out⟩
      rw [← HL2.out]
      exact row_snoc T2.out hbn
    · have h1 : (128 : Int) ≤ (y : Int) := by omega
      have ho := or_top y
      have HL2 : Hid (l ++ numB x = (l1 ++ [UInt8.ofNat (y % 128 + 128)]) ++ numB (y / 128)) := by show _ = _; rw [HL.out, numB_big h128]; simp
      have hbn : bv (UInt8.ofNat (y % 128 + 128)) = .int .u8 ((y % 128 + 128 : Nat) : Int) := by unfold bv; rw [byte_nat (by omega)]
      have hyx : y / 128 < y := by omega
      generalize y % 128 + 128 = z at *
      go_wp2_with (at_builtin; refine wpList_append_own_at _ rfl _ _ 26 rfl base 5 i0 (.int .u8 0) 1 1 Tryd.underlying26 hi hz0 hz1 hz2 rfl (by decide) _ _ _ rfl (HR1.out.alloc _) ⟨wr.heap.size, 0, none⟩ 1 1 [.int .u8 (z : Nat)] rfl rfl (news_cell _ _ _) (fun x hx => by simp at hx; subst hx; rfl) (by unfold maxLen; omega) (by omega) (by simp; omega) ?_; intro v' w1 hown' hgrow _ hat; obtain ⟨t1, t2, t3, t4⟩ := grow_append HB1.out (by decide) HR1.out hown' hgrow hat; obtain ⟨g', cap', rfl⟩ := ownsRow_succ hown'; have hc3 := t4.cell; have hf3 := t4.frozen; have T1 := Lib.hid t1; have T2 := Lib.hid t2; have T3 := Lib.hid t3; clear t1 t2 t3 t4 hown' hgrow hat)
      go_roundw
      case rel => exact ⟨y / 128, l1 ++ [UInt8.ofNat z], _, by go_num, by omega, HL2.out, T1.out, row_snoc T2.out hbn, HG.out.trans T3.out⟩
      case measure => simp [intOf]; omega

theorem grow_row {W w1 : World} {base n n' : Nat} {v v' : Value} {xs ys : List Value} {tmp : Obj} (_hown : W.ownsRow base 5 1 v n xs) (_hown' : w1.ownsRow base 5 1 v' n' ys)
    (hg : (W.alloc tmp).grownBy w1 v.ownBlock) (hat : v'.ownBlock = v.ownBlock ∨ v'.ownBlock = some (W.alloc tmp).heap.size) : Grow none v W v' w1 := by
  have hsz := hg.size
  simp only [World.size_alloc] at hsz
  refine ⟨hg.os, hg.tape, hg.output, by omega, fun k hk _ h2 => ?_, ?_⟩
  · rw [hg.block k (by simp; omega) h2]
    exact Below.heap_alloc _ _ _ hk
  · rcases hat with ha | ha
    · exact .inl ha
    · right; intro g e
      rw [ha] at e
      injection e with e
      rw [← e]; simp

theorem wrap_div {y : Nat} (h : y < 18446744073709551616) : IntKind.u64.wrap ((y : Int) / 128) = (y : Int) / 128 := by
  simp only [IntKind.wrap, IntKind.bits, IntKind.signed]
  simp
  omega
set_option maxRecDepth 100000 in
set_option maxHeartbeats 2000000 in
theorem refNumber_any (base : Nat) (v : Value) (l : List UInt8) (x : Nat) (W : World) (hrow : Row W base v l) (hb : base ≤ W.heap.size) (hx : x < 18446744073709551616) (hl : l.length ≤ 100000000) :
    Calls Tryd.prog 42 #[v, .int .u64 (x : Nat)] W (SPost base v W (l ++ numB x)) := by
  obtain ⟨PP, hPP⟩ : ∃ PP, SPost base v W (l ++ numB x) = PP := ⟨_, rfl⟩
  rw [hPP]
  have HPP := Lib.hid hPP
  obtain ⟨i0, hi, hz0, hz1, hz2⟩ := info_parts info_u8
  have h10 := numB_ten hx
  have HR := Lib.hid hrow
  have HX := Lib.hid hx
  obtain ⟨p, cap, hv, -⟩ := bs_of_own hrow
  clear hPP hrow hx
  subst hv
  go_enter Tryd.func42, Tryd.ntmps42
  go_wp2_with fail
  go_loopw [0, 1] (fun u s wr => ∃ (y : Nat) (l1 : List UInt8), s = .int .u64 (y : Nat) ∧ y ≤ x ∧ Hid (l ++ numB x = l1 ++ numB y) ∧ Hid (Row wr base u l1) ∧ Hid (Grow none (.slice p l.length cap) W u wr)) (fun _ s _ => (intOf s).toNat)
  case atStart => exact ⟨x, l, rfl, Nat.le_refl _, rfl, HR.out, Grow.refl _ _ _⟩
  case round =>
    obtain ⟨y, l1, rfl, hy, HL, HR1, HG⟩ := hrel
    clear HR
    have hl1 : l1.length ≤ 100000010 := by have h := congrArg List.length HL.out; simp only [List.length_append] at h; omega
    obtain ⟨p1, cap1, rfl, -⟩ := bs_of_own HR1.out
    have hsz := HG.out.size
    by_cases h128 : y < 128
    · have h1 : (y : Int) < 128 := by omega
      have h2 : ¬ (127 : Int) < (y : Int) := by omega
      have hm : (y : Int) % 256 = (y : Int) := by omega
      have HL2 : Hid (l1 ++ [UInt8.ofNat y] = l ++ numB x) := by show _ = _; rw [HL.out, numB_small h128]
      have hbn : bv (UInt8.ofNat y) = .int .u8 (y : Nat) := by unfold bv; rw [byte_nat (by omega)]
      go_wp2_with (at_builtin; refine wpList_append_own_at _ rfl _ _ 26 rfl base 5 i0 (.int .u8 0) 1 1 Tryd.underlying26 hi hz0 hz1 hz2 rfl (by decide) _ _ _ rfl (HR1.out.alloc _) ⟨wr.heap.size, 0, none⟩ 1 1 [.int .u8 (y : Nat)] rfl rfl (news_cell _ _ _) (fun x hx => by simp at hx; subst hx; rfl) (by unfold maxLen; omega) (by omega) (by simp; omega) ?_; intro v' w1 hown' hgrow _ hat; have T3 := Lib.hid (grow_row HR1.out hown' hgrow hat); have T2 := Lib.hid hown'; clear hown' hgrow hat)
      rw [← HPP.out]
      refine ⟨_, rfl, ?_, HG.out.trans T3.out⟩
      rw [← HL2.out]
      exact row_snoc T2.out hbn
    · have h2 : (127 : Int) < (y : Int) := by omega
      have HL2 : Hid (l ++ numB x = (l1 ++ [UInt8.ofNat (y % 128 + 128)]) ++ numB (y / 128)) := by show _ = _; rw [HL.out, numB_big h128]; simp
      have hbn : bv (UInt8.ofNat (y % 128 + 128)) = .int .u8 ((y : Int) % 128 + 128) := by unfold bv; rw [byte_nat (by omega)]; simp
      have hyx : y / 128 < y := by omega
      have hw := wrap_div (Nat.lt_of_le_of_lt hy HX.out)
      go_wp2_with (at_builtin; refine wpList_append_own_at _ rfl _ _ 26 rfl base 5 i0 (.int .u8 0) 1 1 Tryd.underlying26 hi hz0 hz1 hz2 rfl (by decide) _ _ _ rfl (HR1.out.alloc _) ⟨wr.heap.size, 0, none⟩ 1 1 [.int .u8 ((y : Int) % 128 + 128)] rfl rfl (news_cell _ _ _) (fun x hx => by simp at hx; subst hx; rfl) (by unfold maxLen; omega) (by omega) (by simp; omega) ?_; intro v' w1 hown' hgrow _ hat; have T3 := Lib.hid (grow_row HR1.out hown' hgrow hat); have T2 := Lib.hid hown'; clear hown' hgrow hat)
      go_roundw
      case rel => exact ⟨y / 128, l1 ++ [UInt8.ofNat (y % 128 + 128)], by go_num, by omega, HL2.out, row_snoc T2.out hbn, HG.out.trans T3.out⟩
      case measure => simp [intOf]; omega

def zig (x : Int) : Nat := if x < 0 then (2 * (-(x + 1)) + 1).toNat else (2 * x).toNat
theorem zig_lt {x : Int} (h0 : -9223372036854775808 ≤ x) (h1 : x ≤ 9223372036854775807) : zig x < 18446744073709551616 := by
  unfold zig; split <;> omega
theorem xor_ones {a : Nat} (h : a < 18446744073709551616) : a ^^^ 18446744073709551615 = 18446744073709551615 - a := by
  have e : (BitVec.ofNat 64 a ^^^ BitVec.allOnes 64).toNat = a ^^^ 18446744073709551615 := by
    rw [BitVec.toNat_xor, BitVec.toNat_ofNat, BitVec.toNat_allOnes, Nat.mod_eq_of_lt (by omega)]
  rw [← e, BitVec.xor_allOnes, BitVec.toNat_not, BitVec.toNat_ofNat, Nat.mod_eq_of_lt (by omega)]
theorem wrap64u (n : Int) : IntKind.u64.wrap n = n % 18446744073709551616 := by simp [IntKind.wrap, IntKind.bits, IntKind.signed]
theorem zig_bits {x : Int} (h0 : -9223372036854775808 ≤ x) (h1 : x ≤ 9223372036854775807) :
    bits .xor .u64 (IntKind.u64.wrap (IntKind.u64.wrap x * 2)) (IntKind.u64.wrap (x / 9223372036854775808)) = ((zig x : Nat) : Int) := by
  simp only [wrap64u]
  unfold zig
  by_cases h : x < 0
  · have e1 : x % 18446744073709551616 * 2 % 18446744073709551616 = (((2 * x + 18446744073709551616).toNat : Nat) : Int) := by omega
    have e2 : x / 9223372036854775808 % 18446744073709551616 = ((18446744073709551615 : Nat) : Int) := by omega
    rw [e1, e2, bits_xor_u64_nat _ _ (by omega) (by omega), xor_ones (by omega), if_pos h]
    omega
  · have e1 : x % 18446744073709551616 * 2 % 18446744073709551616 = (((2 * x).toNat : Nat) : Int) := by omega
    have e2 : x / 9223372036854775808 % 18446744073709551616 = ((0 : Nat) : Int) := by omega
    rw [e1, e2, bits_xor_u64_nat _ _ (by omega) (by omega), Nat.xor_zero, if_neg h]
theorem zig_neg {x : Int} (h0 : -9223372036854775808 ≤ x) (h : x < 0) : IntKind.u64.wrap (IntKind.u64.wrap (2 * IntKind.u64.wrap (wrap64 (-wrap64 (x + 1)))) + 1) = ((zig x : Nat) : Int) := by
  have e1 : wrap64 (x + 1) = x + 1 := by unfold wrap64; omega
  have e2 : wrap64 (-(x + 1)) = -(x + 1) := by unfold wrap64; omega
  rw [e1, e2]
  simp only [wrap64u]
  unfold zig
  rw [if_pos h]
  omega
theorem zig_pos {x : Int} (h1 : x ≤ 9223372036854775807) (h : ¬ x < 0) : IntKind.u64.wrap (2 * IntKind.u64.wrap x) = ((zig x : Nat) : Int) := by
  simp only [wrap64u]
  unfold zig
  rw [if_neg h]
  omega
def I64 (x : Int) : Prop := -9223372036854775808 ≤ x ∧ x ≤ 9223372036854775807

set_option maxRecDepth 100000 in
set_option maxHeartbeats 2000000 in
theorem signed_any (Bw base : Nat) (v : Value) (l : List UInt8) (x : Int) (W : World) (hbox : Boxed W Bw 67 v) (hrow : Row W base v l) (hb : base ≤ W.heap.size) (hx : I64 x) (hl : l.length ≤ 100000000) :
    Calls Tryd.prog 39 #[.pointer (some ⟨Bw, 0, none⟩), .int .i64 x] W (WPost Bw base v W (l ++ numB (zig x))) := by
  have CN := Lib.hid (number_any Bw base v l (zig x) W hbox hrow hb (zig_lt hx.1 hx.2) hl)
  obtain ⟨PP, hPP⟩ : ∃ PP, WPost Bw base v W (l ++ numB (zig x)) = PP := ⟨_, rfl⟩
  rw [hPP]
  have HPP := Lib.hid hPP
  have HX := Lib.hid hx
  clear hPP hbox hrow hx hl hb
  go_enter Tryd.func39, Tryd.ntmps39
  go_wp2_with fail
  rw [zig_bits HX.out.1 HX.out.2]
  refine CN.out.mono ?_
  rintro e W1 ⟨v', rfl, h1, h2, h3⟩
  have H := Lib.hid (show WPost Bw base v W (l ++ numB (zig x)) (.returned (.tuple #[])) W1 from ⟨v', rfl, h1, h2, h3⟩)
  clear h1 h2 h3 CN
  go_wp2_with fail
  refine bodyPost_end (results_none rfl _ _ _) rfl ?_
  rw [← HPP.out]
  exact H.out

set_option maxRecDepth 100000 in
set_option maxHeartbeats 2000000 in
theorem refSigned_any (base : Nat) (v : Value) (l : List UInt8) (x : Int) (W : World) (hrow : Row W base v l) (hb : base ≤ W.heap.size) (hx : I64 x) (hl : l.length ≤ 100000000) :
    Calls Tryd.prog 51 #[v, .int .i64 x] W (SPost base v W (l ++ numB (zig x))) := by
  have CN := Lib.hid (refNumber_any base v l (zig x) W hrow hb (zig_lt hx.1 hx.2) hl)
  obtain ⟨PP, hPP⟩ : ∃ PP, SPost base v W (l ++ numB (zig x)) = PP := ⟨_, rfl⟩
  rw [hPP]
  have HPP := Lib.hid hPP
  have HX := Lib.hid hx
  obtain ⟨p, cap, hv, -⟩ := bs_of_own hrow
  subst hv
  clear hPP hrow hx hl hb
  by_cases hn : x < 0
  · go_enter Tryd.func51, Tryd.ntmps51
    go_wp2_with fail
    rw [zig_neg HX.out.1 hn]
    refine CN.out.mono ?_
    rintro e W1 ⟨v', rfl, h1, h2⟩
    have H := Lib.hid (show SPost base (.slice p l.length cap) W (l ++ numB (zig x)) (.returned v') W1 from ⟨v', rfl, h1, h2⟩)
    clear h1 h2 CN
    go_wp2_with fail
    rw [← HPP.out]
    exact H.out
  · go_enter Tryd.func51, Tryd.ntmps51
    go_wp2_with fail
    rw [zig_pos HX.out.2 (by omega)]
    refine CN.out.mono ?_
    rintro e W1 ⟨v', rfl, h1, h2⟩
    have H := Lib.hid (show SPost base (.slice p l.length cap) W (l ++ numB (zig x)) (.returned v') W1 from ⟨v', rfl, h1, h2⟩)
    clear h1 h2 CN
    go_wp2_with fail
    rw [← HPP.out]
    exact H.out

theorem strCells_eq (s : ByteArray) : Lib.strCells s = s.data.toList.map bv := by
  simp [Lib.strCells, bv]
set_option maxRecDepth 100000 in
/-- an append of a text: where the row lies then -/
theorem append_str_at {W : World} {base ty u : Nat} {v v' : Value} {l : List UInt8} {s : ByteArray} {W' : World} (hu : Tryd.prog.underlying u = some .string) (hrow : Row W base v l) (hl : l.length + s.size ≤ 1000000000)
    (hr : (Builtin.append_ #[26, u] ty #[v, .string s]).run Tryd.prog W = .ok v' W') : v'.ownBlock = v.ownBlock ∨ v'.ownBlock = some W.heap.size := by
  obtain ⟨i0, hi, hz0, hz1, hz2⟩ := info_parts info_u8
  rcases hrow.2 with ⟨rfl, h0⟩ | ⟨g, cap, cur, rfl, hbg, hg, hnc, hcm, hcs, htake⟩
  · by_cases hm : s.size = 0
    · left
      have hf := Lib.run_firstCells_string (P := Tryd.prog) W 1 s
      rw [hm] at hf
      have e : (Builtin.append_ #[26, u] ty #[.slice none 0 0, .string s]).run Tryd.prog W = .ok (.slice none 0 0) W := by
        simp [Builtin.append_, run_underlying Tryd.underlying26, run_underlying hu, sizeOf, typeInfo, hi, hz1, Builtin.lenOf, hm, hf]
      rw [hr] at e
      injection e with e _
      rw [e]
    · right
      have e := run_append_nil_string (P := Tryd.prog) W 26 u ty 5 i0 (.int .u8 0) Tryd.underlying26 hu hi hz0 s (by omega) (by omega) (by rw [hz2]; omega)
      have e2 := hr.symm.trans e
      simp only [Result.ok.injEq] at e2
      rw [e2.1]; rfl
  · by_cases hroom : l.length + s.size ≤ cap
    · left
      have hcs' : cur.size = cap := by simpa using hcs
      have e := Lib.run_append_room_string (P := Tryd.prog) W 26 u ty 5 i0 Tryd.underlying26 hu hi hz1 g l.length cap cur hg s hroom (by omega)
      have e2 := hr.symm.trans e
      simp only [Result.ok.injEq] at e2
      rw [e2.1]; rfl
    · right
      have holds : ∀ j u, (l.map bv)[j]? = some u → W.cell? ((⟨g, 0, none⟩ : Addr).add j) = some u := hrow.cells (g := g) rfl
      have e := Lib.run_append_grow_string (P := Tryd.prog) W 26 u ty 5 i0 (.int .u8 0) Tryd.underlying26 hu hi hz0 ⟨g, 0, none⟩ l.length cap (l.map bv) (by rw [hz1]; simp) holds s (by omega) (by omega) (by rw [hz2]; exact growslice_fits (by omega) (by omega))
      have e2 := hr.symm.trans e
      simp only [Result.ok.injEq] at e2
      rw [e2.1]; rfl
theorem grow_of_by {W w1 : World} {v v' : Value} (hg : W.grownBy w1 v.ownBlock) (hat : v'.ownBlock = v.ownBlock ∨ v'.ownBlock = some W.heap.size) : Grow none v W v' w1 := by
  refine ⟨hg.os, hg.tape, hg.output, hg.size, fun k hk _ h2 => hg.block k hk h2, ?_⟩
  rcases hat with ha | ha
  · exact .inl ha
  · right; intro g e
    rw [ha] at e
    injection e with e
    omega
/-- the writer's box, when the row has grown -/
theorem grow_store {W w1 : World} {Bw base : Nat} {v v' : Value} {l l' : List UInt8} {t : TypeId} (hbox : Boxed W Bw t v) (ht : t ≠ 5) (hrow : Row W base v l) (hrow' : Row w1 base v' l') (hg : Grow none v W v' w1) :
    Boxed (w1.setCell ⟨Bw, 0, none⟩ v') Bw t v' ∧ Row (w1.setCell ⟨Bw, 0, none⟩ v') base v' l' ∧ Grow (some Bw) v W v' (w1.setCell ⟨Bw, 0, none⟩ v') ∧ Boxed w1 Bw t v := by
  have hv1 : Boxed w1 Bw t v := hg.boxed hbox (by simp) (hbox.not_row ht hrow)
  have e1 : (w1.setCell ⟨Bw, 0, none⟩ v').heap.size = w1.heap.size := by simp [World.setCell]
  refine ⟨hv1.set v', World.ownsRow.kept hrow' (grownBy_setCell' w1 Bw v') (.inr (hv1.not_row ht hrow').symm), ⟨hg.os, hg.tape, hg.output, by rw [e1]; exact hg.size, fun k hk h1 h2 => ?_, ?_⟩, hv1⟩
  · rw [Below.heap_setCell _ _ _ _ (by intro e; exact h1 (by rw [e]))]
    exact hg.block k hk (by simp) h2
  · rcases hg.at_ with ha | ha
    · exact .inl ha
    · exact .inr ha
theorem row_val {W : World} {base : Nat} {v : Value} {l : List UInt8} (h : Row W base v l) : ∃ q n c, v = .slice q n c := by
  obtain ⟨p, cap, hv, -⟩ := bs_of_own h
  exact ⟨p, _, cap, hv⟩
/-- the append of a text -/
theorem wpList_append_text {W : World} {ops : Array Oper} {rest : List Oper} {o : Oper} {a : Act} {Q : Exit → Act → World → Prop} (hgd : o.guard = none) (sl x : Operand)
    (ho : o.op = .call { callee := .builtin .append, args := #[sl, x], argTypes := #[26, 9] })
    (base : Nat) (v : Value) (l : List UInt8) (hs : a.eval sl = v) (hrow : Row W base v l) (s : ByteArray) (hx : a.eval x = .string s) (hl : l.length + s.size ≤ 1000000000) (hbase : base ≤ W.heap.size)
    (h : ∀ v' w', Row w' base v' (l ++ s.data.toList) → Grow none v W v' w' → wpList Tryd.prog ops Q rest (a.put o.dst v') w') : wpList Tryd.prog ops Q (o :: rest) a W := by
  obtain ⟨i0, hi, hz0, hz1, hz2⟩ := info_parts info_u8
  refine wpList_plain hgd fun K hK => ?_
  obtain ⟨v', w', hr, h2, h3, -⟩ := Lib.run_append_own_string (P := Tryd.prog) W base 26 9 o.type 5 i0 Tryd.underlying26 Tryd.underlying9 hi hz0 hz1 hz2 v l.length (l.map bv) hrow s (by unfold maxLen; omega) (by omega) hbase
  have hat := append_str_at Tryd.underlying9 hrow hl hr
  unfold Oper.wp execOp
  simp only [ho, resolve, invoke, builtin, Sem.run_bind, Sem.run_pure, Result.andThen_ok, List.map_toArray, List.map_cons, List.map_nil, hs, hx, hr]
  refine hK _ _ (h v' w' ?_ (grow_of_by h3 hat))
  unfold Row
  rw [List.map_append, List.length_append, ← strCells_eq, show s.data.toList.length = s.size by simp]
  exact h2

set_option maxRecDepth 100000 in
set_option maxHeartbeats 2000000 in
theorem text_any (Bw base : Nat) (v : Value) (l : List UInt8) (s : ByteArray) (W : World) (hbox : Boxed W Bw 67 v) (hrow : Row W base v l) (hb : base ≤ W.heap.size) (hs : s.size ≤ 100000000) (hl : l.length ≤ 100000000) :
    Calls Tryd.prog 40 #[.pointer (some ⟨Bw, 0, none⟩), .string s] W (WPost Bw base v W (l ++ (numB s.size ++ s.data.toList))) := by
  have CN := Lib.hid (number_any Bw base v l s.size W hbox hrow hb (by omega) hl)
  have h10 := numB_ten (show s.size < 18446744073709551616 by omega)
  obtain ⟨PP, hPP⟩ : ∃ PP, WPost Bw base v W (l ++ (numB s.size ++ s.data.toList)) = PP := ⟨_, rfl⟩
  rw [hPP]
  have HPP := Lib.hid hPP
  clear hPP hbox hrow
  have hs' : (s.size : Int) ≤ 100000000 := by omega
  go_enter Tryd.func40, Tryd.ntmps40
  go_wp2_with fail
  refine CN.out.mono ?_
  rintro e W1 ⟨v1, rfl, h1, h2, h3⟩
  have H1 := Lib.hid h1
  have H2 := Lib.hid h2
  have H3 := Lib.hid h3
  have hc := h1.cell
  have hf := h1.frozen
  have hsz := h3.size
  have hll : (l ++ numB s.size).length + s.size ≤ 1000000000 := by rw [List.length_append]; omega
  clear h1 h2 h3 CN h10
  go_wp2_with (at_builtin; refine wpList_append_text rfl _ _ rfl base _ (l ++ numB s.size) rfl H2.out s rfl hll (by omega) ?_; intro v' w1 hr' hg'; obtain ⟨t1, t2, t3, t4⟩ := grow_store H1.out (by decide) H2.out hr' hg'; obtain ⟨q', n', cap', rfl⟩ := row_val hr'; have hc3 := t4.cell; have hf3 := t4.frozen; have T1 := Lib.hid t1; have T2 := Lib.hid t2; have T3 := Lib.hid t3; clear t1 t2 t3 t4 hr' hg')
  refine bodyPost_end (results_none rfl _ _ _) rfl ?_
  rw [← HPP.out]
  have T2' := T2.out
  rw [List.append_assoc] at T2'
  exact ⟨_, rfl, T1.out, T2', H3.out.trans T3.out⟩

theorem add_zero (g j : Nat) : (⟨g, 0, none⟩ : Addr).add j = ⟨g, j, none⟩ := by unfold Addr.add; split <;> simp_all
theorem conv_text (s : ByteArray) (w : World) :
    ∃ cap w1, (convert 9 26 (.string s)).run Tryd.prog w = .ok (.slice (some ⟨w.heap.size, 0, none⟩) s.size cap) w1 ∧ (∀ j x, (s.data.toList.map bv)[j]? = some x → w1.cell? ((⟨w.heap.size, 0, none⟩ : Addr).add j) = some x) ∧ w.grownBy w1 none := by
  refine ⟨_, _, Lib.run_convert_string_bytes w 9 26 5 s Tryd.underlying9 Tryd.underlying26 Tryd.underlying5, ?_, ?_⟩
  · intro j x hj
    have hlt : j < s.size := by
      obtain ⟨h, _⟩ := List.getElem?_eq_some_iff.1 hj
      simpa using h
    have := Lib.bytesWorld_cell w 5 s j hlt
    rw [add_zero, this]
    rw [List.getElem?_map] at hj
    cases hx : s.data.toList[j]? with
    | none => rw [hx] at hj; cases hj
    | some y => rw [hx] at hj; cases hj; simp [List.getD, hx, bv]
  · exact ⟨rfl, rfl, rfl, by rw [Lib.bytesWorld_size]; omega, fun k hk _ => Lib.bytesWorld_at_old w 5 s k hk⟩
theorem row_app {W : World} {base : Nat} {v : Value} {l m : List UInt8} {n : Nat} (h : W.ownsRow base 5 1 v (l.length + n) (l.map bv ++ m.map bv)) (hn : n = m.length) : Row W base v (l ++ m) := by
  subst hn
  unfold Row
  rw [List.map_append, List.length_append]
  exact h
theorem Grow.of_grown {W w1 : World} {v : Value} (hg : W.grownBy w1 none) : Grow none v W v w1 := ⟨hg.os, hg.tape, hg.output, hg.size, fun k hk _ _ => hg.block k hk (by simp), .inl rfl⟩
theorem row_kept {W w1 : World} {base : Nat} {v : Value} {l : List UInt8} (h : Row W base v l) (hg : W.grownBy w1 none) : Row w1 base v l := World.ownsRow.kept h hg (Decidable.em _)

set_option maxRecDepth 100000 in
set_option maxHeartbeats 2000000 in
theorem refText_any (base : Nat) (v : Value) (l : List UInt8) (s : ByteArray) (W : World) (hrow : Row W base v l) (hb : base ≤ W.heap.size) (hs : s.size ≤ 100000000) (hl : l.length ≤ 100000000) :
    Calls Tryd.prog 52 #[v, .string s] W (SPost base v W (l ++ (numB s.size ++ s.data.toList))) := by
  have CN := Lib.hid (refNumber_any base v l s.size W hrow hb (by omega) hl)
  obtain ⟨i0, hi, hz0, hz1, hz2⟩ := info_parts info_u8
  have h10 := numB_ten (show s.size < 18446744073709551616 by omega)
  obtain ⟨PP, hPP⟩ : ∃ PP, SPost base v W (l ++ (numB s.size ++ s.data.toList)) = PP := ⟨_, rfl⟩
  rw [hPP]
  have HPP := Lib.hid hPP
  obtain ⟨q, n, cap, rfl⟩ := row_val hrow
  clear hPP hrow
  have hs' : (s.size : Int) ≤ 100000000 := by omega
  go_enter Tryd.func52, Tryd.ntmps52
  go_wp2_with fail
  refine CN.out.mono ?_
  rintro e W1 ⟨v1, rfl, h2, h3⟩
  obtain ⟨cap2, W2, hrun, hcells, hg2⟩ := conv_text s W1
  obtain ⟨q1, n1, cap1, rfl⟩ := row_val h2
  have H2 := Lib.hid (row_kept h2 hg2)
  have H3 := Lib.hid (h3.trans (Grow.of_grown hg2))
  have HC := Lib.hid hcells
  have hsz := h3.size
  have hsz2 := hg2.size
  have hll : (l ++ numB s.size).length + s.size ≤ 1000000000 := by rw [List.length_append]; omega
  clear h2 h3 CN h10 hcells hg2
  go_wp2_with (at_builtin; refine wpList_append_own_at _ rfl _ _ 26 rfl base 5 i0 (.int .u8 0) 1 1 Tryd.underlying26 hi hz0 hz1 hz2 rfl (by decide) _ (l ++ numB s.size).length _ rfl H2.out ⟨W1.heap.size, 0, none⟩ s.size cap2 (s.data.toList.map bv) rfl (by simp) HC.out (fun x hx => by obtain ⟨y, -, rfl⟩ := List.mem_map.1 hx; rfl) (by unfold maxLen; omega) (by omega) (by omega) ?_; intro v' w1 hr' hg' _ hat; have T3 := Lib.hid (grow_of_by hg' hat); have T2 := Lib.hid (row_app hr' (by simp)); clear hr' hg' hat)
  rw [← HPP.out]
  have T2' := T2.out
  rw [List.append_assoc] at T2'
  exact ⟨_, rfl, T2', H3.out.trans T3.out⟩
end Go.Proofs.YtmncpbfghabamaaDoor
