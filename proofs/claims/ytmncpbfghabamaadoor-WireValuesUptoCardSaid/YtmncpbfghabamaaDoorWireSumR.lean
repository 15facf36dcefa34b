/- WIRE: the reference's check sum, walked; it is the program's. -/
import Derived.Test.YtmncpbfghabamaaDoorWireSum
namespace Go.Proofs.YtmncpbfghabamaaDoor
open Go Go.RowKit

def stepR (s : BitVec 16) (b : Bool) : BitVec 16 := if (s.msb != b) then (s <<< 1) ^^^ 0x1021#16 else s <<< 1
def bitsN (x : UInt8) : Nat → BitVec 16 → BitVec 16
  | 0, c => c
  | n + 1, c => stepR (bitsN x n c) (x.toNat.testBit (7 - n))
theorem stepC_xor (R Y : BitVec 16) (b : Bool) (h : Y.msb = b) : stepC (R ^^^ Y) = stepR R b ^^^ (Y <<< 1) := by
  unfold stepC stepR
  rw [BitVec.msb_xor, h, BitVec.shiftLeft_xor_distrib]
  cases R.msb <;> cases b <;> simp <;> ac_rfl
theorem byte_msb (x : UInt8) (i : Nat) (hi : i < 8) : (BitVec.ofNat 16 x.toNat <<< (8 + i)).msb = x.toNat.testBit (7 - i) := by
  rw [BitVec.msb_eq_getLsbD_last]
  show (BitVec.ofNat 16 x.toNat <<< (8 + i)).getLsbD 15 = _
  rw [BitVec.getLsbD_shiftLeft, BitVec.getLsbD_ofNat]
  have e : 15 - (8 + i) = 7 - i := by omega
  rw [e]
  have h1 : ¬ 15 < 8 + i := by omega
  have h2 : 7 - i < 16 := by omega
  simp [h1, h2]
theorem bits_inv (x : UInt8) (c : BitVec 16) : ∀ n, n ≤ 8 → stepN n (c ^^^ (BitVec.ofNat 16 x.toNat <<< 8)) = bitsN x n c ^^^ (BitVec.ofNat 16 x.toNat <<< (8 + n)) := by
  intro n
  induction n with
  | zero => intro _; rfl
  | succ n ih =>
    intro hn
    have e : (BitVec.ofNat 16 x.toNat <<< (8 + n)) <<< 1 = BitVec.ofNat 16 x.toNat <<< (8 + (n + 1)) := by rw [← BitVec.shiftLeft_add]; rfl
    rw [stepN, ih (by omega), stepC_xor _ _ _ (byte_msb x n (by omega)), e]
    rfl
theorem bits_crc (x : UInt8) (c : BitVec 16) : bitsN x 8 c = crc1 c x := by
  rw [crc1_eq, bits_inv x c 8 (Nat.le_refl _)]
  have : BitVec.ofNat 16 x.toNat <<< (8 + 8) = 0#16 := by
    apply BitVec.eq_of_toNat_eq
    rw [BitVec.toNat_shiftLeft, Nat.shiftLeft_eq]
    simp
  rw [this, BitVec.xor_zero]
theorem top_bit (C : BitVec 16) : (((C.toNat : Nat) : Int) / 32768 == 1) = C.msb := by
  have h := C.isLt
  rw [BitVec.msb_eq_decide]
  rw [Bool.eq_iff_iff, beq_iff_eq, decide_eq_true_eq]
  omega

theorem low_bit (x : UInt8) (n : Nat) : (bits .and .u8 (((x.toNat : Nat) : Int) / 2 ^ n) 1 == 1) = x.toNat.testBit n := by
  have hx := x.toNat_lt
  have hd : x.toNat / 2 ^ n < 256 := Nat.lt_of_le_of_lt (Nat.div_le_self _ _) (by omega)
  have e : ((x.toNat : Nat) : Int) / 2 ^ n = ((x.toNat / 2 ^ n : Nat) : Int) := by simp
  have h := u8_and_nat (x.toNat / 2 ^ n) 1 hd (by omega)
  rw [show ((1 : Nat) : Int) = 1 from rfl] at h
  rw [e, h, Nat.and_one_is_mod, Nat.testBit_eq_decide_div_mod_eq]
  rw [Bool.eq_iff_iff, beq_iff_eq, decide_eq_true_eq]
  omega

set_option maxHeartbeats 1000000 in
theorem refSum_any (p : Option Addr) (cap : Nat) (l : List UInt8) (w : World) (hB : Bs w (.slice p l.length cap) l) :
    Calls Tryd.prog 26 #[.slice p l.length cap] w fun e w' => e = .returned (.int .u16 ((crc l).toNat : Nat)) ∧ w' = w := by
  obtain ⟨p', cap', he, h1, h2, h3⟩ := hB
  injection he with e1 e2 e3
  subst e1; subst e3
  have H3 := Lib.hid h3
  clear h3
  go_enter Tryd.func26, Tryd.ntmps26
  go_wp2_with fail
  go_loop [3, 4] (fun c i => ∃ (j : Nat) (C : BitVec 16), c = .int .u16 (C.toNat : Nat) ∧ i = .int .i64 (j : Nat) ∧ j ≤ l.length ∧ Hid (C = crc (l.take j))) (fun _ i => l.length - (intOf i).toNat)
  case atStart => exact ⟨0, 0xffff#16, rfl, rfl, by omega, by show _ = _; simp [crc]⟩
  case round =>
    obtain ⟨j, C, rfl, rfl, hj, HC⟩ := hrel
    by_cases hlt : j < l.length
    · obtain ⟨x, hx⟩ : ∃ x, l[j]? = some x := ⟨_, List.getElem?_eq_getElem hlt⟩
      obtain ⟨b, o, rfl, hc⟩ := H3.out (by omega)
      have hcx := hc j x hx
      have hlt' : (j : Int) < (l.length : Int) := by omega
      have HC1 : Hid (crc (l.take (j + 1)) = bitsN x 8 C) := by
        show _ = _; rw [bits_crc, HC.out, crc, List.take_add_one, hx]; simp [List.foldl_append, crc]
      clear hc hx HC
      go_wp2_with fail
      go_loop [3, 5] (fun c i => ∃ (k : Nat) (C2 : BitVec 16), c = .int .u16 (C2.toNat : Nat) ∧ i = .int .i64 (7 - (k : Nat)) ∧ k ≤ 8 ∧ Hid (C2 = bitsN x k C)) (fun _ i => (intOf i + 1).toNat)
      case atStart => exact ⟨0, C, rfl, rfl, by omega, rfl⟩
      case round =>
        obtain ⟨k, C2, rfl, rfl, hk, HK⟩ := hrel
        by_cases hk8 : k < 8
        · have hk8' : (0 : Int) ≤ 7 - (k : Int) := by omega
          have hC2 := C2.isLt
          have hxl := x.toNat_lt
          have ht := top_bit C2
          have hs := shl_one C2
          obtain ⟨D, hD⟩ : ∃ D, Hid (C2 <<< 1 = D) := ⟨_, rfl⟩
          rw [hD.out] at hs
          have hp := xor_poly D
          obtain ⟨E, hE⟩ : ∃ E, Hid (D ^^^ 0x1021#16 = E) := ⟨_, rfl⟩
          rw [hE.out] at hp
          have hb := low_bit x (7 - k)
          have HS : Hid (bitsN x (k + 1) C = stepR C2 (x.toNat.testBit (7 - k))) := by show _ = _; rw [HK.out]; rfl
          generalize x.toNat.testBit (7 - k) = bt at *
          clear HK
          cases hm : C2.msb <;> cases bt
          all_goals
            rw [hm] at ht
            first
            | have HS2 : Hid (E = bitsN x (k + 1) C) := (by show _ = _; rw [HS.out, stepR, hm, ← hE.out, ← hD.out]; rfl)
            | have HS2 : Hid (D = bitsN x (k + 1) C) := (by show _ = _; rw [HS.out, stepR, hm, ← hD.out]; rfl)
            clear HS hm
            go_wp2_with fail
            go_round
            case rel => exact ⟨k + 1, _, by (first | rfl | (rw [hs, hp]) | (rw [hs])), by go_num, by omega, HS2.out⟩
            case measure => simp [intOf]; omega
        · obtain rfl : k = 8 := by omega
          have HE : Hid (C2 = crc (l.take (j + 1))) := by show _ = _; rw [HC1.out, HK.out]
          clear HK HC1
          go_wp2_with fail
          go_round
          case rel => exact ⟨j + 1, C2, rfl, by go_num, by omega, HE.out⟩
          case measure => simp [intOf]; omega
    · obtain rfl : j = l.length := by omega
      have HE : Hid (C = crc l) := by show _ = _; have h := HC.out; rw [List.take_length] at h; exact h
      clear HC
      go_wp2_with fail
      go_ret
      rw [HE.out]
      exact ⟨rfl, rfl⟩
end Go.Proofs.YtmncpbfghabamaaDoor
