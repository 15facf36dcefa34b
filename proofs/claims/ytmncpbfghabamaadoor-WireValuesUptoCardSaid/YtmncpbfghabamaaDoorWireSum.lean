/- WIRE: the two check sums walked. -/
import Derived.WalkKit
import Derived.Lib.Hide
import Derived.Below
import Derived.OwnWalk
import Derived.Laws.BitsAllLaws
import Derived.Test.YtmncpbfghabamaaDoorProg
namespace Go.Proofs.YtmncpbfghabamaaDoor
open Go Go.RowKit

/-- v reads as these bytes -/
def Bs (w : World) (v : Value) (l : List UInt8) : Prop := ∃ p cap, v = .slice p l.length cap ∧ l.length ≤ cap ∧ cap ≤ 9223372036854775807 ∧ (0 < l.length → ∃ b o, p = some ⟨b, o, none⟩ ∧ ∀ j x, l[j]? = some x → w.cell? ⟨b, o + j, none⟩ = some (.int .u8 (x.toNat : Nat)))
def stepC (c : BitVec 16) : BitVec 16 := if c.msb then (c <<< 1) ^^^ 0x1021#16 else c <<< 1
def crc1 (c : BitVec 16) (x : UInt8) : BitVec 16 := stepC (stepC (stepC (stepC (stepC (stepC (stepC (stepC (c ^^^ (BitVec.ofNat 16 x.toNat <<< 8)))))))))
def stepN : Nat → BitVec 16 → BitVec 16
  | 0, c => c
  | n + 1, c => stepC (stepN n c)
theorem crc1_eq (c : BitVec 16) (x : UInt8) : crc1 c x = stepN 8 (c ^^^ (BitVec.ofNat 16 x.toNat <<< 8)) := rfl
theorem xor_byte (C : BitVec 16) (x : UInt8) : bits .xor .u16 ((C.toNat : Nat) : Int) (((x.toNat : Nat) : Int) * 256) = (((C ^^^ (BitVec.ofNat 16 x.toNat <<< 8)).toNat : Nat) : Int) := by
  have hx := x.toNat_lt
  have e : (((x.toNat : Nat) : Int) * 256) = ((x.toNat * 256 : Nat) : Int) := by simp
  rw [e, u16_xor_nat _ _ C.isLt (by omega), BitVec.toNat_xor]
  congr 2
  rw [BitVec.toNat_shiftLeft, BitVec.toNat_ofNat, Nat.shiftLeft_eq]
  omega
theorem and_pow15 (n : Nat) : n &&& 2 ^ 15 = if n.testBit 15 then 2 ^ 15 else 0 := by
  apply Nat.eq_of_testBit_eq
  intro i
  rw [Nat.testBit_and, Nat.testBit_two_pow]
  cases hb : n.testBit 15 with
  | true =>
    rw [if_pos rfl, Nat.testBit_two_pow]
    by_cases h : 15 = i
    · subst h; simp [hb]
    · simp [h]
  | false =>
    rw [if_neg (by simp), Nat.zero_testBit]
    by_cases h : 15 = i
    · subst h; simp [hb]
    · simp [h]
theorem and_top (C : BitVec 16) : bits .and .u16 ((C.toNat : Nat) : Int) 32768 = if C.msb then 32768 else 0 := by
  have h := u16_and_nat C.toNat 32768 C.isLt (by omega)
  have e : ((32768 : Nat) : Int) = 32768 := rfl
  rw [e] at h
  rw [h, show (32768 : Nat) = 2 ^ 15 from rfl, and_pow15]
  rw [BitVec.msb_eq_getLsbD_last]
  show _ = if C.getLsbD 15 then (32768 : Int) else 0
  rw [← BitVec.testBit_toNat]
  cases C.toNat.testBit 15 <;> rfl
theorem shl_one (C : BitVec 16) : IntKind.u16.wrap (((C.toNat : Nat) : Int) * 2) = (((C <<< 1).toNat : Nat) : Int) := by
  rw [BitVec.toNat_shiftLeft, Nat.shiftLeft_eq, IntKind.wrap_u16]
  simp
theorem xor_poly (C : BitVec 16) : bits .xor .u16 ((C.toNat : Nat) : Int) 4129 = (((C ^^^ 0x1021#16).toNat : Nat) : Int) := by
  have h := u16_xor_nat C.toNat 4129 C.isLt (by omega)
  have e : ((4129 : Nat) : Int) = 4129 := rfl
  rw [e] at h
  rw [h, BitVec.toNat_xor]
  rfl
def crc (l : List UInt8) : BitVec 16 := l.foldl crc1 0xffff#16

set_option maxHeartbeats 1000000 in
theorem sum_any (p : Option Addr) (cap : Nat) (l : List UInt8) (w : World) (hB : Bs w (.slice p l.length cap) l) :
    Calls Tryd.prog 25 #[.slice p l.length cap] w fun e w' => e = .returned (.int .u16 ((crc l).toNat : Nat)) ∧ w' = w := by
  obtain ⟨p', cap', he, h1, h2, h3⟩ := hB
  injection he with e1 e2 e3
  subst e1; subst e3
  have H3 := Lib.hid h3
  clear h3
  go_enter Tryd.func25, Tryd.ntmps25
  go_wp2_with fail
  go_loop [3, 8] (fun c i => ∃ (j : Nat) (C : BitVec 16), c = .int .u16 (C.toNat : Nat) ∧ i = .int .i64 (j : Nat) ∧ j ≤ l.length ∧ Hid (C = crc (l.take j))) (fun _ i => l.length - (intOf i).toNat)
  case atStart => exact ⟨0, 0xffff#16, rfl, rfl, by omega, by show _ = _; simp [crc]⟩
  case round =>
    obtain ⟨j, C, rfl, rfl, hj, HC⟩ := hrel
    by_cases hlt : j < l.length
    · obtain ⟨x, hx⟩ : ∃ x, l[j]? = some x := ⟨_, List.getElem?_eq_getElem hlt⟩
      obtain ⟨b, o, rfl, hc⟩ := H3.out (by omega)
      have hcx := hc j x hx
      have hlt' : (j : Int) < (l.length : Int) := by omega
      have hCl := C.isLt
      have hxl : x.toNat < 256 := x.toNat_lt
      have hX := xor_byte C x
      have HC1 : Hid (crc (l.take (j + 1)) = stepN 8 (C ^^^ (BitVec.ofNat 16 x.toNat <<< 8))) := by
        show _ = _; rw [← crc1_eq, HC.out, crc, List.take_add_one, hx]; simp [List.foldl_append, crc]
      clear hc hx HC
      generalize C ^^^ (BitVec.ofNat 16 x.toNat <<< 8) = C1 at *
      go_wp2_with fail
      clear hX
      go_loop [3, 17] (fun c i => ∃ (k : Nat) (C : BitVec 16), c = .int .u16 (C.toNat : Nat) ∧ i = .int .i64 (k : Nat) ∧ k ≤ 8 ∧ Hid (C = stepN k C1)) (fun _ i => 8 - (intOf i).toNat)
      case atStart => exact ⟨0, C1, rfl, rfl, by omega, rfl⟩
      case round =>
        obtain ⟨k, C2, rfl, rfl, hk, HK⟩ := hrel
        by_cases hk8 : k < 8
        · have hk8' : (k : Int) < 8 := by omega
          have hC2 := C2.isLt
          have ha := and_top C2
          have hs := shl_one C2
          have hp := xor_poly (C2 <<< 1)
          obtain ⟨D, hD⟩ : ∃ D, Hid (C2 <<< 1 = D) := ⟨_, rfl⟩
          rw [hD.out] at hs hp
          obtain ⟨E, hE⟩ : ∃ E, Hid (D ^^^ 0x1021#16 = E) := ⟨_, rfl⟩
          rw [hE.out] at hp
          have HS : Hid (stepN (k + 1) C1 = stepC C2) := by show _ = _; rw [HK.out]; rfl
          cases hm : C2.msb with
          | true =>
            rw [hm] at ha
            simp only [if_true] at ha
            have HS2 : Hid (E = stepN (k + 1) C1) := by show _ = _; rw [HS.out, stepC, hm, ← hE.out, ← hD.out]; rfl
            clear HS hm
            go_wp2_with fail
            go_round
            case rel => exact ⟨k + 1, E, by (first | rfl | (rw [hs, hp])), by go_num, by omega, HS2.out⟩
            case measure => simp [intOf]; omega
          | false =>
            rw [hm] at ha
            simp only [if_false, Bool.false_eq_true] at ha
            have HS2 : Hid (D = stepN (k + 1) C1) := by show _ = _; rw [HS.out, stepC, hm, ← hD.out]; rfl
            clear HS hm hp
            go_wp2_with fail
            go_round
            case rel => exact ⟨k + 1, D, by (first | rfl | (rw [hs])), by go_num, by omega, HS2.out⟩
            case measure => simp [intOf]; omega
        · obtain rfl : k = 8 := by omega
          have HE : Hid (C2 = crc (l.take (j + 1))) := by show _ = _; rw [HC1.out, HK.out]
          clear HK HC1
          go_wp2_with fail
          go_round
          case rel => exact ⟨j + 1, C2, rfl, by go_num, by omega, HE.out⟩
          case measure => simp [intOf]; omega
    · obtain rfl : j = l.length := by omega
      have HE : Hid (C = crc l) := by show _ = _; have h := HC.out; rw [List.take_length] at h; exact h
      clear HC
      go_wp2_with fail
      go_ret
      rw [HE.out]
      exact ⟨rfl, rfl⟩
end Go.Proofs.YtmncpbfghabamaaDoor
