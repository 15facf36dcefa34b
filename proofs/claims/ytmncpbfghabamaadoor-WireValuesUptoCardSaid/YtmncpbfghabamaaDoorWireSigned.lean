/- WIRE: signed numbers, texts. -/
import Derived.Test.YtmncpbfghabamaaDoorWireNum
namespace Go.Proofs.YtmncpbfghabamaaDoor
open Go Go.RowKit

def zig (x : Int) : Nat := if x < 0 then (2 * (-(x + 1)) + 1).toNat else (2 * x).toNat
theorem zig_lt {x : Int} (h0 : -9223372036854775808 ≤ x) (h1 : x ≤ 9223372036854775807) : zig x < 18446744073709551616 := by
  unfold zig; split <;> omega
theorem xor_ones {a : Nat} (h : a < 18446744073709551616) : a ^^^ 18446744073709551615 = 18446744073709551615 - a := by
  have e : (BitVec.ofNat 64 a ^^^ BitVec.allOnes 64).toNat = a ^^^ 18446744073709551615 := by
    rw [BitVec.toNat_xor, BitVec.toNat_ofNat, BitVec.toNat_allOnes, Nat.mod_eq_of_lt (by omega)]
  rw [← e, BitVec.xor_allOnes, BitVec.toNat_not, BitVec.toNat_ofNat, Nat.mod_eq_of_lt (by omega)]
theorem wrap64u (n : Int) : IntKind.u64.wrap n = n % 18446744073709551616 := by simp [IntKind.wrap, IntKind.bits, IntKind.signed]
theorem zig_bits {x : Int} (h0 : -9223372036854775808 ≤ x) (h1 : x ≤ 9223372036854775807) :
    bits .xor .u64 (IntKind.u64.wrap (IntKind.u64.wrap x * 2)) (IntKind.u64.wrap (x / 9223372036854775808)) = ((zig x : Nat) : Int) := by
  simp only [wrap64u]
  unfold zig
  by_cases h : x < 0
  · have e1 : x % 18446744073709551616 * 2 % 18446744073709551616 = (((2 * x + 18446744073709551616).toNat : Nat) : Int) := by omega
    have e2 : x / 9223372036854775808 % 18446744073709551616 = ((18446744073709551615 : Nat) : Int) := by omega
    rw [e1, e2, bits_xor_u64_nat _ _ (by omega) (by omega), xor_ones (by omega), if_pos h]
    omega
  · have e1 : x % 18446744073709551616 * 2 % 18446744073709551616 = (((2 * x).toNat : Nat) : Int) := by omega
    have e2 : x / 9223372036854775808 % 18446744073709551616 = ((0 : Nat) : Int) := by omega
    rw [e1, e2, bits_xor_u64_nat _ _ (by omega) (by omega), Nat.xor_zero, if_neg h]
theorem zig_neg {x : Int} (h0 : -9223372036854775808 ≤ x) (h : x < 0) : IntKind.u64.wrap (IntKind.u64.wrap (2 * IntKind.u64.wrap (wrap64 (-wrap64 (x + 1)))) + 1) = ((zig x : Nat) : Int) := by
  have e1 : wrap64 (x + 1) = x + 1 := by unfold wrap64; omega
  have e2 : wrap64 (-(x + 1)) = -(x + 1) := by unfold wrap64; omega
  rw [e1, e2]
  simp only [wrap64u]
  unfold zig
  rw [if_pos h]
  omega
theorem zig_pos {x : Int} (h1 : x ≤ 9223372036854775807) (h : ¬ x < 0) : IntKind.u64.wrap (2 * IntKind.u64.wrap x) = ((zig x : Nat) : Int) := by
  simp only [wrap64u]
  unfold zig
  rw [if_neg h]
  omega
def I64 (x : Int) : Prop := -9223372036854775808 ≤ x ∧ x ≤ 9223372036854775807

set_option maxRecDepth 100000 in
set_option maxHeartbeats 2000000 in
theorem signed_any (Bw base : Nat) (v : Value) (l : List UInt8) (x : Int) (W : World) (hbox : Boxed W Bw 67 v) (hrow : Row W base v l) (hb : base ≤ W.heap.size) (hx : I64 x) (hl : l.length ≤ 100000000) :
    Calls Tryd.prog 39 #[.pointer (some ⟨Bw, 0, none⟩), .int .i64 x] W (WPost Bw base v W (l ++ numB (zig x))) := by
  have CN := Lib.hid (number_any Bw base v l (zig x) W hbox hrow hb (zig_lt hx.1 hx.2) hl)
  obtain ⟨PP, hPP⟩ : ∃ PP, WPost Bw base v W (l ++ numB (zig x)) = PP := ⟨_, rfl⟩
  rw [hPP]
  have HPP := Lib.hid hPP
  have HX := Lib.hid hx
  clear hPP hbox hrow hx hl hb
  go_enter Tryd.func39, Tryd.ntmps39
  go_wp2_with fail
  rw [zig_bits HX.out.1 HX.out.2]
  refine CN.out.mono ?_
  rintro e W1 ⟨v', rfl, h1, h2, h3⟩
  have H := Lib.hid (show WPost Bw base v W (l ++ numB (zig x)) (.returned (.tuple #[])) W1 from ⟨v', rfl, h1, h2, h3⟩)
  clear h1 h2 h3 CN
  go_wp2_with fail
  refine bodyPost_end (results_none rfl _ _ _) rfl ?_
  rw [← HPP.out]
  exact H.out

set_option maxRecDepth 100000 in
set_option maxHeartbeats 2000000 in
theorem refSigned_any (base : Nat) (v : Value) (l : List UInt8) (x : Int) (W : World) (hrow : Row W base v l) (hb : base ≤ W.heap.size) (hx : I64 x) (hl : l.length ≤ 100000000) :
    Calls Tryd.prog 51 #[v, .int .i64 x] W (SPost base v W (l ++ numB (zig x))) := by
  have CN := Lib.hid (refNumber_any base v l (zig x) W hrow hb (zig_lt hx.1 hx.2) hl)
  obtain ⟨PP, hPP⟩ : ∃ PP, SPost base v W (l ++ numB (zig x)) = PP := ⟨_, rfl⟩
  rw [hPP]
  have HPP := Lib.hid hPP
  have HX := Lib.hid hx
  obtain ⟨p, cap, hv, -⟩ := bs_of_own hrow
  subst hv
  clear hPP hrow hx hl hb
  by_cases hn : x < 0
  · go_enter Tryd.func51, Tryd.ntmps51
    go_wp2_with fail
    rw [zig_neg HX.out.1 hn]
    refine CN.out.mono ?_
    rintro e W1 ⟨v', rfl, h1, h2⟩
    have H := Lib.hid (show SPost base (.slice p l.length cap) W (l ++ numB (zig x)) (.returned v') W1 from ⟨v', rfl, h1, h2⟩)
    clear h1 h2 CN
    go_wp2_with fail
    rw [← HPP.out]
    exact H.out
  · go_enter Tryd.func51, Tryd.ntmps51
    go_wp2_with fail
    rw [zig_pos HX.out.2 (by omega)]
    refine CN.out.mono ?_
    rintro e W1 ⟨v', rfl, h1, h2⟩
    have H := Lib.hid (show SPost base (.slice p l.length cap) W (l ++ numB (zig x)) (.returned v') W1 from ⟨v', rfl, h1, h2⟩)
    clear h1 h2 CN
    go_wp2_with fail
    rw [← HPP.out]
    exact H.out
end Go.Proofs.YtmncpbfghabamaaDoor
