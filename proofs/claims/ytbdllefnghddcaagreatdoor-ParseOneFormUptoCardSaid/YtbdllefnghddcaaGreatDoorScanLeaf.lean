/- THE SMALL FUNCTIONS of scan and of its reference: classes of bytes, hexadecimal digits. -/
import Derived.WalkKit
import Derived.Lib.Hide
import Derived.Test.YtbdllefnghddcaaGreatDoorProg
import Derived.Test.YtbdllefnghddcaaGreatDoorPScan1
namespace Go.Proofs.YtbdllefnghddcaaGreatDoor
set_option maxHeartbeats 1000000
set_option maxRecDepth 100000
open Go Go.RowKit

theorem ret_i {k : IntKind} {a b : Int} (h : a = b) : Ending.returned (.int k a) = .returned (.int k b) := by rw [h]
theorem ret_b {a b : Bool} (h : a = b) : Ending.returned (.bool a) = .returned (.bool b) := by rw [h]

theorem cls2 {n : Nat} (h : 48 ≤ n) (h2 : n ≤ 57) : clsS n = 2 := by unfold clsS; rw [if_pos ⟨h, h2⟩]
theorem cls1 {n : Nat} (h0 : ¬ (48 ≤ n ∧ n ≤ 57)) (h : n = 95 ∨ (97 ≤ n ∧ n ≤ 122) ∨ (65 ≤ n ∧ n ≤ 90)) : clsS n = 1 := by unfold clsS; rw [if_neg h0, if_pos h]
theorem cls3 {n : Nat} (h0 : ¬ (48 ≤ n ∧ n ≤ 57)) (h1 : ¬ (n = 95 ∨ (97 ≤ n ∧ n ≤ 122) ∨ (65 ≤ n ∧ n ≤ 90))) (h : n = 32 ∨ n = 9 ∨ n = 13 ∨ n = 10) : clsS n = 3 := by
 unfold clsS; rw [if_neg h0, if_neg h1, if_pos h]
theorem cls0 {n : Nat} (h0 : ¬ (48 ≤ n ∧ n ≤ 57)) (h1 : ¬ (n = 95 ∨ (97 ≤ n ∧ n ≤ 122) ∨ (65 ≤ n ∧ n ≤ 90))) (h : ¬ (n = 32 ∨ n = 9 ∨ n = 13 ∨ n = 10)) : clsS n = 0 := by
 unfold clsS; rw [if_neg h0, if_neg h1, if_neg h]

theorem class_any (c : UInt8) (w : World) :
  Calls Tryz.prog 110 #[.int .u8 (c.toNat : Nat)] w fun e w' => e = .returned (.int .i64 (clsS c.toNat : Nat)) ∧ w = w' := by
 have hc := c.toNat_lt
 generalize c.toNat = n at *
 go_enter Tryz.func110, Tryz.ntmps110
 go_wp2
 all_goals
  go_ret
  refine ⟨ret_i ?_, rfl⟩
  simp at *
  first
   | (exfalso; omega)
   | (rw [cls2 (by omega) (by omega)]; rfl)
   | (rw [cls1 (by omega) (by omega)]; rfl)
   | (rw [cls3 (by omega) (by omega) (by omega)]; rfl)
   | (rw [cls0 (by omega) (by omega) (by omega)]; rfl)

theorem hex_dig {n : Nat} (h : 48 ≤ n ∧ n ≤ 57) : hexS n = (n : Int) - 48 := by unfold hexS; rw [if_pos h]
theorem hex_low {n : Nat} (h : 97 ≤ n ∧ n ≤ 102) : hexS n = (n : Int) - 87 := by unfold hexS; rw [if_neg (by omega), if_pos h]
theorem hex_up {n : Nat} (h : 65 ≤ n ∧ n ≤ 70) : hexS n = (n : Int) - 55 := by unfold hexS; rw [if_neg (by omega), if_neg (by omega), if_pos h]
theorem hex_no {n : Nat} (h : ¬ (48 ≤ n ∧ n ≤ 57)) (h1 : ¬ (97 ≤ n ∧ n ≤ 102)) (h2 : ¬ (65 ≤ n ∧ n ≤ 70)) : hexS n = -1 := by unfold hexS; rw [if_neg h, if_neg h1, if_neg h2]
theorem hex_range (n : Nat) : -1 ≤ hexS n ∧ hexS n ≤ 15 := by
 unfold hexS; split
 ·omega
 ·split
  ·omega
  ·split <;> omega

theorem hex_any (c : UInt8) (w : World) :
  Calls Tryz.prog 154 #[.int .u8 (c.toNat : Nat)] w fun e w' => e = .returned (.int .i64 (hexS c.toNat)) ∧ w = w' := by
 have hc := c.toNat_lt
 generalize c.toNat = n at *
 go_enter Tryz.func154, Tryz.ntmps154
 go_wp2
 all_goals
  go_ret
  refine ⟨ret_i ?_, rfl⟩
  first
   | (rw [hex_dig (by omega)]; done)
   | (rw [hex_low (by omega)]; omega)
   | (rw [hex_up (by omega)]; omega)
   | rw [hex_no (by omega) (by omega) (by omega)]

theorem digB_iff (c : UInt8) : digB c = true ↔ 48 ≤ c.toNat ∧ c.toNat ≤ 57 := by
 unfold digB clsS; split
 ·simp [*]
 ·split
  ·simp; omega
  ·split <;> simp <;> omega
theorem letB_iff (c : UInt8) : letB c = true ↔ c.toNat = 95 ∨ (97 ≤ c.toNat ∧ c.toNat ≤ 122) ∨ (65 ≤ c.toNat ∧ c.toNat ≤ 90) := by
 unfold letB clsS; split
 ·simp; omega
 ·split
  ·simp [*]
  ·split <;> simp <;> omega
def blB (c : UInt8) : Bool := clsS c.toNat == 3
theorem blB_iff (c : UInt8) : blB c = true ↔ c.toNat = 32 ∨ c.toNat = 9 ∨ c.toNat = 13 ∨ c.toNat = 10 := by
 unfold blB clsS; split
 ·simp; omega
 ·split
  ·simp; omega
  ·split <;> simp [*]
theorem b_of {p : Bool} {q : Prop} (h : p = true ↔ q) (b : Bool) (hb : b = true ↔ q) : b = p := by
 cases b <;> cases p <;> simp_all

theorem refDigit_any (c : UInt8) (w : World) :
  Calls Tryz.prog 127 #[.int .u8 (c.toNat : Nat)] w fun e w' => e = .returned (.bool (digB c)) ∧ w = w' := by
 have hc := c.toNat_lt
 have HB := Lib.hid (digB_iff c)
 generalize digB c = b at *
 generalize c.toNat = n at *
 go_enter Tryz.func127, Tryz.ntmps127
 go_wp2
 all_goals
  go_ret
  refine ⟨ret_b (b_of HB.out _ ?_), rfl⟩
  simp at *
  try omega

theorem refLetter_any (c : UInt8) (w : World) :
  Calls Tryz.prog 126 #[.int .u8 (c.toNat : Nat)] w fun e w' => e = .returned (.bool (letB c)) ∧ w = w' := by
 have hc := c.toNat_lt
 have HB := Lib.hid (letB_iff c)
 generalize letB c = b at *
 generalize c.toNat = n at *
 go_enter Tryz.func126, Tryz.ntmps126
 go_wp2
 all_goals
  go_ret
  refine ⟨ret_b (b_of HB.out _ ?_), rfl⟩
  simp at *
  try omega

theorem refBlank_any (c : UInt8) (w : World) :
  Calls Tryz.prog 125 #[.int .u8 (c.toNat : Nat)] w fun e w' => e = .returned (.bool (blB c)) ∧ w = w' := by
 have hc := c.toNat_lt
 have HB := Lib.hid (blB_iff c)
 generalize blB c = b at *
 generalize c.toNat = n at *
 go_enter Tryz.func125, Tryz.ntmps125
 go_wp2
 all_goals
  go_ret
  refine ⟨ret_b (b_of HB.out _ ?_), rfl⟩
  simp at *
  try omega

theorem refHex_any (c : UInt8) (w : World) :
  Calls Tryz.prog 157 #[.int .u8 (c.toNat : Nat)] w fun e w' => e = .returned (.int .i64 (hexS c.toNat)) ∧ w = w' := by
 have hc := c.toNat_lt
 have CD := Lib.hid (fun w => refDigit_any c w)
 have HB := Lib.hid (digB_iff c)
 generalize digB c = b at *
 generalize c.toNat = n at *
 cases b
 ·have h0 : ¬ (48 ≤ n ∧ n ≤ 57) := fun h => by have := HB.out.2 h; cases this
  go_enter Tryz.func157, Tryz.ntmps157
  go_wp2_with (go_at_call 127; refine (CD.out _).mono ?_; rintro e w' ⟨rfl, rfl⟩)
  all_goals
   go_ret
   refine ⟨ret_i ?_, rfl⟩
   first
    | (rw [hex_low (by omega)]; omega)
    | (rw [hex_up (by omega)]; omega)
    | rw [hex_no (by omega) (by omega) (by omega)]
 ·obtain ⟨h1, h2⟩ := HB.out.1 rfl
  clear HB
  go_enter Tryz.func157, Tryz.ntmps157
  go_wp2_with (go_at_call 127; refine (CD.out _).mono ?_; rintro e w' ⟨rfl, rfl⟩)
  go_ret
  exact ⟨ret_i (by rw [hex_dig (by omega)]), rfl⟩
end Go.Proofs.YtbdllefnghddcaaGreatDoor
