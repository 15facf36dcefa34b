/- WIRE: a value's bytes and their reading: there and back. -/
import Derived.Test.YtmncpbfghabamaaDoorWireSpec
namespace Go.Proofs.YtmncpbfghabamaaDoor
open Go Go.RowKit

mutual
/-- how many parts a value has -/
def Dv.size : Dv → Nat
  | .mk _ _ _ _ l => 1 + sizes l
def sizes : List Dv → Nat
  | [] => 0
  | t :: r => t.size + sizes r
end
mutual
/-- how deep it is -/
def Dv.deep : Dv → Nat
  | .mk _ _ _ _ l => 1 + deeps l
def deeps : List Dv → Nat
  | [] => 0
  | t :: r => max t.deep (deeps r)
end
/-- the fields are as the kind has them -/
def FitV (kd di db : Int) (ds : ByteArray) (n : Nat) : Prop :=
  0 ≤ kd ∧ kd < 14 ∧ I64 di ∧ 0 ≤ db ∧ db < 18446744073709551616 ∧ ds.size ≤ 65535 ∧
  (kd = 1 ∨ kd = 2 ∨ kd = 6 ∨ kd = 10 ∨ kd = 11 ∨ di = 0) ∧ (kd = 3 ∨ db = 0) ∧ (kd = 4 ∨ kd = 5 ∨ kd = 7 ∨ kd = 10 ∨ ds = .empty) ∧
  (kd = 6 → di = 0 ∨ di = 1) ∧ (kd = 11 → 1 ≤ di) ∧ n ≤ 4096 ∧ (kd = 8 ∨ (kd = 9 ∧ n = 2) ∨ (kd = 11 ∧ n = 1) ∨ (kd ≠ 9 ∧ kd ≠ 11 ∧ n = 0))
mutual
/-- each part is as its kind has it -/
def Dv.Right : Dv → Prop
  | .mk kd di db ds l => FitV kd di db ds l.length ∧ Rights l
def Rights : List Dv → Prop
  | [] => True
  | t :: r => t.Right ∧ Rights r
end
theorem sizes_len : ∀ l : List Dv, l.length ≤ sizes l
  | [] => by simp
  | .mk _ _ _ _ x :: r => by have := sizes_len r; simp [sizes, Dv.size]; omega
theorem deeps_pos : ∀ l : List Dv, 0 < l.length → 0 < deeps l
  | [], h => by simp at h
  | .mk _ _ _ _ x :: r, _ => by simp [deeps, Dv.deep]; omega

theorem unzig_zig (x : Int) : unzig (zig x) = x := by
  unfold unzig zig
  split <;> split <;> omega
theorem zig_unzig (x : Nat) : zig (unzig x) = x := by
  unfold unzig zig
  split <;> split <;> omega
theorem unzig_i64 {x : Nat} (h : x ≤ top64) : I64 (unzig x) := by
  unfold top64 at h
  unfold unzig I64
  split <;> omega
theorem bytes_eq {s : ByteArray} : (⟨s.data.toList.toArray⟩ : ByteArray) = s := by cases s; simp
theorem sigD_numB {x : Int} (h : I64 x) (r : List UInt8) : sigD (numB (zig x) ++ r) = .done x (numB (zig x)).length := by
  have hz := zig_lt h.1 h.2
  unfold sigD
  rw [numD_numB top64 (by unfold top64; omega) r (zig x) 0 0 (by unfold top64; simp; omega) (.inl rfl)]
  simp [unzig_zig]
theorem sigD_back {l : List UInt8} {x : Int} {n : Nat} (h : sigD l = .done x n) : l.take n = numB (zig x) ∧ n ≤ l.length ∧ I64 x := by
  unfold sigD at h
  cases hn : numD top64 0 0 l with
  | done y u =>
    rw [hn] at h
    injection h with h1 h2
    subst h1; subst h2
    obtain ⟨z, h1, h2, -⟩ := numD_back _ _ _ _ _ _ hn
    obtain ⟨a, b, c⟩ := numD_len _ _ _ _ _ _ hn
    simp at h1; subst h1
    rw [zig_unzig]
    exact ⟨by simpa using h2, by omega, unzig_i64 c⟩
  | short => rw [hn] at h; cases h
  | bad => rw [hn] at h; cases h
theorem textD_numB {lim : Nat} {s : ByteArray} (hl : lim < 18446744073709551616) (h : s.size ≤ lim) (r : List UInt8) : textD lim (numB s.size ++ s.data.toList ++ r) = .done s ((numB s.size).length + s.size) := by
  unfold textD
  rw [List.append_assoc, numD_numB lim hl _ s.size 0 0 (by simpa using h) (.inl rfl)]
  simp only [Rd.bind_done, Nat.mul_zero, Nat.pow_zero, Nat.mul_one, Nat.zero_add]
  rw [if_neg (by simp)]
  congr 1
  rw [List.drop_left, List.take_left' (by simp), bytes_eq]
theorem textD_back {lim : Nat} {l : List UInt8} {s : ByteArray} {n : Nat} (h : textD lim l = .done s n) : l.take n = numB s.size ++ s.data.toList ∧ n ≤ l.length ∧ s.size ≤ lim := by
  unfold textD at h
  cases hn : numD lim 0 0 l with
  | done y u =>
    rw [hn] at h
    simp only [Rd.bind_done] at h
    split at h
    · cases h
    · rename_i hlen
      injection h with h1 h2
      obtain ⟨z, h3, h4, -⟩ := numD_back _ _ _ _ _ _ hn
      obtain ⟨a, b, c⟩ := numD_len _ _ _ _ _ _ hn
      simp at h3; subst h3
      subst h2
      have hs : s.size = y := by
        rw [← h1]
        show (((l.drop u).take y).toArray).size = y
        simp; omega
      refine ⟨?_, by omega, by omega⟩
      rw [hs, List.take_add, ← h1]
      simp only [Nat.sub_zero] at h4
      rw [h4]
  | short => rw [hn] at h; cases h
  | bad => rw [hn] at h; cases h
theorem leB_len (x : Nat) : ∀ n, (leB x n).length = n
  | 0 => rfl
  | n + 1 => by simp [leB, leB_len x n]
theorem leN_snoc : ∀ (l : List UInt8) (c : UInt8), leN (l ++ [c]) = leN l + c.toNat * 256 ^ l.length
  | [], c => by simp [leN]
  | d :: l, c => by
    simp only [List.cons_append, leN, leN_snoc l c, List.length_cons, Nat.pow_succ]
    have : 256 * (c.toNat * 256 ^ l.length) = c.toNat * (256 ^ l.length * 256) := by rw [Nat.mul_comm 256, Nat.mul_assoc]
    omega
theorem leN_lt : ∀ l : List UInt8, leN l < 256 ^ l.length
  | [] => by simp [leN]
  | c :: l => by have := leN_lt l; have := c.toNat_lt; simp only [leN, List.length_cons, Nat.pow_succ]; omega
theorem leN_leB (x : Nat) : ∀ n, leN (leB x n) = x % 256 ^ n
  | 0 => by simp [leB, leN, Nat.mod_one]
  | n + 1 => by
    rw [leB, leN_snoc, leN_leB x n, leB_len, byte_nat (Nat.mod_lt _ (by omega)), Nat.pow_succ, Nat.mod_mul, show (256 : Nat) ^ n = 2 ^ (8 * n) by rw [Nat.pow_mul], Nat.mul_comm (2 ^ (8 * n))]
theorem leB_congr (x y : Nat) : ∀ n, x % 256 ^ n = y % 256 ^ n → leB x n = leB y n
  | 0, _ => rfl
  | n + 1, h => by
    have h1 : x % 256 ^ n = y % 256 ^ n := by
      have := congrArg (· % 256 ^ n) h
      simpa [Nat.mod_mod_of_dvd, Nat.pow_succ, Nat.dvd_mul_right] using this
    rw [leB, leB, leB_congr x y n h1]
    congr 3
    rw [Nat.pow_succ, Nat.mod_mul, Nat.mod_mul, h1] at h
    have hp : 0 < 256 ^ n := Nat.pow_pos (by omega)
    have h2 := Nat.eq_of_mul_eq_mul_left hp (Nat.add_left_cancel h)
    rw [show 2 ^ (8 * n) = 256 ^ n by rw [Nat.pow_mul]]
    exact h2
theorem leB_leN : ∀ (n : Nat) (l : List UInt8), l.length = n → leB (leN l) n = l := by
  intro n
  induction n with
  | zero => intro l h; rw [List.length_eq_zero_iff.1 h]; rfl
  | succ n ih =>
    intro l h
    obtain ⟨a, c, rfl⟩ : ∃ a c, l = a ++ [c] := ⟨l.dropLast, l.getLast (by intro e; rw [e] at h; simp at h), (List.dropLast_concat_getLast _).symm⟩
    have ha : a.length = n := by simpa using h
    rw [leB, leN_snoc, ha]
    have hp : 0 < 256 ^ n := Nat.pow_pos (by omega)
    have hlt := leN_lt a
    rw [ha] at hlt
    have e1 : leB (leN a + c.toNat * 256 ^ n) n = a := by
      rw [leB_congr _ (leN a) n (by rw [Nat.add_mul_mod_self_right]), ih a ha]
    rw [e1, show 2 ^ (8 * n) = 256 ^ n by rw [Nat.pow_mul], Nat.add_mul_div_right _ _ hp, Nat.div_eq_of_lt hlt, Nat.zero_add, Nat.mod_eq_of_lt c.toNat_lt]
    simp
end Go.Proofs.YtmncpbfghabamaaDoor
