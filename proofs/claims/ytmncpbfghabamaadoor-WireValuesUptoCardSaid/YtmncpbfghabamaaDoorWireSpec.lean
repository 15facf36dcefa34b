/- WIRE: what a reading answers: numbers, texts, values. -/
import Derived.Test.YtmncpbfghabamaaDoorWireTree
namespace Go.Proofs.YtmncpbfghabamaaDoor
open Go Go.RowKit

/-- how a reading ends; n: how many bytes were taken -/
inductive Rd (α : Type) where
  | done (x : α) (n : Nat)
  | short
  | bad
def Rd.bind {α β : Type} : Rd α → (α → Nat → Rd β) → Rd β
  | .done x n, f => f x n
  | .short, _ => .short
  | .bad, _ => .bad
@[simp] theorem Rd.bind_done {α β : Type} (x : α) (n : Nat) (f : α → Nat → Rd β) : (Rd.done x n).bind f = f x n := rfl
@[simp] theorem Rd.bind_short {α β : Type} (f : α → Nat → Rd β) : (Rd.short : Rd α).bind f = .short := rfl
@[simp] theorem Rd.bind_bad {α β : Type} (f : α → Nat → Rd β) : (Rd.bad : Rd α).bind f = .bad := rfl

def numD (lim : Nat) : Nat → Nat → List UInt8 → Rd Nat
  | _, _, [] => .short
  | k, x, c :: r =>
    if (k = 9 ∧ 1 < c.toNat) ∨ (0 < k ∧ c.toNat = 0) then .bad
    else if c.toNat < 128 then (if x + c.toNat * 2 ^ (7 * k) ≤ lim then .done (x + c.toNat * 2 ^ (7 * k)) (k + 1) else .bad)
    else if lim < x + (c.toNat - 128) * 2 ^ (7 * k) + 2 ^ (7 * (k + 1)) then .bad
    else numD lim (k + 1) (x + (c.toNat - 128) * 2 ^ (7 * k)) r
def top64 : Nat := 18446744073709551615
def top63 : Nat := 9223372036854775807
def unzig (x : Nat) : Int := if x % 2 = 1 then -((x / 2 : Nat) : Int) - 1 else ((x / 2 : Nat) : Int)
def sigD (l : List UInt8) : Rd Int := (numD top64 0 0 l).bind fun x u => .done (unzig x) u
def textD (lim : Nat) (l : List UInt8) : Rd ByteArray := (numD lim 0 0 l).bind fun n u => if l.length < u + n then .short else .done ⟨((l.drop u).take n).toArray⟩ (u + n)
def leN : List UInt8 → Nat
  | [] => 0
  | c :: r => c.toNat + 256 * leN r
structure Own where
  di : Int
  db : Nat
  ds : ByteArray
  n : Nat
def ownD (room kd : Nat) (l : List UInt8) : Rd Own :=
  if kd = 1 ∨ kd = 2 then (sigD l).bind fun x u => .done ⟨x, 0, .empty, 0⟩ u
  else if kd = 3 then (if l.length < 8 then .short else .done ⟨0, leN (l.take 8), .empty, 0⟩ 8)
  else if kd = 4 ∨ kd = 5 ∨ kd = 7 then (textD 65535 l).bind fun s u => .done ⟨0, 0, s, 0⟩ u
  else if kd = 6 then (match l with | [] => .short | c :: _ => if 1 < c.toNat then .bad else .done ⟨c.toNat, 0, .empty, 0⟩ 1)
  else if kd = 10 then (sigD l).bind fun x u => (textD 65535 (l.drop u)).bind fun s u2 => .done ⟨x, 0, s, 0⟩ (u + u2)
  else if kd = 11 then (numD top63 0 0 l).bind fun x u => if x < 1 then .bad else .done ⟨x, 0, .empty, 1⟩ u
  else if kd = 9 then .done ⟨0, 0, .empty, 2⟩ 0
  else if kd = 8 then (numD room 0 0 l).bind fun n u => .done ⟨0, 0, .empty, n⟩ u
  else .done ⟨0, 0, .empty, 0⟩ 0
def needs (kd : Nat) : Nat := if kd = 9 then 2 else if kd = 11 then 1 else 0
def roomOf (deep parts : Nat) : Nat := if deep = 16 then 0 else parts
/-- so many values, one behind the other -/
def listD (g : Nat → List UInt8 → Rd (Dv × Nat)) : Nat → Nat → List UInt8 → Rd (List Dv × Nat)
  | 0, p, _ => .done ([], p) 0
  | n + 1, p, l => (g p l).bind fun t u => (listD g n t.2 (l.drop u)).bind fun ts u2 => .done (t.1 :: ts.1, ts.2) (u + u2)
/-- a value; parts: how many there may be beside those that are spoken for -/
def valD : Nat → Nat → Nat → List UInt8 → Rd (Dv × Nat)
  | 0, _, _, _ => .bad
  | _ + 1, _, _, [] => .short
  | f + 1, deep, parts, c :: r =>
    if 14 ≤ c.toNat then .bad
    else if roomOf deep parts < needs c.toNat then .bad
    else (ownD (roomOf deep parts) c.toNat r).bind fun o u => (listD (valD f (deep + 1)) o.n (parts - o.n) (r.drop u)).bind fun ts u2 => .done (.mk c.toNat o.di o.db o.ds ts.1, ts.2) (1 + u + u2)

theorem numD_len (lim : Nat) : ∀ (l : List UInt8) (k x y n : Nat), numD lim k x l = .done y n → k < n ∧ n ≤ k + l.length ∧ y ≤ lim := by
  intro l
  induction l with
  | nil => intro k x y n h; simp [numD] at h
  | cons c r ih =>
    intro k x y n h
    unfold numD at h
    split at h
    · cases h
    · split at h
      · split at h
        · injection h with h1 h2
          subst h1; subst h2
          simp; omega
        · cases h
      · split at h
        · cases h
        · have := ih _ _ _ _ h
          simp only [List.length_cons]; omega
theorem numD_ten (lim : Nat) : ∀ (l : List UInt8) (k x y n : Nat), k ≤ 9 → numD lim k x l = .done y n → n ≤ 10 := by
  intro l
  induction l with
  | nil => intro k x y n _ h; simp [numD] at h
  | cons c r ih =>
    intro k x y n hk h
    unfold numD at h
    split at h
    · cases h
    · rename_i h9
      split at h
      · split at h
        · injection h with h1 h2
          omega
        · cases h
      · split at h
        · cases h
        · exact ih _ _ _ _ (by omega) h
/-- what is written is read -/
theorem numD_numB (lim : Nat) (hl : lim < 18446744073709551616) (r : List UInt8) : ∀ (y k x : Nat), x + y * 2 ^ (7 * k) ≤ lim → (k = 0 ∨ 0 < y) → numD lim k x (numB y ++ r) = .done (x + y * 2 ^ (7 * k)) (k + (numB y).length) := by
  intro y
  induction y using Nat.strongRecOn with
  | _ y ih =>
    intro k x hx hy
    have hp : 0 < 2 ^ (7 * k) := Nat.two_pow_pos _
    have h9 : k = 9 → y ≤ 1 := by
      intro h; subst h
      have : 2 ^ (7 * 9) = 9223372036854775808 := by decide
      rw [this] at hx
      omega
    by_cases h : y < 128
    · rw [numB_small h]
      simp only [List.cons_append, List.nil_append, List.length_singleton]
      unfold numD
      rw [byte_nat (by omega), if_neg (by rintro (⟨h1, h2⟩ | ⟨h1, h2⟩); (have := h9 h1; omega); omega), if_pos h, if_pos hx]
    · rw [numB_big h]
      simp only [List.cons_append, List.length_cons]
      have e : y = y % 128 + 128 * (y / 128) := by omega
      have e2 : x + y * 2 ^ (7 * k) = x + (y % 128) * 2 ^ (7 * k) + (y / 128) * 2 ^ (7 * (k + 1)) := by
        have : 2 ^ (7 * (k + 1)) = 128 * 2 ^ (7 * k) := by rw [show 7 * (k + 1) = 7 + 7 * k by omega, Nat.pow_add]
        rw [this]
        conv => lhs; rw [e]
        rw [Nat.add_mul]
        have : y / 128 * (128 * 2 ^ (7 * k)) = 128 * (y / 128) * 2 ^ (7 * k) := by rw [← Nat.mul_assoc, Nat.mul_comm (y / 128) 128]
        omega
      have h1 : 0 < y / 128 := by omega
      have h2 : 2 ^ (7 * (k + 1)) ≤ (y / 128) * 2 ^ (7 * (k + 1)) := Nat.le_mul_of_pos_left _ h1
      unfold numD
      rw [byte_nat (by omega), if_neg (by rintro (⟨h1, h2⟩ | ⟨h1, h2⟩); (have := h9 h1; omega); omega), if_neg (by omega), if_neg (by rw [Nat.add_sub_cancel]; omega), Nat.add_sub_cancel,
        ih (y / 128) (by omega) (k + 1) _ (by omega) (.inr h1), ← e2]
      congr 1
      omega
/-- what is taken is written so -/
theorem numD_back (lim : Nat) : ∀ (l : List UInt8) (k x z n : Nat), numD lim k x l = .done z n → ∃ y, z = x + y * 2 ^ (7 * k) ∧ l.take (n - k) = numB y ∧ (0 < k → 0 < y) := by
  intro l
  induction l with
  | nil => intro k x z n h; simp [numD] at h
  | cons c r ih =>
    intro k x z n h
    have hc : c.toNat < 256 := c.toNat_lt
    unfold numD at h
    split at h
    · cases h
    · rename_i h9
      split at h
      · rename_i h128
        split at h
        · injection h with h1 h2
          subst h1; subst h2
          refine ⟨c.toNat, rfl, ?_, by omega⟩
          rw [numB_small h128, show k + 1 - k = 1 by omega]
          simp
        · cases h
      · rename_i h128
        split at h
        · cases h
        · obtain ⟨y, h1, h2, h3⟩ := ih _ _ _ _ h
          have hn := (numD_len lim _ _ _ _ _ h).1
          refine ⟨(c.toNat - 128) + 128 * y, ?_, ?_, by omega⟩
          · rw [h1]
            have : 2 ^ (7 * (k + 1)) = 128 * 2 ^ (7 * k) := by rw [show 7 * (k + 1) = 7 + 7 * k by omega, Nat.pow_add]
            rw [this, Nat.add_mul, ← Nat.mul_assoc, Nat.mul_comm y 128]
            omega
          · have hy := h3 (by omega)
            rw [numB_big (by omega), show n - k = (n - (k + 1)) + 1 by omega, List.take_succ_cons, h2]
            congr 2
            · rw [show ((c.toNat - 128) + 128 * y) % 128 + 128 = c.toNat by omega]; simp
            · omega
/-- cut off it is short -/
theorem numD_cut (lim : Nat) (hl : lim < 18446744073709551616) : ∀ (y k x n : Nat), x + y * 2 ^ (7 * k) ≤ lim → (k = 0 ∨ 0 < y) → n < (numB y).length → numD lim k x ((numB y).take n) = .short := by
  intro y
  induction y using Nat.strongRecOn with
  | _ y ih =>
    intro k x n hx hy hn
    have hp : 0 < 2 ^ (7 * k) := Nat.two_pow_pos _
    have h9 : k = 9 → y ≤ 1 := by
      intro h; subst h
      have : 2 ^ (7 * 9) = 9223372036854775808 := by decide
      rw [this] at hx
      omega
    cases n with
    | zero => simp [numD]
    | succ n =>
      by_cases h : y < 128
      · rw [numB_small h] at hn; simp at hn
      · rw [numB_big h] at hn ⊢
        simp only [List.length_cons, List.take_succ_cons] at hn ⊢
        have e : y = y % 128 + 128 * (y / 128) := by omega
        have e2 : x + y * 2 ^ (7 * k) = x + (y % 128) * 2 ^ (7 * k) + (y / 128) * 2 ^ (7 * (k + 1)) := by
          have : 2 ^ (7 * (k + 1)) = 128 * 2 ^ (7 * k) := by rw [show 7 * (k + 1) = 7 + 7 * k by omega, Nat.pow_add]
          rw [this]
          conv => lhs; rw [e]
          rw [Nat.add_mul]
          have : y / 128 * (128 * 2 ^ (7 * k)) = 128 * (y / 128) * 2 ^ (7 * k) := by rw [← Nat.mul_assoc, Nat.mul_comm (y / 128) 128]
          omega
        have h1 : 0 < y / 128 := by omega
        have h2 : 2 ^ (7 * (k + 1)) ≤ (y / 128) * 2 ^ (7 * (k + 1)) := Nat.le_mul_of_pos_left _ h1
        unfold numD
        rw [byte_nat (by omega), if_neg (by rintro (⟨h1, h2⟩ | ⟨h1, h2⟩); (have := h9 h1; omega); omega), if_neg (by omega), if_neg (by rw [Nat.add_sub_cancel]; omega), Nat.add_sub_cancel]
        exact ih (y / 128) (by omega) (k + 1) _ n (by omega) (.inr h1) (by omega)
end Go.Proofs.YtmncpbfghabamaaDoor
