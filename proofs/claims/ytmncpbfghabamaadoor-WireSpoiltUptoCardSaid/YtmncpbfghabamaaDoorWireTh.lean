/- WIRE: a value's tree, in memory; its bytes. WIRE: what a reading answers: numbers, texts, values. WIRE: a value's bytes and their reading: there and back. WIRE: a value's bytes and their reading: there and back: whole values. -/
import Derived.Test.YtmncpbfghabamaaDoorWireSm
namespace Go.Proofs.YtmncpbfghabamaaDoor
open Go Go.RowKit

/-- a value -/
inductive Dv where
  | mk (kd di db : Int) (ds : ByteArray) (l : List Dv)
def Dv.kd : Dv → Int | .mk kd _ _ _ _ => kd
def Dv.l : Dv → List Dv | .mk _ _ _ _ l => l
/-- five cells that read as a value of so many levels at most -/
def DvIs (w : World) : Nat → List Value → Dv → Prop
  | 0, _, _ => False
  | k + 1, cs, .mk kd di db ds l => ∃ p cap, cs = [.int .i64 kd, .int .i64 di, .int .u64 db, .string ds, .slice p l.length cap] ∧ I64 kd ∧ I64 di ∧ (0 ≤ db ∧ db < 18446744073709551616) ∧ l.length ≤ cap ∧ cap ≤ 9223372036854775807 ∧
      (0 < l.length → ∃ b o, p = some ⟨b, o, none⟩ ∧ ∀ j t, l[j]? = some t → ∃ c0 c1 c2 c3 c4, w.cell? ⟨b, o + j * 5, none⟩ = some c0 ∧ w.cell? ⟨b, o + j * 5 + 1, none⟩ = some c1 ∧ w.cell? ⟨b, o + j * 5 + 2, none⟩ = some c2 ∧ w.cell? ⟨b, o + j * 5 + 3, none⟩ = some c3 ∧ w.cell? ⟨b, o + j * 5 + 4, none⟩ = some c4 ∧ DvIs w k [c0, c1, c2, c3, c4] t)
theorem DvIs.below {w w' : World} (hb : Below w.heap.size w w') : ∀ {k : Nat} {cs : List Value} {t : Dv}, DvIs w k cs t → DvIs w' k cs t := by
  intro k
  induction k with
  | zero => intro cs t h; exact h
  | succ k ih =>
    intro cs t h
    obtain ⟨kd, di, db, ds, l⟩ := t
    obtain ⟨p, cap, h1, i1, i2, i3, h2, h3, h4⟩ := h
    refine ⟨p, cap, h1, i1, i2, i3, h2, h3, fun hn => ?_⟩
    obtain ⟨b, o, hp, hc⟩ := h4 hn
    refine ⟨b, o, hp, fun j t hj => ?_⟩
    obtain ⟨c0, c1, c2, c3, c4, q0, q1, q2, q3, q4, ht⟩ := hc j t hj
    exact ⟨c0, c1, c2, c3, c4, (hb.cell (World.block_lt_of_cell? w _ q0)).trans q0, (hb.cell (World.block_lt_of_cell? w _ q1)).trans q1, (hb.cell (World.block_lt_of_cell? w _ q2)).trans q2, (hb.cell (World.block_lt_of_cell? w _ q3)).trans q3, (hb.cell (World.block_lt_of_cell? w _ q4)).trans q4, ih ht⟩
theorem DvIs.form {w : World} {k : Nat} {cs : List Value} {t : Dv} (h : DvIs w k cs t) : ∃ k', k = k' + 1 := by
  cases k with
  | zero => exact h.elim
  | succ k => exact ⟨k, rfl⟩
/-- a part, as a walk reads it -/
theorem DvIs.part {w : World} {k : Nat} {kd di db : Int} {ds : ByteArray} {l : List Dv} {p : Option Addr} {n cap : Nat} (h : DvIs w (k + 1) [.int .i64 kd, .int .i64 di, .int .u64 db, .string ds, .slice p n cap] (.mk kd di db ds l)) {j : Nat} {t : Dv} (hj : l[j]? = some t) :
    ∃ b o kd' di' db' ds' q m c l', p = some ⟨b, o, none⟩ ∧ b < w.heap.size ∧ t = .mk kd' di' db' ds' l' ∧ w.cell? ⟨b, o + j * 5, none⟩ = some (.int .i64 kd') ∧ w.cell? ⟨b, o + j * 5 + 1, none⟩ = some (.int .i64 di') ∧ w.cell? ⟨b, o + j * 5 + 2, none⟩ = some (.int .u64 db') ∧ w.cell? ⟨b, o + j * 5 + 3, none⟩ = some (.string ds') ∧ w.cell? ⟨b, o + j * 5 + 4, none⟩ = some (.slice q m c) ∧ DvIs w k [.int .i64 kd', .int .i64 di', .int .u64 db', .string ds', .slice q m c] t := by
  obtain ⟨p0, cap0, e1, i1, i2, i3, h2, h3, h4⟩ := h
  injection e1 with _ e1
  injection e1 with _ e1
  injection e1 with _ e1
  injection e1 with _ e1
  injection e1 with e1
  injection e1 with e1 e2
  subst e1
  obtain ⟨b, o, hp, hc⟩ := h4 (by have := (List.getElem?_eq_some_iff.1 hj).1; omega)
  obtain ⟨c0, c1, c2, c3, c4, q0, q1, q2, q3, q4, ht⟩ := hc j t hj
  have ht' := ht
  obtain ⟨k', rfl⟩ := ht.form
  obtain ⟨kd', di', db', ds', l'⟩ := t
  obtain ⟨q, c, e, -⟩ := ht
  injection e with a0 e
  injection e with a1 e
  injection e with a2 e
  injection e with a3 e
  injection e with a4
  subst a0; subst a1; subst a2; subst a3; subst a4
  exact ⟨b, o, kd', di', db', ds', q, _, c, l', hp, World.block_lt_of_cell? w _ q0, rfl, q0, q1, q2, q3, q4, ht'⟩
theorem DvIs.top {w : World} {k : Nat} {kd di db : Int} {ds : ByteArray} {l : List Dv} {p : Option Addr} {n cap : Nat} (h : DvIs w k [.int .i64 kd, .int .i64 di, .int .u64 db, .string ds, .slice p n cap] (.mk kd di db ds l)) :
    n = l.length ∧ I64 kd ∧ I64 di ∧ (0 ≤ db ∧ db < 18446744073709551616) ∧ n ≤ cap ∧ cap ≤ 9223372036854775807 := by
  obtain ⟨k', rfl⟩ := h.form
  obtain ⟨p0, cap0, e1, i1, i2, i3, h2, h3, h4⟩ := h
  injection e1 with _ e1
  injection e1 with _ e1
  injection e1 with _ e1
  injection e1 with _ e1
  injection e1 with e1
  injection e1 with e1 e2 e3
  subst e2; subst e3
  exact ⟨rfl, i1, i2, i3, h2, h3⟩
/-- eight bytes, the lowest first -/
def leB (x : Nat) : Nat → List UInt8
  | 0 => []
  | n + 1 => leB x n ++ [UInt8.ofNat (x / 2 ^ (8 * n) % 256)]
/-- a value's own fields -/
def ownB (kd di db : Int) (ds : ByteArray) (n : Nat) : List UInt8 :=
  if kd = 1 ∨ kd = 2 then numB (zig di)
  else if kd = 3 then leB db.toNat 8
  else if kd = 4 ∨ kd = 5 ∨ kd = 7 then numB ds.size ++ ds.data.toList
  else if kd = 6 then [UInt8.ofNat (di % 256).toNat]
  else if kd = 10 then numB (zig di) ++ (numB ds.size ++ ds.data.toList)
  else if kd = 11 then numB (di % 18446744073709551616).toNat
  else if kd = 8 then numB n
  else []
def kindB (kd : Int) : UInt8 := UInt8.ofNat (kd % 256).toNat
mutual
/-- a value's bytes -/
def enc : Dv → List UInt8
  | .mk kd di db ds l => kindB kd :: (ownB kd di db ds l.length ++ encs l)
def encs : List Dv → List UInt8
  | [] => []
  | t :: r => enc t ++ encs r
end
theorem encs_append : ∀ (a b : List Dv), encs (a ++ b) = encs a ++ encs b
  | [], b => by simp [encs]
  | t :: r, b => by simp [encs, encs_append r b]

/-- how a reading ends; n: how many bytes were taken -/
inductive Rd (α : Type) where
  | done (x : α) (n : Nat)
  | short
  | bad
def Rd.bind {α β : Type} : Rd α → (α → Nat → Rd β) → Rd β
  | .done x n, f => f x n
  | .short, _ => .short
  | .bad, _ => .bad
@[simp] theorem Rd.bind_done {α β : Type} (x : α) (n : Nat) (f : α → Nat → Rd β) : (Rd.done x n).bind f = f x n := rfl
@[simp] theorem Rd.bind_short {α β : Type} (f : α → Nat → Rd β) : (Rd.short : Rd α).bind f = .short := rfl
@[simp] theorem Rd.bind_bad {α β : Type} (f : α → Nat → Rd β) : (Rd.bad : Rd α).bind f = .bad := rfl

def numD (lim : Nat) : Nat → Nat → List UInt8 → Rd Nat
  | _, _, [] => .short
  | k, x, c :: r =>
    if (k = 9 ∧ 1 < c.toNat) ∨ (0 < k ∧ c.toNat = 0) then .bad
    else if c.toNat < 128 then (if x + c.toNat * 2 ^ (7 * k) ≤ lim then .done (x + c.toNat * 2 ^ (7 * k)) (k + 1) else .bad)
    else if lim < x + (c.toNat - 128) * 2 ^ (7 * k) + 2 ^ (7 * (k + 1)) then .bad
    else numD lim (k + 1) (x + (c.toNat - 128) * 2 ^ (7 * k)) r
def top64 : Nat := 18446744073709551615
def top63 : Nat := 9223372036854775807
def unzig (x : Nat) : Int := if x % 2 = 1 then -((x / 2 : Nat) : Int) - 1 else ((x / 2 : Nat) : Int)
def sigD (l : List UInt8) : Rd Int := (numD top64 0 0 l).bind fun x u => .done (unzig x) u
def textD (lim : Nat) (l : List UInt8) : Rd ByteArray := (numD lim 0 0 l).bind fun n u => if l.length < u + n then .short else .done ⟨((l.drop u).take n).toArray⟩ (u + n)
def leN : List UInt8 → Nat
  | [] => 0
  | c :: r => c.toNat + 256 * leN r
structure Own where
  di : Int
  db : Nat
  ds : ByteArray
  n : Nat
def ownD (room kd : Nat) (l : List UInt8) : Rd Own :=
  if kd = 1 ∨ kd = 2 then (sigD l).bind fun x u => .done ⟨x, 0, .empty, 0⟩ u
  else if kd = 3 then (if l.length < 8 then .short else .done ⟨0, leN (l.take 8), .empty, 0⟩ 8)
  else if kd = 4 ∨ kd = 5 ∨ kd = 7 then (textD 65535 l).bind fun s u => .done ⟨0, 0, s, 0⟩ u
  else if kd = 6 then (match l with | [] => .short | c :: _ => if 1 < c.toNat then .bad else .done ⟨c.toNat, 0, .empty, 0⟩ 1)
  else if kd = 10 then (sigD l).bind fun x u => (textD 65535 (l.drop u)).bind fun s u2 => .done ⟨x, 0, s, 0⟩ (u + u2)
  else if kd = 11 then (numD top63 0 0 l).bind fun x u => if x < 1 then .bad else .done ⟨x, 0, .empty, 1⟩ u
  else if kd = 9 then .done ⟨0, 0, .empty, 2⟩ 0
  else if kd = 8 then (numD room 0 0 l).bind fun n u => .done ⟨0, 0, .empty, n⟩ u
  else .done ⟨0, 0, .empty, 0⟩ 0
def needs (kd : Nat) : Nat := if kd = 9 then 2 else if kd = 11 then 1 else 0
def roomOf (deep parts : Nat) : Nat := if deep = 16 then 0 else parts
/-- so many values, one behind the other -/
def listD (g : Nat → List UInt8 → Rd (Dv × Nat)) : Nat → Nat → List UInt8 → Rd (List Dv × Nat)
  | 0, p, _ => .done ([], p) 0
  | n + 1, p, l => (g p l).bind fun t u => (listD g n t.2 (l.drop u)).bind fun ts u2 => .done (t.1 :: ts.1, ts.2) (u + u2)
/-- a value; parts: how many there may be beside those that are spoken for -/
def valD : Nat → Nat → Nat → List UInt8 → Rd (Dv × Nat)
  | 0, _, _, _ => .bad
  | _ + 1, _, _, [] => .short
  | f + 1, deep, parts, c :: r =>
    if 14 ≤ c.toNat then .bad
    else if roomOf deep parts < needs c.toNat then .bad
    else (ownD (roomOf deep parts) c.toNat r).bind fun o u => (listD (valD f (deep + 1)) o.n (parts - o.n) (r.drop u)).bind fun ts u2 => .done (.mk c.toNat o.di o.db o.ds ts.1, ts.2) (1 + u + u2)

theorem numD_len (lim : Nat) : ∀ (l : List UInt8) (k x y n : Nat), numD lim k x l = .done y n → k < n ∧ n ≤ k + l.length ∧ y ≤ lim := by
  intro l
  induction l with
  | nil => intro k x y n h; simp [numD] at h
  | cons c r ih =>
    intro k x y n h
    unfold numD at h
    split at h
    · cases h
    · split at h
      · split at h
        · injection h with h1 h2
          subst h1; subst h2
          simp; omega
        · cases h
      · split at h
        · cases h
        · have := ih _ _ _ _ h
          simp only [List.length_cons]; omega
theorem numD_ten (lim : Nat) : ∀ (l : List UInt8) (k x y n : Nat), k ≤ 9 → numD lim k x l = .done y n → n ≤ 10 := by
  intro l
  induction l with
  | nil => intro k x y n _ h; simp [numD] at h
  | cons c r ih =>
    intro k x y n hk h
    unfold numD at h
    split at h
    · cases h
    · rename_i h9
      split at h
      · split at h
        · injection h with h1 h2
          omega
        · cases h
      · split at h
        · cases h
        · exact ih _ _ _ _ (by omega) h
/-- what is written is read -/
theorem numD_numB (lim : Nat) (hl : lim < 18446744073709551616) (r : List UInt8) : ∀ (y k x : Nat), x + y * 2 ^ (7 * k) ≤ lim → (k = 0 ∨ 0 < y) → numD lim k x (numB y ++ r) = .done (x + y * 2 ^ (7 * k)) (k + (numB y).length) := by
  intro y
  induction y using Nat.strongRecOn with
  | _ y ih =>
    intro k x hx hy
    have hp : 0 < 2 ^ (7 * k) := Nat.two_pow_pos _
    have h9 : k = 9 → y ≤ 1 := by
      intro h; subst h
      have : 2 ^ (7 * 9) = 9223372036854775808 := by decide
      rw [this] at hx
      omega
    by_cases h : y < 128
    · rw [numB_small h]
      simp only [List.cons_append, List.nil_append, List.length_singleton]
      unfold numD
      rw [byte_nat (by omega), if_neg (by rintro (⟨h1, h2⟩ | ⟨h1, h2⟩); (have := h9 h1; omega); omega), if_pos h, if_pos hx]
    · rw [numB_big h]
      simp only [List.cons_append, List.length_cons]
      have e : y = y % 128 + 128 * (y / 128) := by omega
      have e2 : x + y * 2 ^ (7 * k) = x + (y % 128) * 2 ^ (7 * k) + (y / 128) * 2 ^ (7 * (k + 1)) := by
        have : 2 ^ (7 * (k + 1)) = 128 * 2 ^ (7 * k) := by rw [show 7 * (k + 1) = 7 + 7 * k by omega, Nat.pow_add]
        rw [this]
        conv => lhs; rw [e]
        rw [Nat.add_mul]
        have : y / 128 * (128 * 2 ^ (7 * k)) = 128 * (y / 128) * 2 ^ (7 * k) := by rw [← Nat.mul_assoc, Nat.mul_comm (y / 128) 128]
        omega
      have h1 : 0 < y / 128 := by omega
      have h2 : 2 ^ (7 * (k + 1)) ≤ (y / 128) * 2 ^ (7 * (k + 1)) := Nat.le_mul_of_pos_left _ h1
      unfold numD
      rw [byte_nat (by omega), if_neg (by rintro (⟨h1, h2⟩ | ⟨h1, h2⟩); (have := h9 h1; omega); omega), if_neg (by omega), if_neg (by rw [Nat.add_sub_cancel]; omega), Nat.add_sub_cancel,
        ih (y / 128) (by omega) (k + 1) _ (by omega) (.inr h1), ← e2]
      congr 1
      omega
/-- what is taken is written so -/
theorem numD_back (lim : Nat) : ∀ (l : List UInt8) (k x z n : Nat), numD lim k x l = .done z n → ∃ y, z = x + y * 2 ^ (7 * k) ∧ l.take (n - k) = numB y ∧ (0 < k → 0 < y) := by
  intro l
  induction l with
  | nil => intro k x z n h; simp [numD] at h
  | cons c r ih =>
    intro k x z n h
    have hc : c.toNat < 256 := c.toNat_lt
    unfold numD at h
    split at h
    · cases h
    · rename_i h9
      split at h
      · rename_i h128
        split at h
        · injection h with h1 h2
          subst h1; subst h2
          refine ⟨c.toNat, rfl, ?_, by omega⟩
          rw [numB_small h128, show k + 1 - k = 1 by omega]
          simp
        · cases h
      · rename_i h128
        split at h
        · cases h
        · obtain ⟨y, h1, h2, h3⟩ := ih _ _ _ _ h
          have hn := (numD_len lim _ _ _ _ _ h).1
          refine ⟨(c.toNat - 128) + 128 * y, ?_, ?_, by omega⟩
          · rw [h1]
            have : 2 ^ (7 * (k + 1)) = 128 * 2 ^ (7 * k) := by rw [show 7 * (k + 1) = 7 + 7 * k by omega, Nat.pow_add]
            rw [this, Nat.add_mul, ← Nat.mul_assoc, Nat.mul_comm y 128]
            omega
          · have hy := h3 (by omega)
            rw [numB_big (by omega), show n - k = (n - (k + 1)) + 1 by omega, List.take_succ_cons, h2]
            congr 2
            · rw [show ((c.toNat - 128) + 128 * y) % 128 + 128 = c.toNat by omega]; simp
            · omega
/-- cut off it is short -/
theorem numD_cut (lim : Nat) (hl : lim < 18446744073709551616) : ∀ (y k x n : Nat), x + y * 2 ^ (7 * k) ≤ lim → (k = 0 ∨ 0 < y) → n < (numB y).length → numD lim k x ((numB y).take n) = .short := by
  intro y
  induction y using Nat.strongRecOn with
  | _ y ih =>
    intro k x n hx hy hn
    have hp : 0 < 2 ^ (7 * k) := Nat.two_pow_pos _
    have h9 : k = 9 → y ≤ 1 := by
      intro h; subst h
      have : 2 ^ (7 * 9) = 9223372036854775808 := by decide
      rw [this] at hx
      omega
    cases n with
    | zero => simp [numD]
    | succ n =>
      by_cases h : y < 128
      · rw [numB_small h] at hn; simp at hn
      · rw [numB_big h] at hn ⊢
        simp only [List.length_cons, List.take_succ_cons] at hn ⊢
        have e : y = y % 128 + 128 * (y / 128) := by omega
        have e2 : x + y * 2 ^ (7 * k) = x + (y % 128) * 2 ^ (7 * k) + (y / 128) * 2 ^ (7 * (k + 1)) := by
          have : 2 ^ (7 * (k + 1)) = 128 * 2 ^ (7 * k) := by rw [show 7 * (k + 1) = 7 + 7 * k by omega, Nat.pow_add]
          rw [this]
          conv => lhs; rw [e]
          rw [Nat.add_mul]
          have : y / 128 * (128 * 2 ^ (7 * k)) = 128 * (y / 128) * 2 ^ (7 * k) := by rw [← Nat.mul_assoc, Nat.mul_comm (y / 128) 128]
          omega
        have h1 : 0 < y / 128 := by omega
        have h2 : 2 ^ (7 * (k + 1)) ≤ (y / 128) * 2 ^ (7 * (k + 1)) := Nat.le_mul_of_pos_left _ h1
        unfold numD
        rw [byte_nat (by omega), if_neg (by rintro (⟨h1, h2⟩ | ⟨h1, h2⟩); (have := h9 h1; omega); omega), if_neg (by omega), if_neg (by rw [Nat.add_sub_cancel]; omega), Nat.add_sub_cancel]
        exact ih (y / 128) (by omega) (k + 1) _ n (by omega) (.inr h1) (by omega)

mutual
/-- how many parts a value has -/
def Dv.size : Dv → Nat
  | .mk _ _ _ _ l => 1 + sizes l
def sizes : List Dv → Nat
  | [] => 0
  | t :: r => t.size + sizes r
end
mutual
/-- how deep it is -/
def Dv.deep : Dv → Nat
  | .mk _ _ _ _ l => 1 + deeps l
def deeps : List Dv → Nat
  | [] => 0
  | t :: r => max t.deep (deeps r)
end
/-- the fields are as the kind has them -/
def FitV (kd di db : Int) (ds : ByteArray) (n : Nat) : Prop :=
  0 ≤ kd ∧ kd < 14 ∧ I64 di ∧ 0 ≤ db ∧ db < 18446744073709551616 ∧ ds.size ≤ 65535 ∧
  (kd = 1 ∨ kd = 2 ∨ kd = 6 ∨ kd = 10 ∨ kd = 11 ∨ di = 0) ∧ (kd = 3 ∨ db = 0) ∧ (kd = 4 ∨ kd = 5 ∨ kd = 7 ∨ kd = 10 ∨ ds = .empty) ∧
  (kd = 6 → di = 0 ∨ di = 1) ∧ (kd = 11 → 1 ≤ di) ∧ n ≤ 4096 ∧ (kd = 8 ∨ (kd = 9 ∧ n = 2) ∨ (kd = 11 ∧ n = 1) ∨ (kd ≠ 9 ∧ kd ≠ 11 ∧ n = 0))
mutual
/-- each part is as its kind has it -/
def Dv.Right : Dv → Prop
  | .mk kd di db ds l => FitV kd di db ds l.length ∧ Rights l
def Rights : List Dv → Prop
  | [] => True
  | t :: r => t.Right ∧ Rights r
end
theorem sizes_len : ∀ l : List Dv, l.length ≤ sizes l
  | [] => by simp
  | .mk _ _ _ _ x :: r => by have := sizes_len r; simp [sizes, Dv.size]; omega
theorem deeps_pos : ∀ l : List Dv, 0 < l.length → 0 < deeps l
  | [], h => by simp at h
  | .mk _ _ _ _ x :: r, _ => by simp [deeps, Dv.deep]; omega

theorem unzig_zig (x : Int) : unzig (zig x) = x := by
  unfold unzig zig
  split <;> split <;> omega
theorem zig_unzig (x : Nat) : zig (unzig x) = x := by
  unfold unzig zig
  split <;> split <;> omega
theorem unzig_i64 {x : Nat} (h : x ≤ top64) : I64 (unzig x) := by
  unfold top64 at h
  unfold unzig I64
  split <;> omega
theorem bytes_eq {s : ByteArray} : (⟨s.data.toList.toArray⟩ : ByteArray) = s := by cases s; simp
theorem sigD_numB {x : Int} (h : I64 x) (r : List UInt8) : sigD (numB (zig x) ++ r) = .done x (numB (zig x)).length := by
  have hz := zig_lt h.1 h.2
  unfold sigD
  rw [numD_numB top64 (by unfold top64; omega) r (zig x) 0 0 (by unfold top64; simp; omega) (.inl rfl)]
  simp [unzig_zig]
theorem sigD_back {l : List UInt8} {x : Int} {n : Nat} (h : sigD l = .done x n) : l.take n = numB (zig x) ∧ n ≤ l.length ∧ I64 x := by
  unfold sigD at h
  cases hn : numD top64 0 0 l with
  | done y u =>
    rw [hn] at h
    injection h with h1 h2
    subst h1; subst h2
    obtain ⟨z, h1, h2, -⟩ := numD_back _ _ _ _ _ _ hn
    obtain ⟨a, b, c⟩ := numD_len _ _ _ _ _ _ hn
    simp at h1; subst h1
    rw [zig_unzig]
    exact ⟨by simpa using h2, by omega, unzig_i64 c⟩
  | short => rw [hn] at h; cases h
  | bad => rw [hn] at h; cases h
theorem textD_numB {lim : Nat} {s : ByteArray} (hl : lim < 18446744073709551616) (h : s.size ≤ lim) (r : List UInt8) : textD lim (numB s.size ++ s.data.toList ++ r) = .done s ((numB s.size).length + s.size) := by
  unfold textD
  rw [List.append_assoc, numD_numB lim hl _ s.size 0 0 (by simpa using h) (.inl rfl)]
  simp only [Rd.bind_done, Nat.mul_zero, Nat.pow_zero, Nat.mul_one, Nat.zero_add]
  rw [if_neg (by simp)]
  congr 1
  rw [List.drop_left, List.take_left' (by simp), bytes_eq]
theorem textD_back {lim : Nat} {l : List UInt8} {s : ByteArray} {n : Nat} (h : textD lim l = .done s n) : l.take n = numB s.size ++ s.data.toList ∧ n ≤ l.length ∧ s.size ≤ lim := by
  unfold textD at h
  cases hn : numD lim 0 0 l with
  | done y u =>
    rw [hn] at h
    simp only [Rd.bind_done] at h
    split at h
    · cases h
    · rename_i hlen
      injection h with h1 h2
      obtain ⟨z, h3, h4, -⟩ := numD_back _ _ _ _ _ _ hn
      obtain ⟨a, b, c⟩ := numD_len _ _ _ _ _ _ hn
      simp at h3; subst h3
      subst h2
      have hs : s.size = y := by
        rw [← h1]
        show (((l.drop u).take y).toArray).size = y
        simp; omega
      refine ⟨?_, by omega, by omega⟩
      rw [hs, List.take_add, ← h1]
      simp only [Nat.sub_zero] at h4
      rw [h4]
  | short => rw [hn] at h; cases h
  | bad => rw [hn] at h; cases h
theorem leB_len (x : Nat) : ∀ n, (leB x n).length = n
  | 0 => rfl
  | n + 1 => by simp [leB, leB_len x n]
theorem leN_snoc : ∀ (l : List UInt8) (c : UInt8), leN (l ++ [c]) = leN l + c.toNat * 256 ^ l.length
  | [], c => by simp [leN]
  | d :: l, c => by
    simp only [List.cons_append, leN, leN_snoc l c, List.length_cons, Nat.pow_succ]
    have : 256 * (c.toNat * 256 ^ l.length) = c.toNat * (256 ^ l.length * 256) := by rw [Nat.mul_comm 256, Nat.mul_assoc]
    omega
theorem leN_lt : ∀ l : List UInt8, leN l < 256 ^ l.length
  | [] => by simp [leN]
  | c :: l => by have := leN_lt l; have := c.toNat_lt; simp only [leN, List.length_cons, Nat.pow_succ]; omega
theorem leN_leB (x : Nat) : ∀ n, leN (leB x n) = x % 256 ^ n
  | 0 => by simp [leB, leN, Nat.mod_one]
  | n + 1 => by
    rw [leB, leN_snoc, leN_leB x n, leB_len, byte_nat (Nat.mod_lt _ (by omega)), Nat.pow_succ, Nat.mod_mul, show (256 : Nat) ^ n = 2 ^ (8 * n) by rw [Nat.pow_mul], Nat.mul_comm (2 ^ (8 * n))]
theorem leB_congr (x y : Nat) : ∀ n, x % 256 ^ n = y % 256 ^ n → leB x n = leB y n
  | 0, _ => rfl
  | n + 1, h => by
    have h1 : x % 256 ^ n = y % 256 ^ n := by
      have := congrArg (· % 256 ^ n) h
      simpa [Nat.mod_mod_of_dvd, Nat.pow_succ, Nat.dvd_mul_right] using this
    rw [leB, leB, leB_congr x y n h1]
    congr 3
    rw [Nat.pow_succ, Nat.mod_mul, Nat.mod_mul, h1] at h
    have hp : 0 < 256 ^ n := Nat.pow_pos (by omega)
    have h2 := Nat.eq_of_mul_eq_mul_left hp (Nat.add_left_cancel h)
    rw [show 2 ^ (8 * n) = 256 ^ n by rw [Nat.pow_mul]]
    exact h2
theorem leB_leN : ∀ (n : Nat) (l : List UInt8), l.length = n → leB (leN l) n = l := by
  intro n
  induction n with
  | zero => intro l h; rw [List.length_eq_zero_iff.1 h]; rfl
  | succ n ih =>
    intro l h
    obtain ⟨a, c, rfl⟩ : ∃ a c, l = a ++ [c] := ⟨l.dropLast, l.getLast (by intro e; rw [e] at h; simp at h), (List.dropLast_concat_getLast _).symm⟩
    have ha : a.length = n := by simpa using h
    rw [leB, leN_snoc, ha]
    have hp : 0 < 256 ^ n := Nat.pow_pos (by omega)
    have hlt := leN_lt a
    rw [ha] at hlt
    have e1 : leB (leN a + c.toNat * 256 ^ n) n = a := by
      rw [leB_congr _ (leN a) n (by rw [Nat.add_mul_mod_self_right]), ih a ha]
    rw [e1, show 2 ^ (8 * n) = 256 ^ n by rw [Nat.pow_mul], Nat.add_mul_div_right _ _ hp, Nat.div_eq_of_lt hlt, Nat.zero_add, Nat.mod_eq_of_lt c.toNat_lt]
    simp

theorem ds_zero {ds : ByteArray} (h : ds = .empty) : ds.size = 0 := by rw [h]; rfl
theorem ownD_ownB {kd di db : Int} {ds : ByteArray} {n : Nat} (h : FitV kd di db ds n) {room : Nat} (hr : room ≤ 4096) (hn : n ≤ room) (r : List UInt8) :
    ownD room kd.toNat (ownB kd di db ds n ++ r) = .done ⟨di, db.toNat, ds, n⟩ (ownB kd di db ds n).length := by
  obtain ⟨h0, h14, hdi, hdb0, hdb1, hds, f1, f2, f3, f4, f5, f6, f7⟩ := h
  have hc : kd = 0 ∨ kd = 12 ∨ kd = 13 ∨ kd = 1 ∨ kd = 2 ∨ kd = 3 ∨ kd = 4 ∨ kd = 5 ∨ kd = 6 ∨ kd = 7 ∨ kd = 8 ∨ kd = 9 ∨ kd = 10 ∨ kd = 11 := by omega
  rcases hc with hk | hk | hk | hk | hk | hk | hk | hk | hk | hk | hk | hk | hk | hk <;> subst hk <;> simp only [Int.reduceEq, false_or, or_false, true_or, or_true, ne_eq, not_true_eq_false, not_false_eq_true, true_and, false_and, forall_const, false_implies] at f1 f2 f3 f4 f5 f7
  · subst f1; subst f2; subst f3; subst f7; simp [ownB, ownD]
  · subst f1; subst f2; subst f3; subst f7; simp [ownB, ownD]
  · subst f1; subst f2; subst f3; subst f7; simp [ownB, ownD]
  · subst f2; subst f3; subst f7; simp [ownB, ownD, sigD_numB hdi]
  · subst f2; subst f3; subst f7; simp [ownB, ownD, sigD_numB hdi]
  · subst f1; subst f3; subst f7
    have e1 : ownB 3 0 db .empty 0 = leB db.toNat 8 := by simp [ownB]
    have e2 : (leB db.toNat 8 ++ r).take 8 = leB db.toNat 8 := List.take_left' (leB_len _ _)
    have e3 : leN (leB db.toNat 8) = db.toNat := by rw [leN_leB]; exact Nat.mod_eq_of_lt (by show _ < 18446744073709551616; omega)
    rw [e1]
    simp [ownD, leB_len, e2, e3]
  · subst f1; subst f2; subst f7
    have := textD_numB (lim := 65535) (by omega) hds r
    simp [ownB, ownD]
    rw [List.append_assoc] at this
    simp [this]
  · subst f1; subst f2; subst f7
    have := textD_numB (lim := 65535) (by omega) hds r
    simp [ownB, ownD]
    rw [List.append_assoc] at this
    simp [this]
  · subst f2; subst f3; subst f7
    rcases f4 with h | h <;> subst h <;> simp [ownB, ownD]
  · subst f1; subst f2; subst f7
    have := textD_numB (lim := 65535) (by omega) hds r
    simp [ownB, ownD]
    rw [List.append_assoc] at this
    simp [this]
  · subst f1; subst f2; subst f3
    have := numD_numB room (by omega) r n 0 0 (by simpa using hn) (.inl rfl)
    simp [ownB, ownD]
    simp at this
    simp [this]
  · subst f1; subst f2; subst f3; subst f7; simp [ownB, ownD]
  · subst f2; subst f7
    have h1 := sigD_numB hdi (numB ds.size ++ ds.data.toList ++ r)
    have h2 := textD_numB (lim := 65535) (by omega) hds r
    simp [ownB, ownD]
    rw [List.append_assoc] at h1 h2
    simp [h1, h2]
  · subst f2; subst f3; subst f7
    have e : (di % 18446744073709551616).toNat = di.toNat := by unfold I64 at hdi; omega
    have := numD_numB top63 (by unfold top63; omega) r di.toNat 0 0 (by unfold top63 I64 at *; simp; omega) (.inl rfl)
    simp [ownB, ownD, e]
    simp at this
    simp [this]
    rw [if_neg (by omega)]
    congr 1
    simp
    omega
theorem i64_zero : I64 0 := by unfold I64; omega
theorem i64_nat {n : Nat} (h : n ≤ top63) : I64 (n : Int) := by unfold I64; unfold top63 at h; omega
theorem bind_done_inv {α β : Type} {r : Rd α} {f : α → Nat → Rd β} {y : β} {n : Nat} (h : r.bind f = .done y n) : ∃ x u, r = .done x u ∧ f x u = .done y n := by
  cases r with
  | done x u => exact ⟨x, u, rfl, h⟩
  | short => cases h
  | bad => cases h
theorem fitV_zero {k : Nat} (hk : k = 0 ∨ k = 12 ∨ k = 13) : FitV (k : Nat) 0 0 .empty 0 := by
  refine ⟨by omega, by omega, i64_zero, by omega, by omega, by decide, ?_⟩
  simp
  omega
theorem ownB_zero {k : Nat} {ds : ByteArray} {di db : Int} {n : Nat} (hk : k = 0 ∨ k = 12 ∨ k = 13 ∨ k = 9) : ownB (k : Nat) di db ds n = [] := by
  unfold ownB
  rw [if_neg (by omega), if_neg (by omega), if_neg (by omega), if_neg (by omega), if_neg (by omega), if_neg (by omega), if_neg (by omega)]
theorem ownD_back {room k : Nat} (hk : k < 14) (hr : room ≤ 4096) (hneed : needs k ≤ room) {l : List UInt8} {o : Own} {u : Nat} (h : ownD room k l = .done o u) :
    l.take u = ownB k o.di o.db o.ds o.n ∧ u ≤ l.length ∧ FitV k o.di o.db o.ds o.n ∧ o.n ≤ room := by
  unfold ownD at h
  by_cases c1 : k = 1 ∨ k = 2
  · rw [if_pos c1] at h
    obtain ⟨x, u', h1, h2⟩ := bind_done_inv h
    injection h2 with h2 h3
    subst h2; subst h3
    obtain ⟨b1, b2, b3⟩ := sigD_back h1
    refine ⟨by unfold ownB; rw [if_pos (by omega)]; exact b1, b2, ⟨by omega, by omega, b3, by simp, by simp, by simp, by omega, by simp, by simp, by omega, by omega, by simp, by simp; omega⟩, by simp⟩
  rw [if_neg c1] at h
  by_cases c2 : k = 3
  · rw [if_pos c2] at h
    split at h
    · cases h
    · injection h with h2 h3
      subst h2; subst h3; subst c2
      have hlen : (l.take 8).length = 8 := by rw [List.length_take]; omega
      have hlt := leN_lt (l.take 8)
      rw [hlen] at hlt
      have e : (((leN (l.take 8) : Nat) : Int)).toNat = leN (l.take 8) := by simp
      refine ⟨by unfold ownB; rw [if_neg (by omega), if_pos (by omega)]; simp only; rw [e, leB_leN 8 _ hlen], by omega, ⟨by omega, by omega, i64_zero, by simp, ?_, by simp, by simp, by simp, by simp, by simp, by omega, by simp, by simp⟩, by simp⟩
      have : (256 : Nat) ^ 8 = 18446744073709551616 := by decide
      rw [this] at hlt
      simp only
      omega
  rw [if_neg c2] at h
  by_cases c3 : k = 4 ∨ k = 5 ∨ k = 7
  · rw [if_pos c3] at h
    obtain ⟨x, u', h1, h2⟩ := bind_done_inv h
    injection h2 with h2 h3
    subst h2; subst h3
    obtain ⟨b1, b2, b3⟩ := textD_back h1
    refine ⟨by unfold ownB; rw [if_neg (by omega), if_neg (by omega), if_pos (by omega)]; exact b1, b2, ⟨by omega, by omega, i64_zero, by simp, by simp, b3, by simp, by simp, by omega, by simp, by omega, by simp, by simp; omega⟩, by simp⟩
  rw [if_neg c3] at h
  by_cases c4 : k = 6
  · rw [if_pos c4] at h
    cases l with
    | nil => cases h
    | cons c r =>
      simp only at h
      split at h
      · cases h
      · rename_i hc
        injection h with h2 h3
        subst h2; subst h3; subst c4
        have e : (((c.toNat : Nat) : Int) % 256).toNat = c.toNat := by have := c.toNat_lt; omega
        refine ⟨by unfold ownB; rw [if_neg (by omega), if_neg (by omega), if_neg (by omega), if_pos (by omega)]; simp only; rw [e]; simp, by simp, ⟨by omega, by omega, i64_nat (by unfold top63; omega), by simp, by simp, by simp, by simp, by simp, by simp, by first | omega | (simp only; omega), by omega, by simp, by simp⟩, by simp⟩
  rw [if_neg c4] at h
  by_cases c5 : k = 10
  · rw [if_pos c5] at h
    obtain ⟨x, u', h1, h2⟩ := bind_done_inv h
    obtain ⟨s, u2, h3, h4⟩ := bind_done_inv h2
    injection h4 with h4 h5
    subst h4; subst h5
    obtain ⟨b1, b2, b3⟩ := sigD_back h1
    obtain ⟨d1, d2, d3⟩ := textD_back h3
    rw [List.length_drop] at d2
    refine ⟨by unfold ownB; rw [if_neg (by omega), if_neg (by omega), if_neg (by omega), if_neg (by omega), if_pos (by omega), List.take_add, b1, d1], by omega, ⟨by omega, by omega, b3, by simp, by simp, d3, by omega, by simp, by omega, by omega, by omega, by simp, by simp; omega⟩, by simp⟩
  rw [if_neg c5] at h
  by_cases c6 : k = 11
  · rw [if_pos c6] at h
    obtain ⟨x, u', h1, h2⟩ := bind_done_inv h
    split at h2
    · cases h2
    · rename_i hx
      injection h2 with h2 h3
      subst h2; subst h3; subst c6
      obtain ⟨z, b1, b2, -⟩ := numD_back _ _ _ _ _ _ h1
      obtain ⟨d1, d2, d3⟩ := numD_len _ _ _ _ _ _ h1
      simp at b1; subst b1
      have e : (((x : Nat) : Int) % 18446744073709551616).toNat = x := by unfold top63 at d3; omega
      refine ⟨by unfold ownB; rw [if_neg (by omega), if_neg (by omega), if_neg (by omega), if_neg (by omega), if_neg (by omega), if_pos (by omega)]; simp only; rw [e]; simpa using b2, by omega, ⟨by omega, by omega, i64_nat d3, by simp, by simp, by simp, by simp, by simp, by simp, by simp, by first | omega | (simp only; omega), by simp, by simp⟩, by simpa [needs] using hneed⟩
  rw [if_neg c6] at h
  by_cases c7 : k = 9
  · rw [if_pos c7] at h
    injection h with h2 h3
    subst h2; subst h3; subst c7
    refine ⟨by rw [ownB_zero (by omega)]; simp, by simp, ⟨by omega, by omega, i64_zero, by simp, by simp, by simp, by simp, by simp, by simp, by simp, by omega, by simp, by simp⟩, by simpa [needs] using hneed⟩
  rw [if_neg c7] at h
  by_cases c8 : k = 8
  · rw [if_pos c8] at h
    obtain ⟨x, u', h1, h2⟩ := bind_done_inv h
    injection h2 with h2 h3
    subst h2; subst h3; subst c8
    obtain ⟨z, b1, b2, -⟩ := numD_back _ _ _ _ _ _ h1
    obtain ⟨d1, d2, d3⟩ := numD_len _ _ _ _ _ _ h1
    simp at b1; subst b1
    refine ⟨by unfold ownB; rw [if_neg (by omega), if_neg (by omega), if_neg (by omega), if_neg (by omega), if_neg (by omega), if_neg (by omega), if_pos (by omega)]; simpa using b2, by omega, ⟨by omega, by omega, i64_zero, by simp, by simp, by simp, by simp, by simp, by simp, by simp, by omega, by first | omega | (simp only; omega), by simp⟩, d3⟩
  rw [if_neg c8] at h
  injection h with h2 h3
  subst h2; subst h3
  have hk3 : k = 0 ∨ k = 12 ∨ k = 13 := by omega
  exact ⟨by rw [ownB_zero (by omega)]; simp, by simp, fitV_zero hk3, by simp⟩

theorem kind_nat {kd : Int} (h0 : 0 ≤ kd) (h1 : kd < 14) : (kindB kd).toNat = kd.toNat := by
  unfold kindB
  rw [byte_nat (by omega)]
  omega
theorem kind_back {c : UInt8} : kindB (c.toNat : Nat) = c := by
  unfold kindB
  have := c.toNat_lt
  rw [show (((c.toNat : Nat) : Int) % 256).toNat = c.toNat by omega]
  simp
theorem needs_le {kd di db : Int} {ds : ByteArray} {l : List Dv} (h : FitV kd di db ds l.length) : needs kd.toNat ≤ l.length := by
  obtain ⟨h0, h14, hdi, hdb0, hdb1, hds, f1, f2, f3, f4, f5, f6, f7⟩ := h
  unfold needs
  split
  · omega
  · split <;> omega
mutual
theorem valD_enc : ∀ (t : Dv) (f deep parts : Nat) (r : List UInt8), t.Right → t.deep ≤ f → deep + f = 17 → t.size ≤ parts + 1 → parts ≤ 4096 →
    valD f deep parts (enc t ++ r) = .done (t, parts + 1 - t.size) (enc t).length
  | .mk kd di db ds l, f, deep, parts, r, hr, hd, hf, hs, hp => by
    obtain ⟨hfit, hrs⟩ := hr
    have hfit' := hfit
    obtain ⟨h0, h14, -⟩ := hfit'
    have hl := sizes_len l
    have hdl := deeps_pos l
    simp only [Dv.size, Dv.deep] at hd hs
    cases f with
    | zero => omega
    | succ f =>
      have hroom : l.length ≤ roomOf deep parts := by
        unfold roomOf
        split
        · rename_i h16
          rcases Nat.eq_zero_or_pos l.length with h | h
          · omega
          · have := hdl h; omega
        · omega
      have hroom2 : roomOf deep parts ≤ 4096 := by unfold roomOf; split <;> omega
      have hneed := needs_le hfit
      have hown := ownD_ownB hfit hroom2 hroom (encs l ++ r)
      have hlist := listD_encs l f (deep + 1) (parts - l.length) r hrs (by omega) (by omega) (by omega) (by omega)
      simp only [enc, List.cons_append, List.append_assoc]
      unfold valD
      rw [kind_nat h0 h14, if_neg (by omega), if_neg (by omega), hown]
      simp only [Rd.bind_done]
      rw [List.drop_left, hlist]
      simp only [Rd.bind_done, List.length_cons, List.length_append, Dv.size]
      have e1 : ((kd.toNat : Nat) : Int) = kd := by omega
      have e2 : ((db.toNat : Nat) : Int) = db := by obtain ⟨_, _, _, hb, _⟩ := hfit; omega
      rw [e1, e2]
      congr 1
      · congr 1
        omega
      · omega
theorem listD_encs : ∀ (l : List Dv) (f deep parts : Nat) (r : List UInt8), Rights l → deeps l ≤ f → deep + f = 17 → sizes l ≤ parts + l.length → parts + l.length ≤ 4096 →
    listD (valD f deep) l.length parts (encs l ++ r) = .done (l, parts + l.length - sizes l) (encs l).length
  | [], f, deep, parts, r, _, _, _, _, _ => by simp [listD, encs, sizes]
  | t :: l, f, deep, parts, r, hr, hd, hf, hs, hp => by
    obtain ⟨hr1, hr2⟩ := hr
    have hl := sizes_len l
    have ht : 0 < t.size := by cases t; simp [Dv.size]; omega
    simp only [sizes, deeps, List.length_cons] at hd hs hp ⊢
    have h1 := valD_enc t f deep parts (encs l ++ r) hr1 (by omega) hf (by omega) (by omega)
    have h2 := listD_encs l f deep (parts + 1 - t.size) r hr2 (by omega) hf (by omega) (by omega)
    simp only [encs, List.append_assoc]
    unfold listD
    rw [h1]
    simp only [Rd.bind_done]
    rw [List.drop_left, h2]
    simp only [Rd.bind_done, List.length_append]
    congr 2
    omega
end
theorem listD_back_of {g : Nat → List UInt8 → Rd (Dv × Nat)} {f : Nat} (hg : ∀ (p : Nat) (l : List UInt8) (t : Dv) (p' u : Nat), p ≤ 4096 → g p l = .done (t, p') u → l.take u = enc t ∧ u ≤ l.length ∧ t.Right ∧ t.deep ≤ f ∧ p' + t.size = p + 1) :
    ∀ (n p : Nat) (l : List UInt8) (ts : List Dv) (p' u : Nat), p ≤ 4096 → listD g n p l = .done (ts, p') u → l.take u = encs ts ∧ u ≤ l.length ∧ Rights ts ∧ deeps ts ≤ f ∧ p' + sizes ts = p + n ∧ ts.length = n
  | 0, p, l, ts, p', u, _, h => by
    simp only [listD] at h
    injection h with h1 h2
    injection h1 with h1 h3
    subst h1; subst h2; subst h3
    simp [encs, Rights, deeps, sizes]
  | n + 1, p, l, ts, p', u, hp, h => by
    unfold listD at h
    obtain ⟨⟨t, p1⟩, u1, h1, h2⟩ := bind_done_inv h
    obtain ⟨⟨ts1, p2⟩, u2, h3, h4⟩ := bind_done_inv h2
    injection h4 with h4 h5
    injection h4 with h4 h6
    subst h4; subst h5; subst h6
    obtain ⟨a1, a2, a3, a4, a5⟩ := hg _ _ _ _ _ hp h1
    have ht : 0 < t.size := by cases t; simp [Dv.size]; omega
    obtain ⟨b1, b2, b3, b4, b5, b6⟩ := listD_back_of hg n p1 (l.drop u1) ts1 p2 u2 (by omega) h3
    rw [List.length_drop] at b2
    refine ⟨by rw [List.take_add, a1, b1]; rfl, by omega, ⟨a3, b3⟩, by simp only [deeps]; omega, by simp only [sizes]; omega, by simp [b6]⟩
theorem valD_back : ∀ (f deep parts : Nat) (l : List UInt8) (t : Dv) (p' u : Nat), deep + f = 17 → parts ≤ 4096 → valD f deep parts l = .done (t, p') u →
    l.take u = enc t ∧ u ≤ l.length ∧ t.Right ∧ t.deep ≤ f ∧ p' + t.size = parts + 1 := by
  intro f
  induction f with
  | zero => intro deep parts l t p' u _ _ h; simp [valD] at h
  | succ f ih =>
    intro deep parts l t p' u hf hp h
    cases l with
    | nil => simp [valD] at h
    | cons c r =>
      unfold valD at h
      split at h
      · cases h
      · rename_i hc
        split at h
        · cases h
        · rename_i hn
          have hroom2 : roomOf deep parts ≤ 4096 := by unfold roomOf; split <;> omega
          obtain ⟨o, u1, h1, h2⟩ := bind_done_inv h
          obtain ⟨⟨ts, p2⟩, u2, h3, h4⟩ := bind_done_inv h2
          injection h4 with h4 h5
          injection h4 with h4 h6
          subst h4; subst h5; subst h6
          obtain ⟨a1, a2, a3, a4⟩ := ownD_back (by omega) hroom2 (by omega) h1
          have hr : roomOf deep parts ≤ parts := by unfold roomOf; split <;> omega
          obtain ⟨b1, b2, b3, b4, b5, b6⟩ := listD_back_of (f := f) (fun p l t p' u hp h => ih (deep + 1) p l t p' u (by omega) hp h) o.n (parts - o.n) (r.drop u1) ts p2 u2 (by omega) h3
          rw [List.length_drop] at b2
          have e : (c :: r).take (1 + u1 + u2) = c :: (r.take (u1 + u2)) := by rw [show 1 + u1 + u2 = (u1 + u2) + 1 by omega, List.take_succ_cons]
          refine ⟨?_, by simp only [List.length_cons]; omega, ⟨by rw [b6]; exact a3, b3⟩, by simp only [Dv.deep]; omega, by simp only [Dv.size]; omega⟩
          rw [e, List.take_add, a1, b1, enc, kind_back, b6]
end Go.Proofs.YtmncpbfghabamaaDoor
