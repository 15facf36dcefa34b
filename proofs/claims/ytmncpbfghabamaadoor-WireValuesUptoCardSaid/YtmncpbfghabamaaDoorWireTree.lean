/- WIRE: a value's tree, in memory; its bytes. -/
import Derived.Test.YtmncpbfghabamaaDoorWireTextR
namespace Go.Proofs.YtmncpbfghabamaaDoor
open Go Go.RowKit

/-- a value -/
inductive Dv where
  | mk (kd di db : Int) (ds : ByteArray) (l : List Dv)
def Dv.kd : Dv → Int | .mk kd _ _ _ _ => kd
def Dv.l : Dv → List Dv | .mk _ _ _ _ l => l
/-- five cells that read as a value of so many levels at most -/
def DvIs (w : World) : Nat → List Value → Dv → Prop
  | 0, _, _ => False
  | k + 1, cs, .mk kd di db ds l => ∃ p cap, cs = [.int .i64 kd, .int .i64 di, .int .u64 db, .string ds, .slice p l.length cap] ∧ I64 kd ∧ I64 di ∧ (0 ≤ db ∧ db < 18446744073709551616) ∧ l.length ≤ cap ∧ cap ≤ 9223372036854775807 ∧
      (0 < l.length → ∃ b o, p = some ⟨b, o, none⟩ ∧ ∀ j t, l[j]? = some t → ∃ c0 c1 c2 c3 c4, w.cell? ⟨b, o + j * 5, none⟩ = some c0 ∧ w.cell? ⟨b, o + j * 5 + 1, none⟩ = some c1 ∧ w.cell? ⟨b, o + j * 5 + 2, none⟩ = some c2 ∧ w.cell? ⟨b, o + j * 5 + 3, none⟩ = some c3 ∧ w.cell? ⟨b, o + j * 5 + 4, none⟩ = some c4 ∧ DvIs w k [c0, c1, c2, c3, c4] t)
theorem DvIs.below {w w' : World} (hb : Below w.heap.size w w') : ∀ {k : Nat} {cs : List Value} {t : Dv}, DvIs w k cs t → DvIs w' k cs t := by
  intro k
  induction k with
  | zero => intro cs t h; exact h
  | succ k ih =>
    intro cs t h
    obtain ⟨kd, di, db, ds, l⟩ := t
    obtain ⟨p, cap, h1, i1, i2, i3, h2, h3, h4⟩ := h
    refine ⟨p, cap, h1, i1, i2, i3, h2, h3, fun hn => ?_⟩
    obtain ⟨b, o, hp, hc⟩ := h4 hn
    refine ⟨b, o, hp, fun j t hj => ?_⟩
    obtain ⟨c0, c1, c2, c3, c4, q0, q1, q2, q3, q4, ht⟩ := hc j t hj
    exact ⟨c0, c1, c2, c3, c4, (hb.cell (World.block_lt_of_cell? w _ q0)).trans q0, (hb.cell (World.block_lt_of_cell? w _ q1)).trans q1, (hb.cell (World.block_lt_of_cell? w _ q2)).trans q2, (hb.cell (World.block_lt_of_cell? w _ q3)).trans q3, (hb.cell (World.block_lt_of_cell? w _ q4)).trans q4, ih ht⟩
theorem DvIs.form {w : World} {k : Nat} {cs : List Value} {t : Dv} (h : DvIs w k cs t) : ∃ k', k = k' + 1 := by
  cases k with
  | zero => exact h.elim
  | succ k => exact ⟨k, rfl⟩
/-- a part, as a walk reads it -/
theorem DvIs.part {w : World} {k : Nat} {kd di db : Int} {ds : ByteArray} {l : List Dv} {p : Option Addr} {n cap : Nat} (h : DvIs w (k + 1) [.int .i64 kd, .int .i64 di, .int .u64 db, .string ds, .slice p n cap] (.mk kd di db ds l)) {j : Nat} {t : Dv} (hj : l[j]? = some t) :
    ∃ b o kd' di' db' ds' q m c l', p = some ⟨b, o, none⟩ ∧ b < w.heap.size ∧ t = .mk kd' di' db' ds' l' ∧ w.cell? ⟨b, o + j * 5, none⟩ = some (.int .i64 kd') ∧ w.cell? ⟨b, o + j * 5 + 1, none⟩ = some (.int .i64 di') ∧ w.cell? ⟨b, o + j * 5 + 2, none⟩ = some (.int .u64 db') ∧ w.cell? ⟨b, o + j * 5 + 3, none⟩ = some (.string ds') ∧ w.cell? ⟨b, o + j * 5 + 4, none⟩ = some (.slice q m c) ∧ DvIs w k [.int .i64 kd', .int .i64 di', .int .u64 db', .string ds', .slice q m c] t := by
  obtain ⟨p0, cap0, e1, i1, i2, i3, h2, h3, h4⟩ := h
  injection e1 with _ e1
  injection e1 with _ e1
  injection e1 with _ e1
  injection e1 with _ e1
  injection e1 with e1
  injection e1 with e1 e2
  subst e1
  obtain ⟨b, o, hp, hc⟩ := h4 (by have := (List.getElem?_eq_some_iff.1 hj).1; omega)
  obtain ⟨c0, c1, c2, c3, c4, q0, q1, q2, q3, q4, ht⟩ := hc j t hj
  have ht' := ht
  obtain ⟨k', rfl⟩ := ht.form
  obtain ⟨kd', di', db', ds', l'⟩ := t
  obtain ⟨q, c, e, -⟩ := ht
  injection e with a0 e
  injection e with a1 e
  injection e with a2 e
  injection e with a3 e
  injection e with a4
  subst a0; subst a1; subst a2; subst a3; subst a4
  exact ⟨b, o, kd', di', db', ds', q, _, c, l', hp, World.block_lt_of_cell? w _ q0, rfl, q0, q1, q2, q3, q4, ht'⟩
theorem DvIs.top {w : World} {k : Nat} {kd di db : Int} {ds : ByteArray} {l : List Dv} {p : Option Addr} {n cap : Nat} (h : DvIs w k [.int .i64 kd, .int .i64 di, .int .u64 db, .string ds, .slice p n cap] (.mk kd di db ds l)) :
    n = l.length ∧ I64 kd ∧ I64 di ∧ (0 ≤ db ∧ db < 18446744073709551616) ∧ n ≤ cap ∧ cap ≤ 9223372036854775807 := by
  obtain ⟨k', rfl⟩ := h.form
  obtain ⟨p0, cap0, e1, i1, i2, i3, h2, h3, h4⟩ := h
  injection e1 with _ e1
  injection e1 with _ e1
  injection e1 with _ e1
  injection e1 with _ e1
  injection e1 with e1
  injection e1 with e1 e2 e3
  subst e2; subst e3
  exact ⟨rfl, i1, i2, i3, h2, h3⟩
/-- eight bytes, the lowest first -/
def leB (x : Nat) : Nat → List UInt8
  | 0 => []
  | n + 1 => leB x n ++ [UInt8.ofNat (x / 2 ^ (8 * n) % 256)]
/-- a value's own fields -/
def ownB (kd di db : Int) (ds : ByteArray) (n : Nat) : List UInt8 :=
  if kd = 1 ∨ kd = 2 then numB (zig di)
  else if kd = 3 then leB db.toNat 8
  else if kd = 4 ∨ kd = 5 ∨ kd = 7 then numB ds.size ++ ds.data.toList
  else if kd = 6 then [UInt8.ofNat (di % 256).toNat]
  else if kd = 10 then numB (zig di) ++ (numB ds.size ++ ds.data.toList)
  else if kd = 11 then numB (di % 18446744073709551616).toNat
  else if kd = 8 then numB n
  else []
def kindB (kd : Int) : UInt8 := UInt8.ofNat (kd % 256).toNat
mutual
/-- a value's bytes -/
def enc : Dv → List UInt8
  | .mk kd di db ds l => kindB kd :: (ownB kd di db ds l.length ++ encs l)
def encs : List Dv → List UInt8
  | [] => []
  | t :: r => enc t ++ encs r
end
theorem encs_append : ∀ (a b : List Dv), encs (a ++ b) = encs a ++ encs b
  | [], b => by simp [encs]
  | t :: r, b => by simp [encs, encs_append r b]
end Go.Proofs.YtmncpbfghabamaaDoor
