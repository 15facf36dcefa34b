/- COMMON: a value in memory (out of the wire chapter) -/
import Derived.Test.YtincmegllckcjaaGreatDoorMFlat
namespace Go.Proofs.YtincmegllckcjaaGreatDoor
open Go Go.RowKit

/-- a value -/
inductive Dv where
  | mk (kd di db : Int) (ds : ByteArray) (l : List Dv)

def I64 (x : Int) : Prop := -9223372036854775808 ≤ x ∧ x ≤ 9223372036854775807
def Dv.kd : Dv → Int | .mk kd _ _ _ _ => kd
def Dv.l : Dv → List Dv | .mk _ _ _ _ l => l
/-- five cells that read as a value of so many levels at most -/
def DvIs (w : World) : Nat → List Value → Dv → Prop
  | 0, _, _ => False
  | k + 1, cs, .mk kd di db ds l => ∃ p cap, cs = [.int .i64 kd, .int .i64 di, .int .u64 db, .string ds, .slice p l.length cap] ∧ I64 kd ∧ I64 di ∧ (0 ≤ db ∧ db < 18446744073709551616) ∧ l.length ≤ cap ∧ cap ≤ 9223372036854775807 ∧
      (0 < l.length → ∃ b o, p = some ⟨b, o, none⟩ ∧ ∀ j t, l[j]? = some t → ∃ c0 c1 c2 c3 c4, w.cell? ⟨b, o + j * 5, none⟩ = some c0 ∧ w.cell? ⟨b, o + j * 5 + 1, none⟩ = some c1 ∧ w.cell? ⟨b, o + j * 5 + 2, none⟩ = some c2 ∧ w.cell? ⟨b, o + j * 5 + 3, none⟩ = some c3 ∧ w.cell? ⟨b, o + j * 5 + 4, none⟩ = some c4 ∧ DvIs w k [c0, c1, c2, c3, c4] t)
theorem DvIs.below {w w' : World} (hb : Below w.heap.size w w') : ∀ {k : Nat} {cs : List Value} {t : Dv}, DvIs w k cs t → DvIs w' k cs t := by
  intro k
  induction k with
  | zero => intro cs t h; exact h
  | succ k ih =>
    intro cs t h
    obtain ⟨kd, di, db, ds, l⟩ := t
    obtain ⟨p, cap, h1, i1, i2, i3, h2, h3, h4⟩ := h
    refine ⟨p, cap, h1, i1, i2, i3, h2, h3, fun hn => ?_⟩
    obtain ⟨b, o, hp, hc⟩ := h4 hn
    refine ⟨b, o, hp, fun j t hj => ?_⟩
    obtain ⟨c0, c1, c2, c3, c4, q0, q1, q2, q3, q4, ht⟩ := hc j t hj
    exact ⟨c0, c1, c2, c3, c4, (hb.cell (World.block_lt_of_cell? w _ q0)).trans q0, (hb.cell (World.block_lt_of_cell? w _ q1)).trans q1, (hb.cell (World.block_lt_of_cell? w _ q2)).trans q2, (hb.cell (World.block_lt_of_cell? w _ q3)).trans q3, (hb.cell (World.block_lt_of_cell? w _ q4)).trans q4, ih ht⟩
theorem DvIs.form {w : World} {k : Nat} {cs : List Value} {t : Dv} (h : DvIs w k cs t) : ∃ k', k = k' + 1 := by
  cases k with
  | zero => exact h.elim
  | succ k => exact ⟨k, rfl⟩
/-- a part, as a walk reads it -/
theorem DvIs.part {w : World} {k : Nat} {kd di db : Int} {ds : ByteArray} {l : List Dv} {p : Option Addr} {n cap : Nat} (h : DvIs w (k + 1) [.int .i64 kd, .int .i64 di, .int .u64 db, .string ds, .slice p n cap] (.mk kd di db ds l)) {j : Nat} {t : Dv} (hj : l[j]? = some t) :
    ∃ b o kd' di' db' ds' q m c l', p = some ⟨b, o, none⟩ ∧ b < w.heap.size ∧ t = .mk kd' di' db' ds' l' ∧ w.cell? ⟨b, o + j * 5, none⟩ = some (.int .i64 kd') ∧ w.cell? ⟨b, o + j * 5 + 1, none⟩ = some (.int .i64 di') ∧ w.cell? ⟨b, o + j * 5 + 2, none⟩ = some (.int .u64 db') ∧ w.cell? ⟨b, o + j * 5 + 3, none⟩ = some (.string ds') ∧ w.cell? ⟨b, o + j * 5 + 4, none⟩ = some (.slice q m c) ∧ DvIs w k [.int .i64 kd', .int .i64 di', .int .u64 db', .string ds', .slice q m c] t := by
  obtain ⟨p0, cap0, e1, i1, i2, i3, h2, h3, h4⟩ := h
  injection e1 with _ e1
  injection e1 with _ e1
  injection e1 with _ e1
  injection e1 with _ e1
  injection e1 with e1
  injection e1 with e1 e2
  subst e1
  obtain ⟨b, o, hp, hc⟩ := h4 (by have := (List.getElem?_eq_some_iff.1 hj).1; omega)
  obtain ⟨c0, c1, c2, c3, c4, q0, q1, q2, q3, q4, ht⟩ := hc j t hj
  have ht' := ht
  obtain ⟨k', rfl⟩ := ht.form
  obtain ⟨kd', di', db', ds', l'⟩ := t
  obtain ⟨q, c, e, -⟩ := ht
  injection e with a0 e
  injection e with a1 e
  injection e with a2 e
  injection e with a3 e
  injection e with a4
  subst a0; subst a1; subst a2; subst a3; subst a4
  exact ⟨b, o, kd', di', db', ds', q, _, c, l', hp, World.block_lt_of_cell? w _ q0, rfl, q0, q1, q2, q3, q4, ht'⟩
theorem DvIs.top {w : World} {k : Nat} {kd di db : Int} {ds : ByteArray} {l : List Dv} {p : Option Addr} {n cap : Nat} (h : DvIs w k [.int .i64 kd, .int .i64 di, .int .u64 db, .string ds, .slice p n cap] (.mk kd di db ds l)) :
    n = l.length ∧ I64 kd ∧ I64 di ∧ (0 ≤ db ∧ db < 18446744073709551616) ∧ n ≤ cap ∧ cap ≤ 9223372036854775807 := by
  obtain ⟨k', rfl⟩ := h.form
  obtain ⟨p0, cap0, e1, i1, i2, i3, h2, h3, h4⟩ := h
  injection e1 with _ e1
  injection e1 with _ e1
  injection e1 with _ e1
  injection e1 with _ e1
  injection e1 with e1
  injection e1 with e1 e2 e3
  subst e2; subst e3
  exact ⟨rfl, i1, i2, i3, h2, h3⟩
/-- a value's bytes -/
theorem cells5 {W : World} {b : Nat} {t : TypeId} {c0 c1 c2 c3 c4 : Value} (h : W.heap[b]? = some (.cells #[c0, c1, c2, c3, c4] t (0, 0))) :
    W.cell? ⟨b, 0, none⟩ = some c0 ∧ W.cell? ⟨b, 1, none⟩ = some c1 ∧ W.cell? ⟨b, 2, none⟩ = some c2 ∧ W.cell? ⟨b, 3, none⟩ = some c3 ∧ W.cell? ⟨b, 4, none⟩ = some c4 ∧ b < W.heap.size := by
  refine ⟨?_, ?_, ?_, ?_, ?_, (Array.getElem?_eq_some_iff.1 h).1⟩ <;> simp [World.cell?, h]
/-- a value's box -/
def DB (W : World) (Bd : Nat) (kd di db : Int) (ds : ByteArray) (v : Value) : Prop := W.heap[Bd]? = some (.cells #[.int .i64 kd, .int .i64 di, .int .u64 db, .string ds, v] 34 (0, 0))
theorem DB.cells {W : World} {Bd : Nat} {kd di db : Int} {ds : ByteArray} {v : Value} (h : DB W Bd kd di db ds v) : W.cell? ⟨Bd, 0, none⟩ = some (.int .i64 kd) ∧ W.cell? ⟨Bd, 1, none⟩ = some (.int .i64 di) ∧ W.cell? ⟨Bd, 2, none⟩ = some (.int .u64 db) ∧ W.cell? ⟨Bd, 3, none⟩ = some (.string ds) ∧ W.cell? ⟨Bd, 4, none⟩ = some v ∧ Bd < W.heap.size := by
  have h' : W.heap[Bd]? = some (.cells #[.int .i64 kd, .int .i64 di, .int .u64 db, .string ds, v] 34 (0, 0)) := h
  exact cells5 h'
theorem DB.free {W : World} {Bd : Nat} {kd di db : Int} {ds : ByteArray} {v : Value} (h : DB W Bd kd di db ds v) (j : Nat) : W.frozen? ⟨Bd, j, none⟩ = false := frozen_of_row W Bd j _ _ h
theorem DB.setV {W : World} {Bd : Nat} {kd di db : Int} {ds : ByteArray} {v : Value} (h : DB W Bd kd di db ds v) (x : Value) : DB (W.setCell ⟨Bd, 4, none⟩ x) Bd kd di db ds x := heap_setCell_same W Bd 4 _ _ _ h
/-- five cells that read as a value, whose parts lie in blocks of which P holds -/
def DvIn (P : Nat → Prop) (w : World) : Nat → List Value → Dv → Prop
  | 0, _, _ => False
  | k + 1, cs, .mk kd di db ds l => ∃ p cap, cs = [.int .i64 kd, .int .i64 di, .int .u64 db, .string ds, .slice p l.length cap] ∧ I64 kd ∧ I64 di ∧ (0 ≤ db ∧ db < 18446744073709551616) ∧ l.length ≤ cap ∧ cap ≤ 9223372036854775807 ∧
      (0 < l.length → ∃ b o, P b ∧ p = some ⟨b, o, none⟩ ∧ ∀ j t, l[j]? = some t → ∃ c0 c1 c2 c3 c4, w.cell? ⟨b, o + j * 5, none⟩ = some c0 ∧ w.cell? ⟨b, o + j * 5 + 1, none⟩ = some c1 ∧ w.cell? ⟨b, o + j * 5 + 2, none⟩ = some c2 ∧ w.cell? ⟨b, o + j * 5 + 3, none⟩ = some c3 ∧ w.cell? ⟨b, o + j * 5 + 4, none⟩ = some c4 ∧ DvIn P w k [c0, c1, c2, c3, c4] t)
theorem DvIn.is {P : Nat → Prop} {w : World} : ∀ {k : Nat} {cs : List Value} {t : Dv}, DvIn P w k cs t → DvIs w k cs t := by
  intro k
  induction k with
  | zero => intro cs t h; exact h
  | succ k ih =>
    intro cs t h
    obtain ⟨kd, di, db, ds, l⟩ := t
    obtain ⟨p, cap, h1, i1, i2, i3, h2, h3, h4⟩ := h
    refine ⟨p, cap, h1, i1, i2, i3, h2, h3, fun hn => ?_⟩
    obtain ⟨b, o, _, hp, hc⟩ := h4 hn
    refine ⟨b, o, hp, fun j t hj => ?_⟩
    obtain ⟨c0, c1, c2, c3, c4, q0, q1, q2, q3, q4, ht⟩ := hc j t hj
    exact ⟨c0, c1, c2, c3, c4, q0, q1, q2, q3, q4, ih ht⟩
theorem cell_of_heap {w w' : World} {b o : Nat} {v : Value} (h : w'.heap[b]? = w.heap[b]?) (hc : w.cell? ⟨b, o, none⟩ = some v) : w'.cell? ⟨b, o, none⟩ = some v := by
  rw [← hc]
  unfold World.cell?
  simp only [h]
theorem DvIn.kept {P Q : Nat → Prop} {w w' : World} (hk : ∀ b, P b → b < w.heap.size → w'.heap[b]? = w.heap[b]? ∧ Q b) : ∀ {k : Nat} {cs : List Value} {t : Dv}, DvIn P w k cs t → DvIn Q w' k cs t := by
  intro k
  induction k with
  | zero => intro cs t h; exact h
  | succ k ih =>
    intro cs t h
    obtain ⟨kd, di, db, ds, l⟩ := t
    obtain ⟨p, cap, h1, i1, i2, i3, h2, h3, h4⟩ := h
    refine ⟨p, cap, h1, i1, i2, i3, h2, h3, fun hn => ?_⟩
    obtain ⟨b, o, hP, hp, hc⟩ := h4 hn
    obtain ⟨c0, c1, c2, c3, c4, q0, -⟩ := hc 0 _ (List.getElem?_eq_getElem hn)
    obtain ⟨he, hQ⟩ := hk b hP (World.block_lt_of_cell? w _ q0)
    refine ⟨b, o, hQ, hp, fun j t hj => ?_⟩
    obtain ⟨c0, c1, c2, c3, c4, q0, q1, q2, q3, q4, ht⟩ := hc j t hj
    exact ⟨c0, c1, c2, c3, c4, cell_of_heap he q0, cell_of_heap he q1, cell_of_heap he q2, cell_of_heap he q3, cell_of_heap he q4, ih ht⟩
/-- the blocks of a row's parts -/
def RowP (base : Nat) (W : World) (v : Value) (b : Nat) : Prop := base ≤ b ∧ b < W.heap.size ∧ some b ≠ v.ownBlock
/-- a row of values of the call's own -/
def LRow (W : World) (base : Nat) (v : Value) (f : Nat) (ts : List Dv) : Prop :=
  ∃ cs : List Value, W.ownsRow base 34 5 v ts.length cs ∧ ∀ j t, ts[j]? = some t → ∃ c0 c1 c2 c3 c4, cs[j * 5]? = some c0 ∧ cs[j * 5 + 1]? = some c1 ∧ cs[j * 5 + 2]? = some c2 ∧ cs[j * 5 + 3]? = some c3 ∧ cs[j * 5 + 4]? = some c4 ∧ DvIn (RowP base W v) W f [c0, c1, c2, c3, c4] t
theorem LRow.nil (W : World) (base f : Nat) : LRow W base (.slice none 0 0) f [] := ⟨[], World.ownsRow_nil _ _ _ _, fun j t h => by simp at h⟩
theorem LRow.lt {W : World} {base f : Nat} {v : Value} {ts : List Dv} (h : LRow W base v f ts) : ∀ k, v.ownBlock = some k → base ≤ k ∧ k < W.heap.size := by
  obtain ⟨cs, ho, -⟩ := h
  exact fun k hk => ho.lt k hk
/-- what lies elsewhere may change -/
theorem LRow.kept {W W' : World} {base f : Nat} {v : Value} {ts : List Dv} {Bx : Nat} (h : LRow W base v f ts) (hg : W.grownBy W' (some Bx)) (hx : Bx < base) : LRow W' base v f ts := by
  have hl := h.lt
  obtain ⟨cs, ho, hc⟩ := h
  have hne : v.ownBlock ≠ some Bx := fun e => by have := hl Bx e; omega
  refine ⟨cs, ho.kept hg (.inr hne), fun j t hj => ?_⟩
  obtain ⟨c0, c1, c2, c3, c4, q0, q1, q2, q3, q4, ht⟩ := hc j t hj
  refine ⟨c0, c1, c2, c3, c4, q0, q1, q2, q3, q4, ht.kept fun b hb hlt => ⟨hg.block b hlt (fun e => ?_), hb.1, Nat.lt_of_lt_of_le hb.2.1 hg.size, hb.2.2⟩⟩
  have h1 := hb.1
  injection e with e
  omega
def dzero : Value := .agg #[.int .i64 0, .int .i64 0, .int .u64 0, .string ⟨#[]⟩, .slice none 0 0]
theorem info_datum : (Tryz.prog.info? 34).map (fun i => (i.zero, i.size, i.bytes)) = some (some dzero, 5, 64) := by kernel_rfl
/-- a value is put behind a row -/
theorem LRow.snoc {W W4 : World} {base f n cap g : Nat} {v : Value} {ts : List Dv} {t : Dv} {xs : List Value} {a0 a1 a2 a3 a4 : Value} (hW : W.ownsRow base 34 5 v ts.length xs)
    (hc : ∀ j t, ts[j]? = some t → ∃ c0 c1 c2 c3 c4, xs[j * 5]? = some c0 ∧ xs[j * 5 + 1]? = some c1 ∧ xs[j * 5 + 2]? = some c2 ∧ xs[j * 5 + 3]? = some c3 ∧ xs[j * 5 + 4]? = some c4 ∧ DvIn (RowP base W v) W f [c0, c1, c2, c3, c4] t)
    (ht : DvIn (RowP base W v) W f [a0, a1, a2, a3, a4] t) (h4 : W4.ownsRow base 34 5 (.slice (some ⟨g, 0, none⟩) n cap) n (xs ++ [a0, a1, a2, a3, a4])) (hn : n = ts.length + 1) (hs : W.heap.size ≤ W4.heap.size)
    (hk : ∀ b, base ≤ b → b < W.heap.size → some b ≠ v.ownBlock → W4.heap[b]? = W.heap[b]? ∧ b ≠ g) : LRow W4 base (.slice (some ⟨g, 0, none⟩) n cap) f (ts ++ [t]) := by
  subst hn
  have hxl : xs.length = ts.length * 5 := hW.1
  have hkk : ∀ b, RowP base W v b → b < W.heap.size → W4.heap[b]? = W.heap[b]? ∧ RowP base W4 (.slice (some ⟨g, 0, none⟩) (ts.length + 1) cap) b := fun b hb hlt => by
    obtain ⟨h1, h2⟩ := hk b hb.1 hb.2.1 hb.2.2
    exact ⟨h1, hb.1, Nat.lt_of_lt_of_le hb.2.1 hs, fun e => h2 (by injection e)⟩
  refine ⟨xs ++ [a0, a1, a2, a3, a4], by rw [List.length_append]; exact h4, fun j u hj => ?_⟩
  by_cases hlt : j < ts.length
  · rw [List.getElem?_append_left hlt] at hj
    obtain ⟨c0, c1, c2, c3, c4, q0, q1, q2, q3, q4, hu⟩ := hc j u hj
    refine ⟨c0, c1, c2, c3, c4, ?_, ?_, ?_, ?_, ?_, hu.kept hkk⟩ <;> (rw [List.getElem?_append_left (by omega)]; assumption)
  · have hjl := (List.getElem?_eq_some_iff.1 hj).1
    rw [List.length_append, List.length_singleton] at hjl
    obtain rfl : j = ts.length := by omega
    rw [List.getElem?_append_right (Nat.le_refl _), Nat.sub_self] at hj
    injection hj with hj
    subst hj
    refine ⟨a0, a1, a2, a3, a4, ?_, ?_, ?_, ?_, ?_, ht.kept hkk⟩ <;> (rw [List.getElem?_append_right (by omega), hxl]; simp [show ∀ x : Nat, x + 1 - x = 1 by omega, show ∀ x : Nat, x + 2 - x = 2 by omega, show ∀ x : Nat, x + 3 - x = 3 by omega, show ∀ x : Nat, x + 4 - x = 4 by omega])
theorem DB.alloc {W : World} {B : Nat} {kd di db : Int} {ds : ByteArray} {v : Value} (h : DB W B kd di db ds v) (o : Obj) : DB (W.alloc o) B kd di db ds v := (Below.heap_alloc _ _ _ (Array.getElem?_eq_some_iff.1 h).1).trans h
theorem DB.setOther {W : World} {B : Nat} {kd di db : Int} {ds : ByteArray} {v : Value} (h : DB W B kd di db ds v) (a : Addr) (u : Value) (hn : a.block ≠ B) : DB (W.setCell a u) B kd di db ds v := (Below.heap_setCell _ _ _ _ (fun e => hn e.symm)).trans h
/-- a row of values as a value's list -/
theorem LRow.in_ {W : World} {base f lo : Nat} {va : Value} {ts : List Dv} (h : LRow W base va f ts) (hlo : lo ≤ base) {kd di db : Int} {ds : ByteArray} (h1 : I64 kd) (h2 : I64 di) (h3 : 0 ≤ db ∧ db < 18446744073709551616) :
    DvIn (fun b => lo ≤ b ∧ b < W.heap.size) W (f + 1) [.int .i64 kd, .int .i64 di, .int .u64 db, .string ds, va] (.mk kd di db ds ts) := by
  obtain ⟨cs, ho, hc⟩ := h
  have ho' := ho
  rcases ho.2 with ⟨rfl, h0⟩ | ⟨g, cap, cur, rfl, hb, hg, k1, k2, k3, k4⟩
  · exact ⟨none, 0, by rw [h0], h1, h2, h3, by omega, by omega, fun h => by omega⟩
  · refine ⟨_, cap, rfl, h1, h2, h3, k1, by unfold maxLen at k2; omega, fun _ => ⟨g, 0, ⟨by omega, (Array.getElem?_eq_some_iff.1 hg).1⟩, rfl, fun j t hj => ?_⟩⟩
    obtain ⟨c0, c1, c2, c3, c4, q0, q1, q2, q3, q4, ht⟩ := hc j t hj
    have hjl := (List.getElem?_eq_some_iff.1 hj).1
    have hat : ∀ i, i < 5 → W.cell? ⟨g, 0 + j * 5 + i, none⟩ = cs[j * 5 + i]? := fun i hi => by rw [Nat.zero_add]; exact ho'.cellAt _ (by omega)
    have h00 := hat 0 (by omega)
    rw [Nat.add_zero, Nat.add_zero] at h00
    exact ⟨c0, c1, c2, c3, c4, by rw [h00, q0], by rw [hat 1 (by omega), q1], by rw [hat 2 (by omega), q2], by rw [hat 3 (by omega), q3], by rw [hat 4 (by omega), q4], ht.kept fun b hb hl => ⟨rfl, by have := hb.1; omega, hb.2.1⟩⟩
theorem LRow.slice {W : World} {base f : Nat} {va : Value} {ts : List Dv} (h : LRow W base va f ts) : ∃ q c, va = .slice q ts.length c ∧ ts.length ≤ c := by
  obtain ⟨cs, ho, -⟩ := h
  rcases ho.2 with ⟨rfl, h0⟩ | ⟨g, cap, cur, rfl, hb, hg, k1, -⟩
  · exact ⟨none, 0, by rw [h0], by omega⟩
  · exact ⟨_, cap, rfl, k1⟩
/-- the levels of a text -/
theorem DvIn.mk {P : Nat → Prop} {w : World} {k : Nat} {kd di db : Int} {ds : ByteArray} {v : Value} {t : Dv} (h : DvIn P w k [.int .i64 kd, .int .i64 di, .int .u64 db, .string ds, v] t) : ∃ ps, t = .mk kd di db ds ps := by
  cases k with
  | zero => exact h.elim
  | succ k =>
    obtain ⟨kd', di', db', ds', l⟩ := t
    obtain ⟨p, cap, e, -⟩ := h
    injection e with e0 e
    injection e with e1 e
    injection e with e2 e
    injection e with e3 e
    injection e0 with _ e0
    injection e1 with _ e1
    injection e2 with _ e2
    injection e3 with e3
    subst e0; subst e1; subst e2; subst e3
    exact ⟨l, rfl⟩
/-- no parts -/
theorem DvIn.leaf (P : Nat → Prop) (W : World) (f : Nat) {kd di db : Int} {ds : ByteArray} (h1 : I64 kd) (h2 : I64 di) (h3 : 0 ≤ db ∧ db < 18446744073709551616) :
    DvIn P W (f + 1) [.int .i64 kd, .int .i64 di, .int .u64 db, .string ds, .slice none 0 0] (.mk kd di db ds []) :=
  ⟨none, 0, rfl, h1, h2, h3, Nat.le_refl _, by omega, fun h => absurd h (Nat.lt_irrefl _)⟩
end Go.Proofs.YtincmegllckcjaaGreatDoor
