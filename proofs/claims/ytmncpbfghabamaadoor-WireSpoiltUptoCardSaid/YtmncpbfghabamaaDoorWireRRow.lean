/- WIRE: the program reads a value. -/
import Derived.Test.YtmncpbfghabamaaDoorWireRR
namespace Go.Proofs.YtmncpbfghabamaaDoor
open Go Go.RowKit
attribute [local go_sem ↓] Go.wp_at_zero Go.wp_at_succ

/-- five cells that read as a value, whose parts lie in blocks of which P holds -/
def DvIn (P : Nat → Prop) (w : World) : Nat → List Value → Dv → Prop
  | 0, _, _ => False
  | k + 1, cs, .mk kd di db ds l => ∃ p cap, cs = [.int .i64 kd, .int .i64 di, .int .u64 db, .string ds, .slice p l.length cap] ∧ I64 kd ∧ I64 di ∧ (0 ≤ db ∧ db < 18446744073709551616) ∧ l.length ≤ cap ∧ cap ≤ 9223372036854775807 ∧
      (0 < l.length → ∃ b o, P b ∧ p = some ⟨b, o, none⟩ ∧ ∀ j t, l[j]? = some t → ∃ c0 c1 c2 c3 c4, w.cell? ⟨b, o + j * 5, none⟩ = some c0 ∧ w.cell? ⟨b, o + j * 5 + 1, none⟩ = some c1 ∧ w.cell? ⟨b, o + j * 5 + 2, none⟩ = some c2 ∧ w.cell? ⟨b, o + j * 5 + 3, none⟩ = some c3 ∧ w.cell? ⟨b, o + j * 5 + 4, none⟩ = some c4 ∧ DvIn P w k [c0, c1, c2, c3, c4] t)
theorem DvIn.is {P : Nat → Prop} {w : World} : ∀ {k : Nat} {cs : List Value} {t : Dv}, DvIn P w k cs t → DvIs w k cs t := by
  intro k
  induction k with
  | zero => intro cs t h; exact h
  | succ k ih =>
    intro cs t h
    obtain ⟨kd, di, db, ds, l⟩ := t
    obtain ⟨p, cap, h1, i1, i2, i3, h2, h3, h4⟩ := h
    refine ⟨p, cap, h1, i1, i2, i3, h2, h3, fun hn => ?_⟩
    obtain ⟨b, o, _, hp, hc⟩ := h4 hn
    refine ⟨b, o, hp, fun j t hj => ?_⟩
    obtain ⟨c0, c1, c2, c3, c4, q0, q1, q2, q3, q4, ht⟩ := hc j t hj
    exact ⟨c0, c1, c2, c3, c4, q0, q1, q2, q3, q4, ih ht⟩
theorem cell_of_heap {w w' : World} {b o : Nat} {v : Value} (h : w'.heap[b]? = w.heap[b]?) (hc : w.cell? ⟨b, o, none⟩ = some v) : w'.cell? ⟨b, o, none⟩ = some v := by
  rw [← hc]
  unfold World.cell?
  simp only [h]
theorem DvIn.kept {P Q : Nat → Prop} {w w' : World} (hk : ∀ b, P b → b < w.heap.size → w'.heap[b]? = w.heap[b]? ∧ Q b) : ∀ {k : Nat} {cs : List Value} {t : Dv}, DvIn P w k cs t → DvIn Q w' k cs t := by
  intro k
  induction k with
  | zero => intro cs t h; exact h
  | succ k ih =>
    intro cs t h
    obtain ⟨kd, di, db, ds, l⟩ := t
    obtain ⟨p, cap, h1, i1, i2, i3, h2, h3, h4⟩ := h
    refine ⟨p, cap, h1, i1, i2, i3, h2, h3, fun hn => ?_⟩
    obtain ⟨b, o, hP, hp, hc⟩ := h4 hn
    obtain ⟨c0, c1, c2, c3, c4, q0, -⟩ := hc 0 _ (List.getElem?_eq_getElem hn)
    obtain ⟨he, hQ⟩ := hk b hP (World.block_lt_of_cell? w _ q0)
    refine ⟨b, o, hQ, hp, fun j t hj => ?_⟩
    obtain ⟨c0, c1, c2, c3, c4, q0, q1, q2, q3, q4, ht⟩ := hc j t hj
    exact ⟨c0, c1, c2, c3, c4, cell_of_heap he q0, cell_of_heap he q1, cell_of_heap he q2, cell_of_heap he q3, cell_of_heap he q4, ih ht⟩
/-- the blocks of a row's parts -/
def RowP (base : Nat) (W : World) (v : Value) (b : Nat) : Prop := base ≤ b ∧ b < W.heap.size ∧ some b ≠ v.ownBlock
/-- a row of values of the call's own -/
def LRow (W : World) (base : Nat) (v : Value) (f : Nat) (ts : List Dv) : Prop :=
  ∃ cs : List Value, W.ownsRow base 25 5 v ts.length cs ∧ ∀ j t, ts[j]? = some t → ∃ c0 c1 c2 c3 c4, cs[j * 5]? = some c0 ∧ cs[j * 5 + 1]? = some c1 ∧ cs[j * 5 + 2]? = some c2 ∧ cs[j * 5 + 3]? = some c3 ∧ cs[j * 5 + 4]? = some c4 ∧ DvIn (RowP base W v) W f [c0, c1, c2, c3, c4] t
theorem LRow.nil (W : World) (base f : Nat) : LRow W base (.slice none 0 0) f [] := ⟨[], World.ownsRow_nil _ _ _ _, fun j t h => by simp at h⟩
theorem LRow.lt {W : World} {base f : Nat} {v : Value} {ts : List Dv} (h : LRow W base v f ts) : ∀ k, v.ownBlock = some k → base ≤ k ∧ k < W.heap.size := by
  obtain ⟨cs, ho, -⟩ := h
  exact fun k hk => ho.lt k hk
/-- what lies elsewhere may change -/
theorem LRow.kept {W W' : World} {base f : Nat} {v : Value} {ts : List Dv} {Bx : Nat} (h : LRow W base v f ts) (hg : W.grownBy W' (some Bx)) (hx : Bx < base) : LRow W' base v f ts := by
  have hl := h.lt
  obtain ⟨cs, ho, hc⟩ := h
  have hne : v.ownBlock ≠ some Bx := fun e => by have := hl Bx e; omega
  refine ⟨cs, ho.kept hg (.inr hne), fun j t hj => ?_⟩
  obtain ⟨c0, c1, c2, c3, c4, q0, q1, q2, q3, q4, ht⟩ := hc j t hj
  refine ⟨c0, c1, c2, c3, c4, q0, q1, q2, q3, q4, ht.kept fun b hb hlt => ⟨hg.block b hlt (fun e => ?_), hb.1, Nat.lt_of_lt_of_le hb.2.1 hg.size, hb.2.2⟩⟩
  have h1 := hb.1
  injection e with e
  omega
theorem But.grown {Br : Nat} {W W' : World} (h : But Br W W') : W.grownBy W' (some Br) := ⟨h.os, h.tape, h.output, h.size, fun k hk hn => h.block k hk (fun e => hn (by rw [e]))⟩
def dzero : Value := .agg #[.int .i64 0, .int .i64 0, .int .u64 0, .string ⟨#[]⟩, .slice none 0 0]
def dzeros : List Value := [.int .i64 0, .int .i64 0, .int .u64 0, .string ⟨#[]⟩, .slice none 0 0]
theorem info_datum : (Tryd.prog.info? 25).map (fun i => (i.zero, i.size, i.bytes)) = some (some dzero, 5, 64) := by kernel_rfl
/-- one cell of an own row -/
theorem own_set {W : World} {base size n cap g j : Nat} {e : TypeId} {xs : List Value} (h : W.ownsRow base e size (.slice (some ⟨g, 0, none⟩) n cap) n xs) (_hj : j < xs.length) (u : Value) : (W.setCell ⟨g, j, none⟩ u).ownsRow base e size (.slice (some ⟨g, 0, none⟩) n cap) n (xs.set j u) := by
  obtain ⟨h0, h1⟩ := h
  refine ⟨by rw [List.length_set]; exact h0, .inr ?_⟩
  rcases h1 with ⟨h1, _⟩ | ⟨g', cap', cur, e1, hb, hg, h2, h3, h4, h5⟩
  · cases h1
  · injection e1 with e1 e2 e3
    injection e1 with e1
    injection e1 with e1 e4
    subst e1; subst e3
    refine ⟨g, cap, cur.set! j u, rfl, hb, heap_setCell_same W g j _ _ _ hg, h2, h3, by simp [h4], ?_⟩
    rw [Array.set!_eq_setIfInBounds, Array.toList_setIfInBounds, List.take_set, h5]
theorem own_set5 {W : World} {base n cap g : Nat} {xs : List Value} (h : W.ownsRow base 25 5 (.slice (some ⟨g, 0, none⟩) (n + 1) cap) (n + 1) (xs ++ dzeros)) (hx : xs.length = n * 5) (a0 a1 a2 a3 a4 : Value) :
    (((((W.setCell ⟨g, n * 5, none⟩ a0).setCell ⟨g, n * 5 + 1, none⟩ a1).setCell ⟨g, n * 5 + 2, none⟩ a2).setCell ⟨g, n * 5 + 3, none⟩ a3).setCell ⟨g, n * 5 + 4, none⟩ a4).ownsRow base 25 5 (.slice (some ⟨g, 0, none⟩) (n + 1) cap) (n + 1) (xs ++ [a0, a1, a2, a3, a4]) := by
  have hl : (xs ++ dzeros).length = n * 5 + 5 := by rw [List.length_append, hx]; rfl
  have h5 := own_set (own_set (own_set (own_set (own_set h (j := n * 5) (by omega) a0) (j := n * 5 + 1) (by simp only [List.length_set]; omega) a1) (j := n * 5 + 2) (by simp only [List.length_set]; omega) a2) (j := n * 5 + 3) (by simp only [List.length_set]; omega) a3) (j := n * 5 + 4) (by simp only [List.length_set]; omega) a4
  have e : (((((xs ++ dzeros).set (n * 5) a0).set (n * 5 + 1) a1).set (n * 5 + 2) a2).set (n * 5 + 3) a3).set (n * 5 + 4) a4 = xs ++ [a0, a1, a2, a3, a4] := by
    rw [← hx]
    simp [dzeros]
  rw [e] at h5
  exact h5
/-- a value is put behind a row -/
theorem LRow.snoc {W W4 : World} {base f n cap g : Nat} {v : Value} {ts : List Dv} {t : Dv} {xs : List Value} {a0 a1 a2 a3 a4 : Value} (hW : W.ownsRow base 25 5 v ts.length xs)
    (hc : ∀ j t, ts[j]? = some t → ∃ c0 c1 c2 c3 c4, xs[j * 5]? = some c0 ∧ xs[j * 5 + 1]? = some c1 ∧ xs[j * 5 + 2]? = some c2 ∧ xs[j * 5 + 3]? = some c3 ∧ xs[j * 5 + 4]? = some c4 ∧ DvIn (RowP base W v) W f [c0, c1, c2, c3, c4] t)
    (ht : DvIn (RowP base W v) W f [a0, a1, a2, a3, a4] t) (h4 : W4.ownsRow base 25 5 (.slice (some ⟨g, 0, none⟩) n cap) n (xs ++ [a0, a1, a2, a3, a4])) (hn : n = ts.length + 1) (hs : W.heap.size ≤ W4.heap.size)
    (hk : ∀ b, base ≤ b → b < W.heap.size → some b ≠ v.ownBlock → W4.heap[b]? = W.heap[b]? ∧ b ≠ g) : LRow W4 base (.slice (some ⟨g, 0, none⟩) n cap) f (ts ++ [t]) := by
  subst hn
  have hxl : xs.length = ts.length * 5 := hW.1
  have hkk : ∀ b, RowP base W v b → b < W.heap.size → W4.heap[b]? = W.heap[b]? ∧ RowP base W4 (.slice (some ⟨g, 0, none⟩) (ts.length + 1) cap) b := fun b hb hlt => by
    obtain ⟨h1, h2⟩ := hk b hb.1 hb.2.1 hb.2.2
    exact ⟨h1, hb.1, Nat.lt_of_lt_of_le hb.2.1 hs, fun e => h2 (by injection e)⟩
  refine ⟨xs ++ [a0, a1, a2, a3, a4], by rw [List.length_append]; exact h4, fun j u hj => ?_⟩
  by_cases hlt : j < ts.length
  · rw [List.getElem?_append_left hlt] at hj
    obtain ⟨c0, c1, c2, c3, c4, q0, q1, q2, q3, q4, hu⟩ := hc j u hj
    refine ⟨c0, c1, c2, c3, c4, ?_, ?_, ?_, ?_, ?_, hu.kept hkk⟩ <;> (rw [List.getElem?_append_left (by omega)]; assumption)
  · have hjl := (List.getElem?_eq_some_iff.1 hj).1
    rw [List.length_append, List.length_singleton] at hjl
    obtain rfl : j = ts.length := by omega
    rw [List.getElem?_append_right (Nat.le_refl _), Nat.sub_self] at hj
    injection hj with hj
    subst hj
    refine ⟨a0, a1, a2, a3, a4, ?_, ?_, ?_, ?_, ?_, ht.kept hkk⟩ <;> (rw [List.getElem?_append_right (by omega), hxl]; simp [show ∀ x : Nat, x + 1 - x = 1 by omega, show ∀ x : Nat, x + 2 - x = 2 by omega, show ∀ x : Nat, x + 3 - x = 3 by omega, show ∀ x : Nat, x + 4 - x = 4 by omega])
end Go.Proofs.YtmncpbfghabamaaDoor
