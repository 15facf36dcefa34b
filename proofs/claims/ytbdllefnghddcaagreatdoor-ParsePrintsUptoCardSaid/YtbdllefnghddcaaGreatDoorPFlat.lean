/- READING: what an argument's cells are, from the row's reading of it: structs field by field, slices element by element, with the bound of the second form. SLICES AS FLAT CELLS: a slice of n elements of k cells each; parts of it; 'append(own, part...)'. READING a slice: its elements' readings, its cells laid flat, and what they weigh together. -/
import Derived.Test.YtbdllefnghddcaaGreatDoorProg
import Derived.Test.YtbdllefnghddcaaGreatDoorRows
import Derived.WalkKit
import Derived.ProofKit
import Derived.OpenShut
import Derived.JoinedCond
import Derived.Deep.Slices
import Derived.Carry
import Derived.Maps.AppendAt
namespace Go.Proofs.YtbdllefnghddcaaGreatDoor
section
open Go Go.ChangeShapes Go.WideShapes Go.ChangeAt Go.RowKit Go.Deep

theorem laidOut : laidOutB Tryz.prog = true := by kernel_rfl
theorem bulk_one {H : Type} (d : DataW H) : 1 ≤ Rows.uptoBulk d := by
 cases d with
 | lit x => cases x <;> simp [Rows.uptoBulk]
 | _ => simp [Rows.uptoBulk]
theorem bulk_part {H : Type} : ∀ (l : List (DataW H)) (d : DataW H), d ∈ l → Rows.uptoBulk d ≤ Rows.uptoBulkAll l := by
 intro l
 induction l with
 | nil => intro d h; cases h
 | cons x r ih =>
  intro d h
  simp only [Rows.uptoBulkAll]
  rcases List.mem_cons.1 h with rfl | h
  ·omega
  ·have := ih d h; omega
theorem rd_plain {w : World} {a : Addr} {v : Value} (h : w.cell? a = some v) : ∃ b o, a = ⟨b, o, none⟩ := by
 obtain ⟨b, o, s⟩ := a
 cases s with
 | none => exact ⟨b, o, rfl⟩
 | some k => simp only [World.cell?] at h; split at h <;> simp at h
theorem rd_add {b o i : Nat} : (⟨b, o, none⟩ : Addr).add i = ⟨b, o + i, none⟩ := by unfold Addr.add; split <;> simp_all

section
variable {H : Type} {enc : TypeId × Value → H} {w : World} {base : Nat} {spare : Nat → Bool} {held : Bool}
theorem rd_int {k : IntKind} {t : TypeId} {c : Value} {n : Nat} {y : DataW H × List MemPlace} (ht : Tryz.prog.underlying t = some (.int k)) (h : DataW.trod enc Tryz.prog w base spare held n t [c] = some y) : ∃ z, c = .int k z ∧ (Lit.int k z).wf = true := by
 obtain ⟨z, hz, _, hw⟩ := DataW.trod_int ht h
 injection hz with hz
 exact ⟨z, hz, hw⟩
theorem rd_bool {t : TypeId} {c : Value} {n : Nat} {y : DataW H × List MemPlace} (ht : Tryz.prog.underlying t = some .bool) (h : DataW.trod enc Tryz.prog w base spare held n t [c] = some y) : ∃ b, c = .bool b := by
 obtain ⟨s, hz, _⟩ := DataW.trod_bool ht h
 injection hz with hz
 exact ⟨s, hz⟩
end
end
section
open Go Go.RowKit
section
variable {P : Program}

def Fl (w : World) (k : Nat) (v : Value) (n : Nat) (cs : List Value) : Prop :=
 cs.length = n * k ∧ ∃ p cap, v = .slice p n cap ∧ n ≤ cap ∧ cap ≤ 9223372036854775807 ∧ (n = 0 ∨ ∃ b o, p = some ⟨b, o, none⟩ ∧ ∀ j u, cs[j]? = some u → w.cell? ⟨b, o + j, none⟩ = some u)
theorem Fl.below {w w' : World} {k n : Nat} {v : Value} {cs : List Value} (h : Fl w k v n cs) (hb : Below w.heap.size w w') : Fl w' k v n cs := by
 obtain ⟨h0, p, cap, rfl, h1, h2, h3⟩ := h
 refine ⟨h0, p, cap, rfl, h1, h2, ?_⟩
 rcases h3 with h3 | ⟨b, o, rfl, h3⟩
 ·exact .inl h3
 ·exact .inr ⟨b, o, rfl, fun j u hj => (hb.cell (World.block_lt_of_cell? w _ (h3 j u hj))).trans (h3 j u hj)⟩
theorem Fl.of_own {w : World} {base k n : Nat} {e : TypeId} {v : Value} {cs : List Value} (h : w.ownsRow base e k v n cs) : Fl w k v n cs := by
 refine ⟨h.1, ?_⟩
 rcases h.2 with ⟨rfl, rfl⟩ | ⟨g, cap, cur, rfl, -, -, h3, h4, -, -⟩
 ·exact ⟨none, 0, rfl, Nat.le_refl _, by omega, .inl rfl⟩
 ·refine ⟨_, cap, rfl, h3, by unfold maxLen at h4; omega, .inr ⟨g, 0, rfl, fun j u hj => ?_⟩⟩
  have hjl : j < n * k := by rw [← h.1]; exact (List.getElem?_eq_some_iff.1 hj).1
  rw [Nat.zero_add, h.cellAt j hjl, hj]
theorem Fl.form {w : World} {k n : Nat} {v : Value} {cs : List Value} (h : Fl w k v n cs) : ∃ q c, v = .slice q n c := by
 obtain ⟨-, p, cap, rfl, -⟩ := h
 exact ⟨_, _, rfl⟩
theorem flat_add (b o j : Nat) : (⟨b, o, none⟩ : Addr).add j = ⟨b, o + j, none⟩ := by unfold Addr.add; split <;> simp_all
theorem Fl.cut {w : World} {k n : Nat} {v : Value} {cs : List Value} (h : Fl w k v n cs) (t e : TypeId) (inf : TypeInfo) (ht : P.underlying t = some (.slice e)) (hi : P.info? e = some inf) {i : Nat} (hin : i ≤ n) :
  ∃ q cq, (∀ w' : World, Sem.run P (Instr.slice t v none (some (Value.int .i64 (i : Nat))) none) w' = .ok (.slice q i cq) w') ∧ Fl w k (.slice q i cq) i (cs.take (i * k)) := by
 obtain ⟨h0, p, cap, rfl, h1, h2, h3⟩ := h
 have hle : i * k ≤ n * k := Nat.mul_le_mul_right _ hin
 refine ⟨p, cap, fun w' => ?_, by rw [List.length_take, h0]; omega, p, cap, rfl, by omega, h2, ?_⟩
 ·have c1 : (i : Int) ≤ (cap : Int) := by omega
  have c2 : (0 : Int) ≤ (i : Int) := by omega
  simp [Instr.slice, run_underlying ht, Instr.sliceBounds, run_sliceBound, c1, c2, sizeOf, typeInfo, hi]
  intro _; cases p <;> simp [Addr.add]
 ·rcases h3 with h3 | ⟨b, o, rfl, h3⟩
  ·exact .inl (by omega)
  ·refine .inr ⟨b, o, rfl, fun j u hj => h3 j u ?_⟩
   rw [List.getElem?_take] at hj
   split at hj
   ·exact hj
   ·cases hj
theorem Fl.rest {w : World} {k n : Nat} {v : Value} {cs : List Value} (h : Fl w k v n cs) (t e : TypeId) (inf : TypeInfo) (ht : P.underlying t = some (.slice e)) (hi : P.info? e = some inf) (hk : inf.size = k) {i : Nat} (hin : i ≤ n) :
  ∃ q cq, (∀ w' : World, Sem.run P (Instr.slice t v (some (Value.int .i64 (i : Nat))) none none) w' = .ok (.slice q (n - i) cq) w') ∧ Fl w k (.slice q (n - i) cq) (n - i) (cs.drop (i * k)) := by
 obtain ⟨h0, p, cap, rfl, h1, h2, h3⟩ := h
 have hle : i * k ≤ n * k := Nat.mul_le_mul_right _ hin
 refine ⟨if cap = i then p else p.map (·.add (i * k)), cap - i, fun w' => ?_, by rw [List.length_drop, h0, Nat.sub_mul], _, cap - i, rfl, by omega, by omega, ?_⟩
 ·have c1 : (i : Int) ≤ (n : Int) := by omega
  have c2 : (0 : Int) ≤ (i : Int) := by omega
  simp [Instr.slice, run_underlying ht, Instr.sliceBounds, run_sliceBound, c1, c2, sizeOf, typeInfo, hi, hk]
 ·by_cases hn : n - i = 0
  ·exact .inl hn
  ·rcases h3 with h3 | ⟨b, o, rfl, h3⟩
   ·omega
   ·rw [if_neg (by omega)]
    refine .inr ⟨b, o + i * k, by rw [Option.map_some, flat_add], fun j u hj => ?_⟩
    rw [List.getElem?_drop] at hj
    have := h3 _ u hj
    rwa [← Nat.add_assoc] at this
end
end
section
open Go Go.ChangeShapes Go.WideShapes Go.ChangeAt Go.RowKit Go.Deep

theorem pick_list {α : Type} {P : Nat → α → Prop} : ∀ n, (∀ i, i < n → ∃ a, P i a) → ∃ l : List α, l.length = n ∧ ∀ j a, l[j]? = some a → P j a := by
 intro n
 induction n with
 | zero => intro _; exact ⟨[], rfl, fun j a h => by cases h⟩
 | succ n ih =>
  intro h
  obtain ⟨l, h1, h2⟩ := ih fun i hi => h i (by omega)
  obtain ⟨a, ha⟩ := h n (by omega)
  refine ⟨l ++ [a], by simp [h1], fun j b hj => ?_⟩
  by_cases hjl : j < l.length
  ·rw [List.getElem?_append_left hjl] at hj; exact h2 j b hj
  ·have hjs := (List.getElem?_eq_some_iff.1 hj).1
   rw [List.length_append, List.length_singleton] at hjs
   have : j = l.length := by omega
   subst this
   rw [List.getElem?_append_right (Nat.le_refl _), Nat.sub_self] at hj
   injection hj with hj
   subst hj
   rw [h1]; exact ha
theorem flat_get {α : Type} {k : Nat} : ∀ (L : List (List α)), (∀ x ∈ L, x.length = k) → ∀ (j : Nat) (u : α), L.flatten[j]? = some u → 0 < k → ∃ x, L[j / k]? = some x ∧ x[j % k]? = some u
 | [], _, j, u, h, _ => by cases h
 | x :: L, hL, j, u, h, hk => by
  have hx := hL x (List.mem_cons_self ..)
  rw [List.flatten_cons] at h
  by_cases hj : j < k
  ·rw [List.getElem?_append_left (by omega)] at h
   exact ⟨x, by rw [Nat.div_eq_of_lt hj]; rfl, by rw [Nat.mod_eq_of_lt hj]; exact h⟩
  ·rw [List.getElem?_append_right (by omega), hx] at h
   obtain ⟨y, h1, h2⟩ := flat_get L (fun x hx => hL x (List.mem_cons_of_mem _ hx)) (j - k) u h hk
   have e1 : j / k = (j - k) / k + 1 := by
    conv => lhs; rw [show j = (j - k) + k by omega]
    exact Nat.add_div_right _ hk
   have e2 : j % k = (j - k) % k := by
    conv => lhs; rw [show j = (j - k) + k by omega]
    exact Nat.add_mod_right _ _
   exact ⟨y, by rw [e1, List.getElem?_cons_succ]; exact h1, by rw [e2]; exact h2⟩
theorem flat_len {α : Type} {k : Nat} : ∀ (L : List (List α)), (∀ x ∈ L, x.length = k) → L.flatten.length = L.length * k
 | [], _ => by simp
 | x :: L, hL => by
  rw [List.flatten_cons, List.length_append, flat_len L fun x hx => hL x (List.mem_cons_of_mem _ hx), hL x (List.mem_cons_self ..), List.length_cons, Nat.add_mul]
  omega
section
variable {H : Type} {enc : TypeId × Value → H} {w : World} {base : Nat} {spare : Nat → Bool} {held : Bool}
theorem rd_flat {t e : TypeId} {fuel : Nat} {c : Value} {x : DataW H × List MemPlace} {k : Nat} (ht : Tryz.prog.underlying t = some (.slice e)) (hk : Tryz.prog.cellsOf e = k) (hk0 : 0 < k) (h : DataW.trod enc Tryz.prog w base spare held fuel t [c] = some x) :
  ∃ (n : Nat) (ys : List (List Value × (DataW H × List MemPlace))), fuel = n + 1 ∧ Fl w k c ys.length (ys.map (·.1)).flatten ∧ (∀ y ∈ ys, y.1.length = k ∧ DataW.trod enc Tryz.prog w base spare held n e y.1 = some y.2) ∧ Rows.uptoBulkAll (ys.map (·.2.1)) + 1 ≤ Rows.uptoBulk x.1 := by
 rcases DataW.trod_slice ht h with ⟨h0, rfl⟩ | ⟨a, len, cap, elems, rest, n, hn, hc, rfl, hb, hl, hm, hlen, hel, -, -⟩
 ·injection h0 with h0
  cases fuel with
  | zero => simp [DataW.trod] at h
  | succ n => exact ⟨n, [], rfl, ⟨by simp, none, 0, h0, Nat.le_refl _, by omega, .inl rfl⟩, fun y hy => (List.not_mem_nil hy).elim, by simp [Rows.uptoBulkAll, Rows.uptoBulk]⟩
 ·injection hc with hc
  subst hk
  have hE : ∀ i, i < len → ∃ y : List Value × (DataW H × List MemPlace), elems[i]? = some y.2 ∧ y.1.length = Tryz.prog.cellsOf e ∧ DataW.trod enc Tryz.prog w base spare held n e y.1 = some y.2 ∧ ∀ j u, y.1[j]? = some u → w.cell? (a.add (i * Tryz.prog.cellsOf e + j)) = some u := fun i hi => by
   have h1 := hel i hi
   rw [List.getElem?_eq_getElem (by omega : i < elems.length)] at h1
   obtain ⟨cs', hc', ht'⟩ := Option.bind_eq_some_iff.1 h1
   obtain ⟨_, hl', hat⟩ := World.cells?_some hc'
   refine ⟨(cs', _), List.getElem?_eq_getElem (by omega), hl', ht', fun j u hj => ?_⟩
   have hjk : j < Tryz.prog.cellsOf e := by rw [← hl']; exact (List.getElem?_eq_some_iff.1 hj).1
   rw [← hj, ← hat j hjk, add_add]
  obtain ⟨ys, hys, hp⟩ := pick_list len hE
  have hp2 : ∀ y ∈ ys, y.1.length = Tryz.prog.cellsOf e ∧ DataW.trod enc Tryz.prog w base spare held n e y.1 = some y.2 := fun y hy => by
   obtain ⟨j, hj, e⟩ := List.getElem_of_mem hy
   have := hp j y (by rw [List.getElem?_eq_getElem hj, e])
   exact ⟨this.2.1, this.2.2.1⟩
  have hL : ∀ x ∈ ys.map (·.1), x.length = Tryz.prog.cellsOf e := fun x hx => by
   obtain ⟨y, hy, rfl⟩ := List.mem_map.1 hx
   exact (hp2 y hy).1
  have hmap : ys.map (·.2) = elems := by
   apply List.ext_getElem?
   intro j
   rw [List.getElem?_map]
   by_cases hj : j < ys.length
   ·rw [List.getElem?_eq_getElem hj]
    exact (hp j _ (List.getElem?_eq_getElem hj)).1.symm
   ·rw [List.getElem?_eq_none (by omega), List.getElem?_eq_none (by omega)]; rfl
  refine ⟨n, ys, hn, ⟨by rw [flat_len _ hL, List.length_map], some a, cap, by rw [hys]; exact hc, by omega, by unfold maxLen at hm; omega, ?_⟩, hp2, ?_⟩
  ·rcases Nat.eq_zero_or_pos ys.length with h0 | h0
   ·exact .inl h0
   ·have hcell : ∀ j u, (ys.map (·.1)).flatten[j]? = some u → w.cell? (a.add j) = some u := fun j u hj => by
     obtain ⟨x, h1, h2⟩ := flat_get _ hL j u hj hk0
     rw [List.getElem?_map] at h1
     obtain ⟨y, hy, rfl⟩ := Option.map_eq_some_iff.1 h1
     have := (hp _ y hy).2.2.2 _ u h2
     rwa [Nat.div_add_mod'] at this
    obtain ⟨y0, hy0⟩ : ∃ y, ys[0]? = some y := ⟨_, List.getElem?_eq_getElem h0⟩
    have h1 := (hp2 y0 (List.mem_of_getElem? hy0)).1
    obtain ⟨u0, hu0⟩ : ∃ u, y0.1[0]? = some u := ⟨_, List.getElem?_eq_getElem (by omega)⟩
    have h2 := (hp 0 y0 hy0).2.2.2 0 u0 hu0
    have e0 : a.add (0 * Tryz.prog.cellsOf e + 0) = a := by rw [Nat.zero_mul]; exact if_pos rfl
    rw [e0] at h2
    obtain ⟨b, o, rfl⟩ := rd_plain h2
    refine .inr ⟨b, o, rfl, fun j u hj => ?_⟩
    have := hcell j u hj
    rwa [rd_add] at this
  ·have : ys.map (·.2.1) = elems.map (·.1) := by rw [← hmap, List.map_map]; rfl
   rw [this]
   simp only [Rows.uptoBulk]
   omega
theorem rd_struct' {t : TypeId} {fs : Array Field} {cs : List Value} {fuel : Nat} {x : DataW H × List MemPlace} (ht : Tryz.prog.underlying t = some (.struct fs)) (h : DataW.trod enc Tryz.prog w base spare held fuel t cs = some x) :
  cs.length = Tryz.prog.cellsOf t ∧ ∃ n, fuel = n + 1 ∧ ∃ xs : List (DataW H × List MemPlace), xs.length = fs.size ∧ Rows.uptoBulk x.1 = Rows.uptoBulkAll (xs.map (·.1)) + 1 ∧ ∀ (i : Nat) (f : Field), fs[i]? = some f → ∃ y, xs[i]? = some y ∧ ∀ k, Tryz.prog.cellsOf f.type = k → DataW.trod enc Tryz.prog w base spare held n f.type ((cs.drop f.offset).take k) = some y := by
 obtain ⟨xs, n, hn, rfl, hlen, hx, hf⟩ := DataW.trod_struct ht h
 refine ⟨hlen, n, hn, xs, hx, by simp only [Rows.uptoBulk], fun i f hi => ?_⟩
 have hlt : i < xs.length := by rw [hx]; exact (Array.getElem?_eq_some_iff.1 hi).1
 refine ⟨xs[i], List.getElem?_eq_getElem hlt, fun k hk => ?_⟩
 subst hk
 rw [hf i f hi]; exact List.getElem?_eq_getElem hlt
theorem rd_string' {t : TypeId} {c : Value} {n : Nat} {y : DataW H × List MemPlace} (ht : Tryz.prog.underlying t = some .string) (h : DataW.trod enc Tryz.prog w base spare held n t [c] = some y) : ∃ s : ByteArray, c = .string s ∧ s.size + 1 = Rows.uptoBulk y.1 := by
 obtain ⟨s, hz, rfl, _⟩ := DataW.trod_string ht h
 injection hz with hz
 refine ⟨s, hz, ?_⟩
 simp [Rows.uptoBulk]
end
end
end Go.Proofs.YtbdllefnghddcaaGreatDoor
