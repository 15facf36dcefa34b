/- SLICES AS FLAT CELLS: a slice of n elements of k cells each; parts of it; 'append(own, part...)'. -/
import Derived.Maps.AppendAt
import Derived.WalkKit
import Derived.ProofKit
import Derived.Test.YtflomcbclofbaaaDoorProg
namespace Go.Proofs.YtflomcbclofbaaaDoor
open Go Go.RowKit
section
variable {P : Program}

/-- v is a slice of n elements of k cells each; cs: the cells -/
def Fl (w : World) (k : Nat) (v : Value) (n : Nat) (cs : List Value) : Prop :=
  cs.length = n * k ∧ ∃ p cap, v = .slice p n cap ∧ n ≤ cap ∧ cap ≤ 9223372036854775807 ∧ (n = 0 ∨ ∃ b o, p = some ⟨b, o, none⟩ ∧ ∀ j u, cs[j]? = some u → w.cell? ⟨b, o + j, none⟩ = some u)
theorem Fl.below {w w' : World} {k n : Nat} {v : Value} {cs : List Value} (h : Fl w k v n cs) (hb : Below w.heap.size w w') : Fl w' k v n cs := by
  obtain ⟨h0, p, cap, rfl, h1, h2, h3⟩ := h
  refine ⟨h0, p, cap, rfl, h1, h2, ?_⟩
  rcases h3 with h3 | ⟨b, o, rfl, h3⟩
  · exact .inl h3
  · exact .inr ⟨b, o, rfl, fun j u hj => (hb.cell (World.block_lt_of_cell? w _ (h3 j u hj))).trans (h3 j u hj)⟩
theorem Fl.of_own {w : World} {base k n : Nat} {e : TypeId} {v : Value} {cs : List Value} (h : w.ownsRow base e k v n cs) : Fl w k v n cs := by
  refine ⟨h.1, ?_⟩
  rcases h.2 with ⟨rfl, rfl⟩ | ⟨g, cap, cur, rfl, -, -, h3, h4, -, -⟩
  · exact ⟨none, 0, rfl, Nat.le_refl _, by omega, .inl rfl⟩
  · refine ⟨_, cap, rfl, h3, by unfold maxLen at h4; omega, .inr ⟨g, 0, rfl, fun j u hj => ?_⟩⟩
    have hjl : j < n * k := by rw [← h.1]; exact (List.getElem?_eq_some_iff.1 hj).1
    rw [Nat.zero_add, h.cellAt j hjl, hj]
theorem Fl.form {w : World} {k n : Nat} {v : Value} {cs : List Value} (h : Fl w k v n cs) : ∃ q c, v = .slice q n c := by
  obtain ⟨-, p, cap, rfl, -⟩ := h
  exact ⟨_, _, rfl⟩
theorem row_of_heap {W W' : World} {base k n : Nat} {e : TypeId} {v : Value} {cs : List Value} (h : W.ownsRow base e k v n cs) (hk : ∀ b, v.ownBlock = some b → W'.heap[b]? = W.heap[b]?) : W'.ownsRow base e k v n cs := by
  refine ⟨h.1, ?_⟩
  rcases h.2 with h2 | ⟨g, cap, cur, rfl, h3, h4, h5⟩
  · exact .inl h2
  · exact .inr ⟨g, cap, cur, rfl, h3, (hk g rfl).trans h4, h5⟩
theorem flat_add (b o j : Nat) : (⟨b, o, none⟩ : Addr).add j = ⟨b, o + j, none⟩ := by unfold Addr.add; split <;> simp_all
/-- v[:i] -/
theorem Fl.cut {w : World} {k n : Nat} {v : Value} {cs : List Value} (h : Fl w k v n cs) (t e : TypeId) (inf : TypeInfo) (ht : P.underlying t = some (.slice e)) (hi : P.info? e = some inf) {i : Nat} (hin : i ≤ n) :
    ∃ q cq, (∀ w' : World, Sem.run P (Instr.slice t v none (some (Value.int .i64 (i : Nat))) none) w' = .ok (.slice q i cq) w') ∧ Fl w k (.slice q i cq) i (cs.take (i * k)) := by
  obtain ⟨h0, p, cap, rfl, h1, h2, h3⟩ := h
  have hle : i * k ≤ n * k := Nat.mul_le_mul_right _ hin
  refine ⟨p, cap, fun w' => ?_, by rw [List.length_take, h0]; omega, p, cap, rfl, by omega, h2, ?_⟩
  · have c1 : (i : Int) ≤ (cap : Int) := by omega
    have c2 : (0 : Int) ≤ (i : Int) := by omega
    simp [Instr.slice, run_underlying ht, Instr.sliceBounds, run_sliceBound, c1, c2, sizeOf, typeInfo, hi]
    intro _; cases p <;> simp [Addr.add]
  · rcases h3 with h3 | ⟨b, o, rfl, h3⟩
    · exact .inl (by omega)
    · refine .inr ⟨b, o, rfl, fun j u hj => h3 j u ?_⟩
      rw [List.getElem?_take] at hj
      split at hj
      · exact hj
      · cases hj
/-- v[i:] -/
theorem Fl.rest {w : World} {k n : Nat} {v : Value} {cs : List Value} (h : Fl w k v n cs) (t e : TypeId) (inf : TypeInfo) (ht : P.underlying t = some (.slice e)) (hi : P.info? e = some inf) (hk : inf.size = k) {i : Nat} (hin : i ≤ n) :
    ∃ q cq, (∀ w' : World, Sem.run P (Instr.slice t v (some (Value.int .i64 (i : Nat))) none none) w' = .ok (.slice q (n - i) cq) w') ∧ Fl w k (.slice q (n - i) cq) (n - i) (cs.drop (i * k)) := by
  obtain ⟨h0, p, cap, rfl, h1, h2, h3⟩ := h
  have hle : i * k ≤ n * k := Nat.mul_le_mul_right _ hin
  refine ⟨if cap = i then p else p.map (·.add (i * k)), cap - i, fun w' => ?_, by rw [List.length_drop, h0, Nat.sub_mul], _, cap - i, rfl, by omega, by omega, ?_⟩
  · have c1 : (i : Int) ≤ (n : Int) := by omega
    have c2 : (0 : Int) ≤ (i : Int) := by omega
    simp [Instr.slice, run_underlying ht, Instr.sliceBounds, run_sliceBound, c1, c2, sizeOf, typeInfo, hi, hk]
  · by_cases hn : n - i = 0
    · exact .inl hn
    · rcases h3 with h3 | ⟨b, o, rfl, h3⟩
      · omega
      · rw [if_neg (by omega)]
        refine .inr ⟨b, o + i * k, by rw [Option.map_some, flat_add], fun j u hj => ?_⟩
        rw [List.getElem?_drop] at hj
        have := h3 _ u hj
        rwa [← Nat.add_assoc] at this
theorem run_append_fl (w : World) (base k bytes : Nat) (t ty e : TypeId) (i : TypeInfo) (z : Value) (ht : P.underlying t = some (.slice e)) (hi : P.info? e = some i) (hz0 : i.zero = some z) (hz1 : i.size = k) (hz2 : i.bytes = bytes) (hzs : z.cells.size = k) (hk : 0 < k)
    (v : Value) (n : Nat) (xs : List Value) (hown : w.ownsRow base e k v n xs) (src : Value) (m : Nat) (cs : List Value) (hS : Fl w k src m cs) (h1 : ∀ u ∈ cs, u.oneCell' = true) (hn : n + m ≤ maxLen) (hby : (n + m) * bytes ≤ 140737488355328) (hbase : base ≤ w.heap.size) :
    ∃ v' w', (Builtin.append_ #[t, t] ty #[v, src]).run P w = .ok v' w' ∧ w'.ownsRow base e k v' (n + m) (xs ++ cs) ∧ w.grownBy w' v.ownBlock ∧ (v'.ownBlock = v.ownBlock ∨ v'.ownBlock = some w.heap.size) := by
  obtain ⟨hcl, p, cap, rfl, hc1, hc2, hcells⟩ := hS
  by_cases hm : m = 0
  · subst hm
    have hcs : cs = [] := List.eq_nil_of_length_eq_zero (by rw [hcl, Nat.zero_mul])
    subst hcs
    refine ⟨v, w, ?_, by simpa using hown, ⟨rfl, rfl, rfl, Nat.le_refl _, fun _ _ _ => rfl⟩, .inl rfl⟩
    rcases hown.2 with ⟨rfl, rfl⟩ | ⟨g, cp, cur, rfl, hb, hg, hnc, hmm, hs, htk⟩
    · cases p <;> simp [Builtin.append_, run_underlying ht, sizeOf, typeInfo, hi, Builtin.lenOf, Builtin.firstCells, loadCells, loadCellsFrom]
    · cases p <;> simp [Builtin.append_, run_underlying ht, sizeOf, typeInfo, hi, Builtin.lenOf, Builtin.firstCells, loadCells, loadCellsFrom, hnc, storeCells]
  · obtain ⟨b, o, rfl, hcell⟩ := hcells.resolve_left hm
    obtain ⟨v', w', q1, q2, q3, -, q5⟩ := run_append_own_at (P := P) w base t ty e i z k bytes ht hi hz0 hz1 hz2 hzs hk v n xs hown ⟨b, o, none⟩ m cap cs hcl (fun j u hj => by rw [flat_add]; exact hcell j u hj) h1 hn hby hbase
    exact ⟨v', w', q1, q2, q3, q5⟩
/-- 'append(own, part...)' at the operation -/
theorem wpList_append_fl {ops : Array Oper} {rest : List Oper} {o : Oper} {a : Act} {Q : Exit → Act → World → Prop} (w : World) (hgd : o.guard = none) (s x : Operand) (t e : TypeId)
    (ho : o.op = .call { callee := .builtin .append, args := #[s, x], argTypes := #[t, t] })
    (base k bytes : Nat) (i : TypeInfo) (z : Value) (ht : P.underlying t = some (.slice e)) (hi : P.info? e = some i) (hz0 : i.zero = some z) (hz1 : i.size = k) (hz2 : i.bytes = bytes) (hzs : z.cells.size = k) (hk : 0 < k)
    (v : Value) (n : Nat) (xs : List Value) (hs : a.eval s = v) (hown : w.ownsRow base e k v n xs) (src : Value) (hx : a.eval x = src) (m : Nat) (cs : List Value) (hS : Fl w k src m cs) (h1 : ∀ u ∈ cs, u.oneCell' = true)
    (hn : n + m ≤ maxLen) (hby : (n + m) * bytes ≤ 140737488355328) (hbase : base ≤ w.heap.size)
    (h : ∀ v' w', w'.ownsRow base e k v' (n + m) (xs ++ cs) → w.grownBy w' v.ownBlock → (v'.ownBlock = v.ownBlock ∨ v'.ownBlock = some w.heap.size) → wpList P ops Q rest (a.put o.dst v') w') : wpList P ops Q (o :: rest) a w := by
  refine wpList_plain hgd fun K hK => ?_
  obtain ⟨v', w', hr, h2, h3, h4⟩ := run_append_fl (P := P) w base k bytes t o.type e i z ht hi hz0 hz1 hz2 hzs hk v n xs hown src m cs hS h1 hn hby hbase
  unfold Oper.wp execOp
  simp only [ho, resolve, invoke, builtin, Sem.run_bind, Sem.run_pure, Result.andThen_ok, List.map_toArray, List.map_cons, List.map_nil, hs, hx, hr]
  exact hK _ _ (h v' w' h2 h3 h4)
end
end Go.Proofs.YtflomcbclofbaaaDoor
