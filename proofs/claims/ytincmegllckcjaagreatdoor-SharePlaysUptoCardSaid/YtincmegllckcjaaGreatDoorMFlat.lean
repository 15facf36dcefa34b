/- SLICES AS FLAT CELLS: a slice of n elements of k cells each; parts of it; 'append(own, part...)'. TRIE: the reference's list: Add. -/
import Derived.Maps.AppendAt
import Derived.WalkKit
import Derived.ProofKit
import Derived.Test.YtincmegllckcjaaGreatDoorProg
import Derived.WalkSmall
import Derived.Test.YtincmegllckcjaaGreatDoorMTrieAwake
namespace Go.Proofs.YtincmegllckcjaaGreatDoor
section
open Go Go.RowKit
section
variable {P : Program}

/-- v is a slice of n elements of k cells each; cs: the cells -/
def Fl (w : World) (k : Nat) (v : Value) (n : Nat) (cs : List Value) : Prop :=
  cs.length = n * k ∧ ∃ p cap, v = .slice p n cap ∧ n ≤ cap ∧ cap ≤ 9223372036854775807 ∧ (n = 0 ∨ ∃ b o, p = some ⟨b, o, none⟩ ∧ ∀ j u, cs[j]? = some u → w.cell? ⟨b, o + j, none⟩ = some u)
theorem Fl.below {w w' : World} {k n : Nat} {v : Value} {cs : List Value} (h : Fl w k v n cs) (hb : Below w.heap.size w w') : Fl w' k v n cs := by
  obtain ⟨h0, p, cap, rfl, h1, h2, h3⟩ := h
  refine ⟨h0, p, cap, rfl, h1, h2, ?_⟩
  rcases h3 with h3 | ⟨b, o, rfl, h3⟩
  · exact .inl h3
  · exact .inr ⟨b, o, rfl, fun j u hj => (hb.cell (World.block_lt_of_cell? w _ (h3 j u hj))).trans (h3 j u hj)⟩
theorem Fl.of_own {w : World} {base k n : Nat} {e : TypeId} {v : Value} {cs : List Value} (h : w.ownsRow base e k v n cs) : Fl w k v n cs := by
  refine ⟨h.1, ?_⟩
  rcases h.2 with ⟨rfl, rfl⟩ | ⟨g, cap, cur, rfl, -, -, h3, h4, -, -⟩
  · exact ⟨none, 0, rfl, Nat.le_refl _, by omega, .inl rfl⟩
  · refine ⟨_, cap, rfl, h3, by unfold maxLen at h4; omega, .inr ⟨g, 0, rfl, fun j u hj => ?_⟩⟩
    have hjl : j < n * k := by rw [← h.1]; exact (List.getElem?_eq_some_iff.1 hj).1
    rw [Nat.zero_add, h.cellAt j hjl, hj]
theorem Fl.form {w : World} {k n : Nat} {v : Value} {cs : List Value} (h : Fl w k v n cs) : ∃ q c, v = .slice q n c := by
  obtain ⟨-, p, cap, rfl, -⟩ := h
  exact ⟨_, _, rfl⟩
theorem row_of_heap {W W' : World} {base k n : Nat} {e : TypeId} {v : Value} {cs : List Value} (h : W.ownsRow base e k v n cs) (hk : ∀ b, v.ownBlock = some b → W'.heap[b]? = W.heap[b]?) : W'.ownsRow base e k v n cs := by
  refine ⟨h.1, ?_⟩
  rcases h.2 with h2 | ⟨g, cap, cur, rfl, h3, h4, h5⟩
  · exact .inl h2
  · exact .inr ⟨g, cap, cur, rfl, h3, (hk g rfl).trans h4, h5⟩
theorem flat_add (b o j : Nat) : (⟨b, o, none⟩ : Addr).add j = ⟨b, o + j, none⟩ := by unfold Addr.add; split <;> simp_all
/-- v[:i] -/
theorem Fl.cut {w : World} {k n : Nat} {v : Value} {cs : List Value} (h : Fl w k v n cs) (t e : TypeId) (inf : TypeInfo) (ht : P.underlying t = some (.slice e)) (hi : P.info? e = some inf) {i : Nat} (hin : i ≤ n) :
    ∃ q cq, (∀ w' : World, Sem.run P (Instr.slice t v none (some (Value.int .i64 (i : Nat))) none) w' = .ok (.slice q i cq) w') ∧ Fl w k (.slice q i cq) i (cs.take (i * k)) := by
  obtain ⟨h0, p, cap, rfl, h1, h2, h3⟩ := h
  have hle : i * k ≤ n * k := Nat.mul_le_mul_right _ hin
  refine ⟨p, cap, fun w' => ?_, by rw [List.length_take, h0]; omega, p, cap, rfl, by omega, h2, ?_⟩
  · have c1 : (i : Int) ≤ (cap : Int) := by omega
    have c2 : (0 : Int) ≤ (i : Int) := by omega
    simp [Instr.slice, run_underlying ht, Instr.sliceBounds, run_sliceBound, c1, c2, sizeOf, typeInfo, hi]
    intro _; cases p <;> simp [Addr.add]
  · rcases h3 with h3 | ⟨b, o, rfl, h3⟩
    · exact .inl (by omega)
    · refine .inr ⟨b, o, rfl, fun j u hj => h3 j u ?_⟩
      rw [List.getElem?_take] at hj
      split at hj
      · exact hj
      · cases hj
/-- v[i:] -/
theorem Fl.rest {w : World} {k n : Nat} {v : Value} {cs : List Value} (h : Fl w k v n cs) (t e : TypeId) (inf : TypeInfo) (ht : P.underlying t = some (.slice e)) (hi : P.info? e = some inf) (hk : inf.size = k) {i : Nat} (hin : i ≤ n) :
    ∃ q cq, (∀ w' : World, Sem.run P (Instr.slice t v (some (Value.int .i64 (i : Nat))) none none) w' = .ok (.slice q (n - i) cq) w') ∧ Fl w k (.slice q (n - i) cq) (n - i) (cs.drop (i * k)) := by
  obtain ⟨h0, p, cap, rfl, h1, h2, h3⟩ := h
  have hle : i * k ≤ n * k := Nat.mul_le_mul_right _ hin
  refine ⟨if cap = i then p else p.map (·.add (i * k)), cap - i, fun w' => ?_, by rw [List.length_drop, h0, Nat.sub_mul], _, cap - i, rfl, by omega, by omega, ?_⟩
  · have c1 : (i : Int) ≤ (n : Int) := by omega
    have c2 : (0 : Int) ≤ (i : Int) := by omega
    simp [Instr.slice, run_underlying ht, Instr.sliceBounds, run_sliceBound, c1, c2, sizeOf, typeInfo, hi, hk]
  · by_cases hn : n - i = 0
    · exact .inl hn
    · rcases h3 with h3 | ⟨b, o, rfl, h3⟩
      · omega
      · rw [if_neg (by omega)]
        refine .inr ⟨b, o + i * k, by rw [Option.map_some, flat_add], fun j u hj => ?_⟩
        rw [List.getElem?_drop] at hj
        have := h3 _ u hj
        rwa [← Nat.add_assoc] at this
theorem run_append_fl (w : World) (base k bytes : Nat) (t ty e : TypeId) (i : TypeInfo) (z : Value) (ht : P.underlying t = some (.slice e)) (hi : P.info? e = some i) (hz0 : i.zero = some z) (hz1 : i.size = k) (hz2 : i.bytes = bytes) (hzs : z.cells.size = k) (hk : 0 < k)
    (v : Value) (n : Nat) (xs : List Value) (hown : w.ownsRow base e k v n xs) (src : Value) (m : Nat) (cs : List Value) (hS : Fl w k src m cs) (h1 : ∀ u ∈ cs, u.oneCell' = true) (hn : n + m ≤ maxLen) (hby : (n + m) * bytes ≤ 140737488355328) (hbase : base ≤ w.heap.size) :
    ∃ v' w', (Builtin.append_ #[t, t] ty #[v, src]).run P w = .ok v' w' ∧ w'.ownsRow base e k v' (n + m) (xs ++ cs) ∧ w.grownBy w' v.ownBlock ∧ (v'.ownBlock = v.ownBlock ∨ v'.ownBlock = some w.heap.size) := by
  obtain ⟨hcl, p, cap, rfl, hc1, hc2, hcells⟩ := hS
  by_cases hm : m = 0
  · subst hm
    have hcs : cs = [] := List.eq_nil_of_length_eq_zero (by rw [hcl, Nat.zero_mul])
    subst hcs
    refine ⟨v, w, ?_, by simpa using hown, ⟨rfl, rfl, rfl, Nat.le_refl _, fun _ _ _ => rfl⟩, .inl rfl⟩
    rcases hown.2 with ⟨rfl, rfl⟩ | ⟨g, cp, cur, rfl, hb, hg, hnc, hmm, hs, htk⟩
    · cases p <;> simp [Builtin.append_, run_underlying ht, sizeOf, typeInfo, hi, Builtin.lenOf, Builtin.firstCells, loadCells, loadCellsFrom]
    · cases p <;> simp [Builtin.append_, run_underlying ht, sizeOf, typeInfo, hi, Builtin.lenOf, Builtin.firstCells, loadCells, loadCellsFrom, hnc, storeCells]
  · obtain ⟨b, o, rfl, hcell⟩ := hcells.resolve_left hm
    obtain ⟨v', w', q1, q2, q3, -, q5⟩ := run_append_own_at (P := P) w base t ty e i z k bytes ht hi hz0 hz1 hz2 hzs hk v n xs hown ⟨b, o, none⟩ m cap cs hcl (fun j u hj => by rw [flat_add]; exact hcell j u hj) h1 hn hby hbase
    exact ⟨v', w', q1, q2, q3, q5⟩
/-- 'append(own, part...)' at the operation -/
theorem wpList_append_fl {ops : Array Oper} {rest : List Oper} {o : Oper} {a : Act} {Q : Exit → Act → World → Prop} (w : World) (hgd : o.guard = none) (s x : Operand) (t e : TypeId)
    (ho : o.op = .call { callee := .builtin .append, args := #[s, x], argTypes := #[t, t] })
    (base k bytes : Nat) (i : TypeInfo) (z : Value) (ht : P.underlying t = some (.slice e)) (hi : P.info? e = some i) (hz0 : i.zero = some z) (hz1 : i.size = k) (hz2 : i.bytes = bytes) (hzs : z.cells.size = k) (hk : 0 < k)
    (v : Value) (n : Nat) (xs : List Value) (hs : a.eval s = v) (hown : w.ownsRow base e k v n xs) (src : Value) (hx : a.eval x = src) (m : Nat) (cs : List Value) (hS : Fl w k src m cs) (h1 : ∀ u ∈ cs, u.oneCell' = true)
    (hn : n + m ≤ maxLen) (hby : (n + m) * bytes ≤ 140737488355328) (hbase : base ≤ w.heap.size)
    (h : ∀ v' w', w'.ownsRow base e k v' (n + m) (xs ++ cs) → w.grownBy w' v.ownBlock → (v'.ownBlock = v.ownBlock ∨ v'.ownBlock = some w.heap.size) → wpList P ops Q rest (a.put o.dst v') w') : wpList P ops Q (o :: rest) a w := by
  refine wpList_plain hgd fun K hK => ?_
  obtain ⟨v', w', hr, h2, h3, h4⟩ := run_append_fl (P := P) w base k bytes t o.type e i z ht hi hz0 hz1 hz2 hzs hk v n xs hown src m cs hS h1 hn hby hbase
  unfold Oper.wp execOp
  simp only [ho, resolve, invoke, builtin, Sem.run_bind, Sem.run_pure, Result.andThen_ok, List.map_toArray, List.map_cons, List.map_nil, hs, hx, hr]
  exact hK _ _ (h v' w' h2 h3 h4)
end
end
section
open Go Go.RowKit
attribute [local go_sem ↓] Go.wp_at_zero Go.wp_at_succ

theorem info_sub : (Tryz.prog.info? 157).map (fun i => (i.zero, i.size, i.bytes)) = some (some (.agg #[.string ByteArray.empty, .int .i64 0]), 2, 24) := by kernel_rfl
theorem row_ne {W : World} {base rb n : Nat} {v : Value} {cs : Array Value} {xs : List Value} {z : Nat × Nat} (hb : W.heap[rb]? = some (.cells cs 50 z)) (h : W.ownsRow base 157 2 v n xs) : v.ownBlock ≠ some rb := by
  intro e
  rcases h.2 with ⟨rfl, -⟩ | ⟨g, cap, cur, rfl, -, hg, -⟩
  · cases e
  · have e : some g = some rb := e
    injection e with e
    subst e
    rw [hb] at hg
    injection hg with hg
    injection hg with _ hg _
    revert hg
    decide
theorem RL.ne {W : World} {base rb : Nat} {x1 x2 v : Value} {l : Subs} (h : RL W base rb x1 x2 v l) : v.ownBlock ≠ some rb := row_ne h.box h.row
/-- what a change of the list does -/
structure RLTo (w : World) (base rb : Nat) (x1 x2 v : Value) (l' : Subs) (w' : World) (v' : Value) : Prop where
  rl : RL w' base rb x1 x2 v' l'
  fr : Frame (fun b => b = rb ∨ v.ownBlock = some b) w w'
  own : ∀ b, v'.ownBlock = some b → v.ownBlock = some b ∨ w.heap.size ≤ b
theorem RL.below {W W' : World} {base rb : Nat} {x1 x2 v : Value} {l : Subs} (h : RL W base rb x1 x2 v l) (hb : Below W.heap.size W W') : RL W' base rb x1 x2 v l :=
  ⟨(hb.block rb (Array.getElem?_eq_some_iff.1 h.box).1).trans h.box, h.row.kept (row := none) ⟨hb.os, hb.tape, hb.output, hb.size, fun j hj _ => hb.block j hj⟩ (Decidable.em _), h.lo⟩
theorem subCells_append (l : Subs) (f : ByteArray) (z : Int) : subCells (l ++ [(f, z)]) = subCells l ++ [.string f, .int .i64 z] := by unfold subCells; rw [List.flatMap_append]; rfl
theorem PlaceR.in_ {l : Subs} {f : ByteArray} {z r : Int} (h : PlaceR l f z r) : 0 ≤ r ↔ (f, z) ∈ l := by
  rcases h with ⟨rfl, h⟩ | ⟨i, rfl, h⟩
  · exact ⟨fun h => by omega, fun k => absurd k h⟩
  · exact ⟨fun _ => List.mem_of_getElem? h, fun _ => by omega⟩
set_option maxRecDepth 100000 in
set_option maxHeartbeats 4000000 in
theorem refAdd_any (w : World) (base rb : Nat) (x1 x2 v : Value) (l : Subs) (f : ByteArray) (z : Int) (h : RL w base rb x1 x2 v l) (hT : Tabs w) (hf : f.size ≤ 1048576) (hl : l.length ≤ 100000000) :
    Calls Tryz.prog 77 #[.pointer (some ⟨rb, 0, none⟩), .string f, .int .i64 z] w fun e w' => ∃ (ok : Bool) (v' : Value), e = .returned (.bool ok) ∧ (ok = true ↔ filterB f = true ∧ (f, z) ∉ l) ∧ RLTo w base rb x1 x2 v (addS l f z) w' v' := by
  obtain ⟨PP, hPP⟩ : ∃ PP : Ending → World → Prop, (fun e w' => ∃ (ok : Bool) (v' : Value), e = .returned (.bool ok) ∧ (ok = true ↔ filterB f = true ∧ (f, z) ∉ l) ∧ RLTo w base rb x1 x2 v (addS l f z) w' v') = PP := ⟨_, rfl⟩
  rw [hPP]
  have HPP := Lib.hid hPP
  have CF := refFilter_any valid_said f w hf hT
  cases hF : filterB f with
  | false =>
    rw [hF] at CF
    have CF' := Lib.hid CF
    have HF := Lib.hid hF
    have HR := Lib.hid h
    clear hPP CF hF h
    go_enter Tryz.func77, Tryz.ntmps77
    go_wp2_with (go_at_call 85; refine CF'.out.mono ?_; rintro e w1 ⟨rfl, hb1⟩)
    have HB1 := Lib.hid hb1
    clear hb1
    go_wp2_with fail
    rw [← HPP.out]
    exact ⟨false, v, rfl, Iff.intro (fun h => by cases h) (fun h => by rw [HF.out] at h; cases h.1), by rw [addS_neg HF.out]; exact HR.out.below HB1.out, Frame.of_below HB1.out, fun _ hb => .inl hb⟩
  | true =>
    rw [hF] at CF
    have CF' := Lib.hid CF
    have HF := Lib.hid hF
    have HR := Lib.hid h
    clear hPP CF hF h
    go_enter Tryz.func77, Tryz.ntmps77
    go_wp2_with (go_at_call 85; refine CF'.out.mono ?_; rintro e w1 ⟨rfl, hb1⟩)
    have HB1 := Lib.hid hb1
    have HR1 := Lib.hid (HR.out.below hb1)
    clear hb1
    go_wp2_with fail
    refine (place_any _ base rb x1 x2 v l f z HR1.out hl).mono ?_
    rintro e w2 ⟨⟨r, rfl, hr⟩, hb2⟩
    have HB2 := Lib.hid (HB1.out.trans (hb2.mono HB1.out.size))
    have HR2 := Lib.hid (HR1.out.below hb2)
    have hin := hr.in_
    have HIN := Lib.hid hin
    clear hb2 hr hin
    obtain ⟨i0, hi, hz0, hz1, hz2⟩ := info_parts info_sub
    by_cases h0 : 0 ≤ r
    · go_wp2_with fail
      rw [← HPP.out]
      have hm := HIN.out.1 h0
      refine ⟨false, v, rfl, Iff.intro (fun h => by cases h) (fun h => absurd hm h.2), ?_, Frame.of_below HB2.out, fun _ hb => .inl hb⟩
      have e : addS l f z = l := by unfold addS; rw [if_neg (fun e => e.2 hm)]
      rw [e]; exact HR2.out
    · obtain ⟨q, c, hv⟩ : ∃ q c, v = .slice q l.length c := by
        rcases HR2.out.row.2 with ⟨rfl, h2⟩ | ⟨g, cap, cur, rfl, -⟩
        · exact ⟨_, _, by rw [h2]⟩
        · exact ⟨_, _, rfl⟩
      subst hv
      have c2 : w2.cell? ⟨rb, 0, none⟩ = some (.slice q l.length c) := by rw [cell_of_row w2 rb 0 _ _ _ HR2.out.box]; rfl
      have f2 := frozen_of_row w2 rb 0 _ _ HR2.out.box
      have hlb := (Array.getElem?_eq_some_iff.1 HR2.out.box).1
      have hbase : base ≤ w2.heap.size := Nat.le_trans HR2.out.lo (Nat.le_of_lt hlb)
      have hm : (f, z) ∉ l := fun hm => h0 (HIN.out.2 hm)
      have HM := Lib.hid hm
      clear hm
      go_wp2_with (at_builtin; refine wpList_append_own_at _ rfl _ _ 45 rfl base 157 i0 (.agg #[.string ByteArray.empty, .int .i64 0]) 2 24 Tryz.underlying45 hi hz0 hz1 hz2 rfl (by decide) _ _ _ rfl (HR2.out.row.alloc _) ⟨w2.heap.size, 0, none⟩ 1 1 [.string f, .int .i64 z] rfl rfl (cell_two_new _ _ _ _) (by intro u hu; simp at hu; rcases hu with rfl | rfl <;> rfl) (by unfold maxLen; omega) (by omega) (by simp; omega) ?_; intro v3 w3 hown3 hg3' hnil3 hloc; have hg3 : (w2.alloc (.cells #[.string f, .int .i64 z] 157)).grownBy w3 (Value.slice q l.length c).ownBlock := hg3'; have hbx3 : w3.heap[rb]? = some (.cells #[.slice q l.length c, x1, x2] 50 (0, 0)) := (hg3.block rb (by simp; omega) (fun e => HR2.out.ne e.symm)).trans ((Below.heap_alloc _ _ _ hlb).trans HR2.out.box); obtain ⟨g3, cap3, rfl⟩ := ownsRow_succ hown3; have hfb3 := frozen_of_row w3 rb 0 _ _ hbx3; have hlb3 := (Array.getElem?_eq_some_iff.1 hbx3).1; have cb3 : w3.cell? ⟨rb, 0, none⟩ = some (.slice q l.length c) := (by rw [cell_of_row w3 rb 0 _ _ _ hbx3]; rfl); have HOW := Lib.hid hown3; have HG3 := Lib.hid hg3; have HBX3 := Lib.hid hbx3; have HLOC := Lib.hid hloc; clear hown3 hg3 hg3' hnil3 hbx3 hloc)
      rw [← HPP.out]
      refine ⟨true, .slice (some ⟨g3, 0, none⟩) (l.length + 1) cap3, rfl, Iff.intro (fun _ => ⟨HF.out, HM.out⟩) (fun _ => rfl), ?_⟩
      rw [addS_pos HF.out HM.out]
      have hrow4 : w3.ownsRow base 157 2 (.slice (some ⟨g3, 0, none⟩) (l.length + 1) cap3) (l ++ [(f, z)]).length (subCells (l ++ [(f, z)])) := by
        rw [subCells_append, List.length_append]; exact HOW.out
      have hne : g3 ≠ rb := fun e => row_ne HBX3.out hrow4 (by rw [e]; rfl)
      refine ⟨⟨heap_setCell_same w3 rb 0 _ _ _ HBX3.out, row_of_heap hrow4 fun b hb => Below.heap_setCell _ _ _ _ (fun e => ?_), HR2.out.lo⟩, ?_, ?_⟩
      · injection hb with hb
        exact hne (hb.trans e)
      · refine Frame.trans (Frame.trans (Frame.trans (Frame.of_below HB2.out) (Frame.of_below ((Below.refl _ _).alloc (Nat.le_refl _) _))) (Frame.of_grown HG3.out (fun b hb => .inl (.inr hb)))) ((frame_set (F := fun b => b = rb) w3 rb 0 _ rfl).mono fun b hb => .inl (.inl hb))
      · intro b hb
        rcases HLOC.out with h | h
        · exact .inl (h.symm.trans hb)
        · have h9 : some b = some (w2.alloc (.cells #[.string f, .int .i64 z] 157)).heap.size := hb.symm.trans h
          injection h9 with h9
          rw [World.size_alloc] at h9
          have := HB2.out.size
          exact .inr (by omega)
end
end Go.Proofs.YtincmegllckcjaaGreatDoor
