/- STATS: the reference's Waits: plain part, appending. -/
import Derived.Test.YtejehjlegfpgbaaStatsRefD
namespace Go.Proofs.Ytejehjlegfpgbaa
open Go Go.RowKit Go.Maps

/-- v reads as the numbers l -/
def Il (w : World) (v : Value) (l : List Int) : Prop := ∃ p cap, v = .slice p l.length cap ∧ l.length ≤ cap ∧ cap ≤ 9223372036854775807 ∧ (0 < l.length → ∃ b o, p = some ⟨b, o, none⟩ ∧ ∀ j x, l[j]? = some x → w.cell? ⟨b, o + j, none⟩ = some (.int .i64 x))
theorem il_of_own {w : World} {base : Nat} {v : Value} {l : List Int} (h : w.ownsRow base 2 1 v l.length (l.map (Value.int .i64))) : Il w v l := by
  rcases h.2 with ⟨rfl, h0⟩ | ⟨g, cap, cur, rfl, hb, hg, h1, h2, h3, h4⟩
  · exact ⟨none, 0, by rw [h0], by omega, by omega, fun h => by omega⟩
  · refine ⟨_, cap, rfl, h1, by unfold maxLen at h2; omega, fun _ => ⟨g, 0, rfl, fun j x hj => ?_⟩⟩
    have hj' : j < l.length := (List.getElem?_eq_some_iff.1 hj).1
    have := h.cellAt j (by omega)
    rw [Nat.zero_add, this, List.getElem?_map, hj]; rfl
theorem Il.below {w w' : World} {v : Value} {l : List Int} (h : Il w v l) (hb : Below w.heap.size w w') : Il w' v l := by
  obtain ⟨p, cap, hv, h1, h2, h3⟩ := h
  refine ⟨p, cap, hv, h1, h2, fun hn => ?_⟩
  obtain ⟨b, o, hp, hc⟩ := h3 hn
  exact ⟨b, o, hp, fun j x hj => (hb.cell (World.block_lt_of_cell? w _ (hc j x hj))).trans (hc j x hj)⟩
theorem Il.cut {w : World} {v : Value} {l : List Int} (h : Il w v l) {i : Nat} (hi : i ≤ l.length) :
    ∃ q cq, (∀ w' : World, Sem.run Try.prog (Instr.slice 32 v none (some (Value.int .i64 (i : Nat))) none) w' = .ok (.slice q i cq) w') ∧ Il w (.slice q i cq) (l.take i) := by
  obtain ⟨p, cap, rfl, h1, h2, h3⟩ := h
  have e : (l.take i).length = i := by rw [List.length_take]; omega
  refine ⟨p, cap, fun w' => ?_, ⟨p, cap, by rw [e], by rw [e]; omega, h2, fun hn => ?_⟩⟩
  · have c1 : (i : Int) ≤ (cap : Int) := by omega
    have c2 : (0 : Int) ≤ (i : Int) := by omega
    cases p <;> go_simp
  · rw [e] at hn
    obtain ⟨b, o, hp, hc⟩ := h3 (by omega)
    refine ⟨b, o, hp, fun j x hj => hc j x ?_⟩
    rw [List.getElem?_take] at hj
    split at hj
    · exact hj
    · cases hj
theorem Il.rest {w : World} {v : Value} {l : List Int} (h : Il w v l) {i : Nat} (hi : i ≤ l.length) :
    ∃ q cq, (∀ w' : World, Sem.run Try.prog (Instr.slice 32 v (some (Value.int .i64 (i : Nat))) none none) w' = .ok (.slice q (l.length - i) cq) w') ∧ Il w (.slice q (l.length - i) cq) (l.drop i) := by
  obtain ⟨p, cap, rfl, h1, h2, h3⟩ := h
  have e : (l.drop i).length = l.length - i := List.length_drop
  refine ⟨if cap = i then p else p.map (·.add i), cap - i, fun w' => ?_, ⟨_, cap - i, by rw [e], by rw [e]; omega, by omega, fun hn => ?_⟩⟩
  · have c1 : (i : Int) ≤ (l.length : Int) := by omega
    have c2 : (l.length : Int) ≤ (cap : Int) := by omega
    have c3 : (0 : Int) ≤ (i : Int) := by omega
    by_cases h0 : cap = i
    · subst h0
      have : l.length = cap := by omega
      rw [this] at *
      go_simp
    · cases p <;> go_simp
  · rw [e] at hn
    obtain ⟨b, o, rfl, hc⟩ := h3 (by omega)
    rw [if_neg (by omega)]
    refine ⟨b, o + i, ?_, fun j x hj => ?_⟩
    · show some (Addr.add _ _) = _
      unfold Addr.add; split <;> simp_all
    · rw [List.getElem?_drop] at hj
      have := hc _ x hj
      rwa [← Nat.add_assoc] at this

theorem run_append_il (w : World) (base : Nat) (ty : TypeId) (i : TypeInfo) (hi : Try.prog.info? 2 = some i) (hz0 : i.zero = some (.int .i64 0)) (hz1 : i.size = 1) (hz2 : i.bytes = 8)
    (v : Value) (n : Nat) (xs : List Value) (hown : w.ownsRow base 2 1 v n xs) (src : Value) (l : List Int) (hS : Il w src l) (hn : n + l.length ≤ 1000000000) (hbase : base ≤ w.heap.size) :
    ∃ v' w', (Builtin.append_ #[32, 32] ty #[v, src]).run Try.prog w = .ok v' w' ∧ w'.ownsRow base 2 1 v' (n + l.length) (xs ++ l.map (Value.int .i64)) ∧ w.grownBy w' v.ownBlock := by
  obtain ⟨p, cap, rfl, hc1, hc2, hcells⟩ := hS
  by_cases hl : l = []
  · subst hl
    refine ⟨v, w, ?_, by simpa using hown, ⟨rfl, rfl, rfl, Nat.le_refl _, fun _ _ _ => rfl⟩⟩
    rcases hown.2 with ⟨rfl, rfl⟩ | ⟨g, cp, cur, rfl, hb, hg, hnc, hm, hs, ht⟩
    · cases p <;> simp [Builtin.append_, run_underlying Try.underlying32, sizeOf, typeInfo, hi, Builtin.lenOf, Builtin.firstCells, loadCells, loadCellsFrom]
    · cases p <;> simp [Builtin.append_, run_underlying Try.underlying32, sizeOf, typeInfo, hi, Builtin.lenOf, Builtin.firstCells, loadCells, loadCellsFrom, hnc, storeCells]
  · obtain ⟨b, o, rfl, hcell⟩ := hcells (List.length_pos_iff.2 hl)
    obtain ⟨v', w', h1, h2, h3, _⟩ := run_append_own (P := Try.prog) w base 32 ty 2 i (.int .i64 0) 1 8 Try.underlying32 hi hz0 hz1 hz2 rfl (by decide) v n xs hown ⟨b, o, none⟩ l.length cap (l.map (Value.int .i64)) (by simp)
      (fun j u hj => by
        rw [List.getElem?_map] at hj
        obtain ⟨x, hx, rfl⟩ := Option.map_eq_some_iff.1 hj
        have hadd : (⟨b, o, none⟩ : Addr).add j = ⟨b, o + j, none⟩ := by unfold Addr.add; split <;> simp_all
        rw [hadd]; exact hcell j x hx)
      (fun u hu => by obtain ⟨x, _, rfl⟩ := List.mem_map.1 hu; rfl) (by unfold maxLen; omega) (by omega) hbase
    exact ⟨v', w', h1, h2, h3⟩
theorem wpList_append_il {ops : Array Oper} {rest : List Oper} {o : Oper} {a : Act} {Q : Exit → Act → World → Prop} (w : World) (hgd : o.guard = none) (s x : Operand)
    (ho : o.op = .call { callee := .builtin .append, args := #[s, x], argTypes := #[32, 32] })
    (base : Nat) (i : TypeInfo) (hi : Try.prog.info? 2 = some i) (hz0 : i.zero = some (.int .i64 0)) (hz1 : i.size = 1) (hz2 : i.bytes = 8)
    (v : Value) (n : Nat) (xs : List Value) (hs : a.eval s = v) (hown : w.ownsRow base 2 1 v n xs) (src : Value) (hx : a.eval x = src) (l : List Int) (hS : Il w src l)
    (hn : n + l.length ≤ 1000000000) (hbase : base ≤ w.heap.size)
    (h : ∀ v' w', w'.ownsRow base 2 1 v' (n + l.length) (xs ++ l.map (Value.int .i64)) → w.grownBy w' v.ownBlock → wpList Try.prog ops Q rest (a.put o.dst v') w') : wpList Try.prog ops Q (o :: rest) a w := by
  refine wpList_plain hgd fun K hK => ?_
  obtain ⟨v', w', hr, h2, h3⟩ := run_append_il w base o.type i hi hz0 hz1 hz2 v n xs hown src l hS hn hbase
  unfold Oper.wp execOp
  simp only [ho, resolve, invoke, builtin, Sem.run_bind, Sem.run_pure, Result.andThen_ok, List.map_toArray, List.map_cons, List.map_nil, hs, hx, hr]
  exact hK _ _ (h v' w' h2 h3)

/-- where a wait is set -/
def twl (w : Int) (l : List Int) : Nat := (l.takeWhile (fun x => decide (x ≤ w))).length
theorem twl_le (w : Int) (l : List Int) : twl w l ≤ l.length := by
  have h := congrArg List.length (List.takeWhile_append_dropWhile (p := fun x => decide (x ≤ w)) (l := l))
  rw [List.length_append] at h; unfold twl; omega
theorem take_twl (w : Int) (l : List Int) : l.take (twl w l) = l.takeWhile (fun x => decide (x ≤ w)) := by
  have h := List.takeWhile_append_dropWhile (p := fun x => decide (x ≤ w)) (l := l)
  have : (l.takeWhile (fun x => decide (x ≤ w)) ++ l.dropWhile (fun x => decide (x ≤ w))).take (twl w l) = l.takeWhile (fun x => decide (x ≤ w)) := List.take_left' rfl
  rwa [h] at this
theorem drop_twl (w : Int) (l : List Int) : l.drop (twl w l) = l.dropWhile (fun x => decide (x ≤ w)) := by
  have h := List.takeWhile_append_dropWhile (p := fun x => decide (x ≤ w)) (l := l)
  have : (l.takeWhile (fun x => decide (x ≤ w)) ++ l.dropWhile (fun x => decide (x ≤ w))).drop (twl w l) = l.dropWhile (fun x => decide (x ≤ w)) := List.drop_left' rfl
  rwa [h] at this
theorem insW_twl (w : Int) (l : List Int) : insW w l = l.take (twl w l) ++ [w] ++ l.drop (twl w l) := by
  rw [take_twl, drop_twl]; unfold insW; simp
theorem twl_lt {w : Int} {l : List Int} {j : Nat} (h : j < twl w l) : ∃ x, l[j]? = some x ∧ x ≤ w := by
  have hl := twl_le w l
  refine ⟨l[j]'(by omega), List.getElem?_eq_getElem _, ?_⟩
  have h1 : (l.takeWhile (fun x => decide (x ≤ w)))[j]? = l[j]? := by rw [← take_twl, List.getElem?_take_of_lt h]
  rw [List.getElem?_eq_getElem (show j < l.length by omega)] at h1
  have := List.mem_of_getElem? h1
  have := List.all_eq_true.1 (List.all_takeWhile (p := fun x => decide (x ≤ w)) (l := l)) _ this
  exact of_decide_eq_true this
theorem twl_stop {w : Int} : ∀ {l : List Int}, twl w l < l.length → ∃ x, l[twl w l]? = some x ∧ ¬ x ≤ w := by
  intro l
  induction l with
  | nil => intro h; simp at h
  | cons a l ih =>
    intro h
    by_cases ha : a ≤ w
    · have e : twl w (a :: l) = twl w l + 1 := by unfold twl; rw [List.takeWhile_cons]; simp [ha]
      rw [e] at h ⊢
      simpa using ih (by simpa using h)
    · have e : twl w (a :: l) = 0 := by unfold twl; rw [List.takeWhile_cons]; simp [ha]
      rw [e]
      exact ⟨a, rfl, ha⟩
/-- the rows of the reference -/
def refW (n : Nat) (R : Nat → List Int) (e : Ev) (wt : Option Int) : Nat → List Int :=
  if e.k = 7 ∧ InR n e.h then match wt with | none => R | some x => upd R e.h.toNat (insW x (R e.h.toNat)) else R
def refWs (n : Nat) (l : List Ev) : Nat → Nat → List Int
  | 0 => fun _ => []
  | k + 1 => match l[k]? with
    | none => refWs n l k
    | some e => refW n (refWs n l k) e (waitR l k e)
theorem refWs_snoc (N : Nat) (l : List Ev) (k : Nat) (e : Ev) (h : l[k]? = some e) : refWs N l (k + 1) = refW N (refWs N l k) e (waitR l k e) := by
  show (match l[k]? with | none => _ | some e => _) = _
  rw [h]
theorem refWs_len (N : Nat) (l : List Ev) (r : Nat) : ∀ k, (refWs N l k r).length ≤ k := by
  intro k
  induction k with
  | zero => exact Nat.le_refl _
  | succ k ih =>
    cases he : l[k]? with
    | none =>
      have : refWs N l (k + 1) = refWs N l k := by show (match l[k]? with | none => _ | some e => _) = _; rw [he]
      rw [this]; omega
    | some e =>
      rw [refWs_snoc N l k e he]
      unfold refW
      split
      · cases waitR l k e with
        | none => dsimp only; omega
        | some x =>
          dsimp only
          unfold upd
          split
          case isTrue h => subst h; have := (insW_perm x (refWs N l k e.h.toNat)).length_eq; simp at this; omega
          case isFalse => omega
      · omega
theorem stepS_w7 (n : Nat) (s : St) {e : Ev} (h7 : ¬ e.k = 7) : (stepS n s e).w = s.w := by
  unfold stepS
  by_cases h1 : e.k = 1
  · rw [if_pos h1]
  · rw [if_neg h1, if_neg h7]
    cases kindF e.k with
    | none => rfl
    | some j => dsimp only; split <;> rfl
theorem refWs_eq {n : Nat} {l : List Ev} : ∀ k, k ≤ l.length → ∀ r, Up (refWs n l k r) ∧ (refWs n l k r).Perm ((readS n (l.take k)).w r) := by
  intro k
  induction k with
  | zero => intro _ r; exact ⟨List.Pairwise.nil, .refl _⟩
  | succ k ih =>
    intro hk r
    have ih := ih (by omega)
    have he : l[k]? = some l[k] := List.getElem?_eq_getElem (by omega)
    rw [refWs_snoc n l k _ he, readS_snoc n l k _ he]
    have e2 : waitR l k l[k] = ((readS n (l.take k)).f l[k].i).map fun t => max (l[k].a - t) 0 := by unfold waitR; rw [readS_f]
    rw [e2]
    generalize l[k] = e
    generalize refWs n l k = R at *
    generalize readS n (l.take k) = s at *
    by_cases h7 : e.k = 7
    · unfold refW stepS
      rw [if_neg (by omega : ¬ e.k = 1), if_pos h7]
      unfold doneS
      by_cases hr : InR n e.h
      · rw [if_pos ⟨h7, hr⟩, if_pos hr]
        cases s.f e.i with
        | none => exact ih r
        | some t =>
          dsimp only [Option.map]
          unfold upd
          by_cases hre : r = e.h.toNat
          · rw [if_pos hre, if_pos hre]
            subst hre
            exact ⟨insW_up _ _ (ih _).1, (insW_perm _ _).trans ((ih _).2.append_right _)⟩
          · rw [if_neg hre, if_neg hre]; exact ih r
      · rw [if_neg (fun h => hr h.2), if_neg hr]; exact ih r
    · rw [stepS_w7 n s h7]
      unfold refW
      rw [if_neg (fun h => h7 h.1)]; exact ih r
theorem refWs_srt (n : Nat) (l : List Ev) (r : Nat) : refWs n l l.length r = srt ((readS n l).w r) := by
  have h := refWs_eq (n := n) (l := l) l.length (Nat.le_refl _) r
  rw [List.take_length] at h
  exact (srt_of h.1 h.2).symm
/-- a new row is stored -/
theorem WR.store {w w' : World} {base gW n : Nat} {V : Nat → Value} {rows : Nat → List Int} (h : WR w base gW n V rows) {r : Nat} (hr : r < n) {v : Value} {l : List Int} (hb : Below w.heap.size w w') (ho : w'.ownsRow w.heap.size 2 1 v l.length (l.map (Value.int .i64))) :
    WR (w'.setCell ⟨gW, r, none⟩ v) base gW n (upd V r v) (upd rows r l) := by
  have h' := h.below hb
  obtain ⟨c1, h1, h2, h3⟩ := h'.wt
  have hl := h.lt
  have hgs : w'.grownBy (w'.setCell ⟨gW, r, none⟩ v) (some gW) := ⟨rfl, rfl, rfl, by simp [World.setCell], fun k hk hne => Below.heap_setCell w' ⟨gW, r, none⟩ _ k (fun e => hne (by rw [e]))⟩
  have far : ∀ {b : Nat} {x : Value}, (∀ k, x.ownBlock = some k → b ≤ k) → gW < b → x.ownBlock = none ∨ x.ownBlock ≠ some gW := fun {b x} hx hlt => by
    cases hv : x.ownBlock with
    | none => exact .inl rfl
    | some k => exact .inr (fun e => by injection e with e; have := hx k hv; omega)
  refine ⟨⟨hl.1, Nat.le_trans hl.2 (Nat.le_trans hb.size hgs.size)⟩, ⟨c1.setIfInBounds r v, heap_setCell_same w' gW r _ _ _ h1, by simpa using h2, fun i hi => ?_⟩, fun i hi => ?_, fun i i' hi hi' hne => ?_⟩
  · show _ = some (upd V r v i)
    by_cases e : i = r
    · subst e; rw [upd_same, Array.getElem?_setIfInBounds_self_of_lt (by omega)]
    · rw [upd_other _ _ e, Array.getElem?_setIfInBounds_ne (fun h => e h.symm)]; exact h3 i hi
  · by_cases e : i = r
    · subst e; rw [upd_same, upd_same]
      have hh := ho.kept hgs (far (fun k hk => (ho.lt k hk).1) (by omega))
      refine ⟨hh.1, hh.2.imp id ?_⟩
      rintro ⟨g, cap, cur, a, b, c⟩
      exact ⟨g, cap, cur, a, by omega, c⟩
    · rw [upd_other _ _ e, upd_other _ _ e]; exact (h'.own i hi).kept hgs (far (fun k hk => ((h'.own i hi).lt k hk).1) hl.1)
  · have key : ∀ i, i < n → ∀ k, (V i).ownBlock = some k → k < w.heap.size := fun i hi k hk => ((h.own i hi).lt k hk).2
    by_cases e : i = r
    · subst e
      rw [upd_same, upd_other _ _ (Ne.symm hne)]
      cases hv : v.ownBlock with
      | none => exact .inl rfl
      | some k => exact .inr (fun e1 => by have := (ho.lt k hv).1; have := key i' hi' k e1.symm; omega)
    · rw [upd_other _ _ e]
      by_cases e' : i' = r
      · subst e'
        rw [upd_same]
        cases hv : (V i).ownBlock with
        | none => exact .inl rfl
        | some k => exact .inr (fun e1 => by have := (ho.lt k e1.symm).1; have := key i hi k hv; omega)
      · rw [upd_other _ _ e']; exact h.ds i i' hi hi' hne
theorem wr_made (w : World) (N : Nat) : WR (w.alloc (.cells (madeCells #[.slice none 0 0] N) 32)) (w.heap.size + 1) w.heap.size N (fun _ => .slice none 0 0) (fun _ => []) :=
  ⟨⟨by omega, by simp⟩, ⟨_, heap_alloc_new w _, size_madeCells _ _, fun h hh => made1 _ _ hh⟩, fun _ _ => World.ownsRow_nil _ _ _ _, fun _ _ _ _ _ => .inl rfl⟩
end Go.Proofs.Ytejehjlegfpgbaa
