/- ROUTE: routes put behind routes; a row of answers; the plain law of RouteTotal. -/
import Derived.Test.YtpgdiekpeceicaaDoorRouteLawB
import Derived.Test.YtpgdiekpeceicaaDoorRouteRow
namespace Go.Proofs.YtpgdiekpeceicaaDoor
open Go Go.RowKit Go.Shelf Go.Sort

/-- flat cells that read as routes -/
def RowR (w : World) (k : Nat) (cs : List Value) (l : List Rt) : Prop :=
  cs.length = l.length * 6 ∧ (∀ u ∈ cs, u.oneCell' = true) ∧ ∀ j r, l[j]? = some r → ∃ (op num : Int) (p : Option Addr) (n c : Nat),
    cs[j * 6]? = some (.string r.fi) ∧ cs[j * 6 + 1]? = some (.int .i64 op) ∧ cs[j * 6 + 2]? = some (.int .i64 num) ∧ cs[j * 6 + 3]? = some (.slice p n c) ∧ cs[j * 6 + 4]? = some (.int .i64 r.hd) ∧ cs[j * 6 + 5]? = some (.bool r.el) ∧
    WtIs w k [.int .i64 op, .int .i64 num, .slice p n c] r.want
theorem RowR.nil (w : World) (k : Nat) : RowR w k [] [] := by
  refine ⟨rfl, ?_, ?_⟩
  · intro u hu; cases hu
  · intro j r h; simp at h
theorem RowR.below {w w' : World} {k : Nat} {cs : List Value} {l : List Rt} (h : RowR w k cs l) (hb : Below w.heap.size w w') : RowR w' k cs l := by
  obtain ⟨h1, h2, h3⟩ := h
  refine ⟨h1, h2, fun j r hj => ?_⟩
  obtain ⟨op, num, p, n, c, e0, e1, e2, e3, e4, e5, ht⟩ := h3 j r hj
  exact ⟨op, num, p, n, c, e0, e1, e2, e3, e4, e5, ht.below hb⟩
theorem RowR.append {w : World} {k : Nat} {cs ds : List Value} {l m : List Rt} (h : RowR w k cs l) (h' : RowR w k ds m) : RowR w k (cs ++ ds) (l ++ m) := by
  obtain ⟨h1, h2, h3⟩ := h
  obtain ⟨i1, i2, i3⟩ := h'
  refine ⟨by rw [List.length_append, List.length_append, h1, i1]; omega, fun u hu => ?_, fun j r hj => ?_⟩
  · rcases List.mem_append.1 hu with hu | hu
    · exact h2 u hu
    · exact i2 u hu
  · by_cases hlt : j < l.length
    · rw [List.getElem?_append_left hlt] at hj
      obtain ⟨op, num, p, n, c, e0, e1, e2, e3, e4, e5, ht⟩ := h3 j r hj
      have hh : ∀ i, i < 6 → (cs ++ ds)[j * 6 + i]? = cs[j * 6 + i]? := fun i hi => List.getElem?_append_left (by rw [h1]; omega)
      have h0 := hh 0 (by omega)
      rw [Nat.add_zero] at h0
      exact ⟨op, num, p, n, c, by rw [h0, e0], by rw [hh 1 (by omega), e1], by rw [hh 2 (by omega), e2], by rw [hh 3 (by omega), e3], by rw [hh 4 (by omega), e4], by rw [hh 5 (by omega), e5], ht⟩
    · rw [List.getElem?_append_right (by omega)] at hj
      obtain ⟨op, num, p, n, c, e0, e1, e2, e3, e4, e5, ht⟩ := i3 _ r hj
      have hh : ∀ i, (cs ++ ds)[j * 6 + i]? = ds[(j - l.length) * 6 + i]? := fun i => by
        rw [List.getElem?_append_right (by rw [h1]; omega), h1]; congr 1; omega
      have h0 := hh 0
      rw [Nat.add_zero, Nat.add_zero] at h0
      exact ⟨op, num, p, n, c, by rw [h0, e0], by rw [hh 1, e1], by rw [hh 2, e2], by rw [hh 3, e3], by rw [hh 4, e4], by rw [hh 5, e5], ht⟩
theorem RowR.one {w : World} {k : Nat} {r : Rt} {op num : Int} {p : Option Addr} {n c : Nat} (ht : WtIs w k [.int .i64 op, .int .i64 num, .slice p n c] r.want) :
    RowR w k [.string r.fi, .int .i64 op, .int .i64 num, .slice p n c, .int .i64 r.hd, .bool r.el] [r] := by
  refine ⟨rfl, fun u hu => ?_, fun j r' hj => ?_⟩
  · simp only [List.mem_cons, List.not_mem_nil, or_false] at hu
    rcases hu with rfl | rfl | rfl | rfl | rfl | rfl <;> rfl
  · cases j with
    | zero => injection hj with hj; subst hj; exact ⟨op, num, p, n, c, rfl, rfl, rfl, rfl, rfl, rfl, ht⟩
    | succ j => simp at hj
/-- the cells of routes in memory -/
theorem Rts.flat {w : World} {k b o : Nat} {l : List Rt} (h : ∀ j r, l[j]? = some r → RtAt w k b (o + j * 6) r) :
    ∃ cs, RowR w k cs l ∧ ∀ j u, cs[j]? = some u → w.cell? ((⟨b, o, none⟩ : Addr).add j) = some u := by
  have hadd : ∀ j, (⟨b, o, none⟩ : Addr).add j = ⟨b, o + j, none⟩ := fun j => by unfold Addr.add; split <;> simp_all
  have key : ∀ n, n ≤ l.length → ∃ cs, RowR w k cs (l.take n) ∧ ∀ j u, cs[j]? = some u → w.cell? ⟨b, o + j, none⟩ = some u := by
    intro n
    induction n with
    | zero => intro _; exact ⟨[], by rw [List.take_zero]; exact RowR.nil w k, fun j u hj => by simp at hj⟩
    | succ n ih =>
      intro hn
      obtain ⟨cs, h1, h2⟩ := ih (by omega)
      obtain ⟨r, hr⟩ : ∃ r, l[n]? = some r := ⟨_, List.getElem?_eq_getElem (by omega)⟩
      obtain ⟨op, num, p, m, c, q0, q1, q2, q3, q4, q5, ht⟩ := h n r hr
      refine ⟨cs ++ [.string r.fi, .int .i64 op, .int .i64 num, .slice p m c, .int .i64 r.hd, .bool r.el], ?_, fun j u hj => ?_⟩
      · rw [List.take_add_one, hr]
        exact h1.append (RowR.one ht)
      · have hlen : cs.length = n * 6 := by rw [h1.1, List.length_take]; omega
        by_cases hlt : j < cs.length
        · rw [List.getElem?_append_left hlt] at hj; exact h2 j u hj
        · rw [List.getElem?_append_right (by omega)] at hj
          obtain ⟨i, hi, rfl⟩ : ∃ i, i < 6 ∧ j = n * 6 + i := ⟨j - n * 6, by have := (List.getElem?_eq_some_iff.1 hj).1; simp at this; omega, by omega⟩
          rw [hlen, Nat.add_sub_cancel_left] at hj
          rw [← Nat.add_assoc]
          match i, hi with
          | 0, _ => injection hj with hj; subst hj; exact q0
          | 1, _ => injection hj with hj; subst hj; exact q1
          | 2, _ => injection hj with hj; subst hj; exact q2
          | 3, _ => injection hj with hj; subst hj; exact q3
          | 4, _ => injection hj with hj; subst hj; exact q4
          | 5, _ => injection hj with hj; subst hj; exact q5
  obtain ⟨cs, h1, h2⟩ := key l.length (Nat.le_refl _)
  rw [List.take_length] at h1
  exact ⟨cs, h1, fun j u hj => by rw [hadd]; exact h2 j u hj⟩
def rzero : Array Value := #[.string ⟨#[]⟩, .int .i64 0, .int .i64 0, .slice none 0 0, .int .i64 0, .bool false]
theorem info_route : (Tryd.prog.info? 42).map (fun i => (i.zero, i.size, i.bytes)) = some (some (.agg rzero), 6, 72) := by kernel_rfl
/-- routes of the call's own -/
def OwnR (w : World) (base k : Nat) (v : Value) (l : List Rt) : Prop := ∃ cs, RowR w k cs l ∧ w.ownsRow base 42 6 v l.length cs
theorem OwnR.rts {w : World} {base k : Nat} {v : Value} {l : List Rt} (h : OwnR w base k v l) (hl : l.length ≤ 1048576) : ∃ p cap, v = .slice p l.length cap ∧ Rts w k p l ∧ l.length ≤ cap := by
  obtain ⟨cs, hr, ho⟩ := h
  rcases ho.2 with ⟨rfl, h0⟩ | ⟨g, cap, cur, rfl, hb, hg, h1, h2, h3, h4⟩
  · exact ⟨none, 0, by rw [h0], ⟨hl, fun h => by omega⟩, by omega⟩
  · refine ⟨_, cap, rfl, ⟨hl, fun _ => ⟨g, 0, rfl, fun j r hj => ?_⟩⟩, h1⟩
    have hj' : j < l.length := (List.getElem?_eq_some_iff.1 hj).1
    obtain ⟨op, num, p, n, c, e0, e1, e2, e3, e4, e5, ht⟩ := hr.2.2 j r hj
    have hc : ∀ i, i < 6 → w.cell? ⟨g, 0 + j * 6 + i, none⟩ = cs[j * 6 + i]? := fun i hi => by rw [Nat.zero_add]; exact ho.cellAt _ (by omega)
    have h0 := hc 0 (by omega)
    rw [Nat.add_zero, Nat.add_zero] at h0
    exact ⟨op, num, p, n, c, by rw [h0, e0], by rw [hc 1 (by omega), e1], by rw [hc 2 (by omega), e2], by rw [hc 3 (by omega), e3], by rw [hc 4 (by omega), e4], by rw [hc 5 (by omega), e5], ht⟩
theorem run_append_rts (w0 w : World) (hb0 : Below w0.heap.size w0 w) (base k : Nat) (ty : TypeId) (v : Value) (m : List Rt) (hown : ∃ cs, RowR w0 k cs m ∧ w.ownsRow base 42 6 v m.length cs) (p : Option Addr) (cap : Nat) (l : List Rt) (hS : Rts w0 k p l) (hn : m.length + l.length ≤ 2097152) (hbase : base ≤ w.heap.size) :
    ∃ v' w', (Builtin.append_ #[22, 22] ty #[v, .slice p l.length cap]).run Tryd.prog w = .ok v' w' ∧ (∃ cs, RowR w0 k cs (m ++ l) ∧ w'.ownsRow base 42 6 v' (m ++ l).length cs) ∧ w.grownBy w' v.ownBlock := by
  obtain ⟨i, hi, hz0, hz1, hz2⟩ := info_parts info_route
  obtain ⟨cs, hr, ho⟩ := hown
  by_cases hl : l = []
  · subst hl
    refine ⟨v, w, ?_, ⟨cs, by simpa using hr, by simpa using ho⟩, ⟨rfl, rfl, rfl, Nat.le_refl _, fun _ _ _ => rfl⟩⟩
    rcases ho.2 with ⟨rfl, hm0⟩ | ⟨g, cp, cur, rfl, hb, hg, hnc, hm, hs, ht⟩
    · cases p <;> simp [Builtin.append_, run_underlying Tryd.underlying22, sizeOf, typeInfo, hi, Builtin.lenOf, Builtin.firstCells, loadCells, loadCellsFrom]
    · cases p <;> simp [Builtin.append_, run_underlying Tryd.underlying22, sizeOf, typeInfo, hi, Builtin.lenOf, Builtin.firstCells, loadCells, loadCellsFrom, hnc, storeCells]
  · obtain ⟨b, o, rfl, hcell⟩ := hS.2 (List.length_pos_iff.2 hl)
    obtain ⟨ds, hd, hdc⟩ := Rts.flat hcell
    obtain ⟨v', w', h1, h2, h3, _⟩ := run_append_own (P := Tryd.prog) w base 22 ty 42 i (.agg rzero) 6 72 Tryd.underlying22 hi hz0 hz1 hz2 rfl (by decide) v m.length cs ho ⟨b, o, none⟩ l.length cap ds hd.1 (fun j u hj => (hb0.cell (World.block_lt_of_cell? w0 _ (hdc j u hj))).trans (hdc j u hj)) hd.2.1 (by unfold maxLen; omega) (by omega) hbase
    exact ⟨v', w', h1, ⟨cs ++ ds, hr.append hd, by rw [List.length_append]; exact h2⟩, h3⟩
theorem wpList_append_rts {ops : Array Oper} {rest : List Oper} {o : Oper} {a : Act} {Q : Exit → Act → World → Prop} (w : World) (hgd : o.guard = none) (s x : Operand)
    (ho : o.op = .call { callee := .builtin .append, args := #[s, x], argTypes := #[22, 22] })
    (w0 : World) (hb0 : Below w0.heap.size w0 w) (base k : Nat) (v : Value) (m : List Rt) (hs : a.eval s = v) (hown : ∃ cs, RowR w0 k cs m ∧ w.ownsRow base 42 6 v m.length cs) (p : Option Addr) (cap : Nat) (l : List Rt) (hx : a.eval x = .slice p l.length cap) (hS : Rts w0 k p l)
    (hn : m.length + l.length ≤ 2097152) (hbase : base ≤ w.heap.size)
    (h : ∀ v' w', (∃ cs, RowR w0 k cs (m ++ l) ∧ w'.ownsRow base 42 6 v' (m ++ l).length cs) → w.grownBy w' v.ownBlock → wpList Tryd.prog ops Q rest (a.put o.dst v') w') : wpList Tryd.prog ops Q (o :: rest) a w := by
  refine wpList_plain hgd fun K hK => ?_
  obtain ⟨v', w', hr, h2, h3⟩ := run_append_rts w0 w hb0 base k o.type v m hown p cap l hS hn hbase
  unfold Oper.wp execOp
  simp only [ho, resolve, invoke, builtin, Sem.run_bind, Sem.run_pure, Result.andThen_ok, List.map_toArray, List.map_cons, List.map_nil, hs, hx, hr]
  exact hK _ _ (h v' w' h2 h3)
theorem WtIs.mono {w : World} {k : Nat} {cs : List Value} {t : Wt} (h : WtIs w k cs t) : ∀ d, WtIs w (k + d) cs t
  | 0 => h
  | d + 1 => (WtIs.mono h d).succ
theorem Rts.mono {w : World} {k : Nat} {p : Option Addr} {l : List Rt} (h : Rts w k p l) (d : Nat) : Rts w (k + d) p l := by
  obtain ⟨h1, h2⟩ := h
  refine ⟨h1, fun hn => ?_⟩
  obtain ⟨b, o, hp, hc⟩ := h2 hn
  refine ⟨b, o, hp, fun j r hj => ?_⟩
  obtain ⟨op, num, p, n, c, q0, q1, q2, q3, q4, q5, ht⟩ := hc j r hj
  exact ⟨op, num, p, n, c, q0, q1, q2, q3, q4, q5, ht.mono d⟩
theorem Rts.mono' {w : World} {k : Nat} {p : Option Addr} {l : List Rt} (h : Rts w k p l) (d : Nat) : Rts w (d + k) p l := by rw [Nat.add_comm]; exact h.mono d
/-- a row of answers -/
def InIs (W : World) (g n : Nat) (f : Nat → Bool) : Prop := ∃ cs : Array Value, cs.size = n ∧ W.heap[g]? = some (.cells cs 4 (0, 0)) ∧ ∀ j, j < n → cs[j]? = some (.bool (f j))
theorem InIs.cell {W : World} {g n : Nat} {f : Nat → Bool} (h : InIs W g n f) {j : Nat} (hj : j < n) : W.cell? ⟨g, j, none⟩ = some (.bool (f j)) := by
  obtain ⟨cs, _, h1, h2⟩ := h
  rw [cell_of_row W g j cs _ _ h1, h2 j hj]
theorem InIs.free {W : World} {g n : Nat} {f : Nat → Bool} (h : InIs W g n f) (j : Nat) : W.frozen? ⟨g, j, none⟩ = false := by
  obtain ⟨cs, _, h1, h2⟩ := h
  exact frozen_of_row W g j cs _ h1
theorem InIs.lt {W : World} {g n : Nat} {f : Nat → Bool} (h : InIs W g n f) : g < W.heap.size := by
  obtain ⟨cs, _, h1, h2⟩ := h
  exact lt_of_block h1
theorem InIs.set {W : World} {g n : Nat} {f : Nat → Bool} (h : InIs W g n f) {i : Nat} (hi : i < n) : InIs (W.setCell ⟨g, i, none⟩ (.bool true)) g n (fun j => f j || j == i) := by
  obtain ⟨cs, h0, h1, h2⟩ := h
  refine ⟨cs.set! i (.bool true), by simp [h0], heap_setCell_same W g i cs _ _ h1, fun j hj => ?_⟩
  by_cases e : j = i
  · subst e; simp [h0, hj]
  · have : (j == i) = false := by simpa using e
    show (cs.set! i (Value.bool true))[j]? = some (Value.bool (f j || j == i))
    rw [this, Bool.or_false, Array.set!_eq_setIfInBounds, Array.getElem?_setIfInBounds_ne (fun x => e x.symm)]
    exact h2 j hj
theorem InIs.below {W W' : World} {g n : Nat} {f : Nat → Bool} (h : InIs W g n f) (hb : Below W.heap.size W W') : InIs W' g n f := by
  have hl := h.lt
  obtain ⟨cs, h0, h1, h2⟩ := h
  exact ⟨cs, h0, (hb.block g hl).trans h1, h2⟩
theorem InIs.congr {W : World} {g n : Nat} {f f' : Nat → Bool} (h : InIs W g n f) (e : ∀ j, j < n → f j = f' j) : InIs W g n f' := by
  obtain ⟨cs, h0, h1, h2⟩ := h
  exact ⟨cs, h0, h1, fun j hj => by rw [← e j hj]; exact h2 j hj⟩
theorem info_bool : (Tryd.prog.info? 4).map (fun i => (i.zero, i.size, i.bytes)) = some (some (.bool false), 1, 1) := by kernel_rfl
theorem mk_bools (N : Nat) (hN : N ≤ 2097152) (w : World) : (Instr.makeSlice 37 (.int .i64 (N : Int)) (.int .i64 (N : Int))).run Tryd.prog w = .ok (.slice (some ⟨w.heap.size, 0, none⟩) N N) (w.alloc (.cells (madeCells #[.bool false] N) 4)) := by
  obtain ⟨i0, hi, hz0, hz1, hz2⟩ := info_parts info_bool
  have h := run_make w 37 4 i0 _ Tryd.underlying37 hi hz0 .i64 .i64 N N (by omega) (by omega) (by rw [hz2]; omega) (by omega)
  rw [hz1, Nat.mul_one] at h
  exact h
theorem InIs.new (w : World) (N : Nat) : InIs (w.alloc (.cells (madeCells #[.bool false] N) 4)) w.heap.size N (fun _ => false) :=
  ⟨_, by simp [madeCells], heap_alloc_new _ _, fun j hj => by simp [madeCells, hj, Nat.mod_one]⟩

/-- a plain one has been met just if the answer is no Else one -/
def PlOk (pl eb : Bool) : Prop := pl = true → eb = false
theorem nodup_take {l : List Nat} (h : l.Nodup) {j x : Nat} (hx : l[j]? = some x) : ¬ x ∈ l.take j := fun hm => by
  obtain ⟨i, hi, e⟩ := List.mem_iff_getElem.1 hm
  rw [List.length_take] at hi
  rw [List.getElem_take] at e
  obtain ⟨hj, hxx⟩ := List.getElem?_eq_some_iff.1 hx
  exact (List.pairwise_iff_getElem.1 h i j (by omega) hj (by omega)) (e.trans hxx.symm)
/-- the places are below the end, and none stands twice -/
theorem agFrom_place {k : Nat} {tp : ByteArray} {dk : Nat} : ∀ (l : List Rt) (i j : Nat) (e : Bool), (j, e) ∈ agFrom k tp dk i l ↔ ∃ r, i ≤ j ∧ l[j - i]? = some r ∧ agB k tp dk r = true ∧ r.el = e := by
  intro l
  induction l with
  | nil => intro i j e; simp [agFrom]
  | cons r l ih =>
    intro i j e
    have hcons : ∀ x : Rt, (i + 1 ≤ j ∧ l[j - (i + 1)]? = some x) → (r :: l)[j - i]? = some x := fun x ⟨h1, h2⟩ => by
      rw [show j - i = (j - (i + 1)) + 1 by omega]; exact h2
    have hback : ∀ x : Rt, i ≤ j → (r :: l)[j - i]? = some x → (j = i ∧ x = r) ∨ (i + 1 ≤ j ∧ l[j - (i + 1)]? = some x) := fun x h1 h2 => by
      rcases Nat.lt_or_ge i j with h | h
      · right; rw [show j - i = (j - (i + 1)) + 1 by omega] at h2; exact ⟨h, h2⟩
      · left; rw [show j - i = 0 by omega] at h2; injection h2 with h2; exact ⟨by omega, h2.symm⟩
    unfold agFrom
    split
    · rename_i hag
      rw [List.mem_cons, ih]
      constructor
      · rintro (h | ⟨x, h1, h2, h3, h4⟩)
        · injection h with h1 h2; subst h1; subst h2; exact ⟨r, Nat.le_refl _, by simp, hag, rfl⟩
        · exact ⟨x, by omega, hcons x ⟨h1, h2⟩, h3, h4⟩
      · rintro ⟨x, h1, h2, h3, h4⟩
        rcases hback x h1 h2 with ⟨rfl, rfl⟩ | ⟨h5, h6⟩
        · left; rw [h4]
        · right; exact ⟨x, h5, h6, h3, h4⟩
    · rename_i hag
      rw [ih]
      constructor
      · rintro ⟨x, h1, h2, h3, h4⟩; exact ⟨x, by omega, hcons x ⟨h1, h2⟩, h3, h4⟩
      · rintro ⟨x, h1, h2, h3, h4⟩
        rcases hback x h1 h2 with ⟨rfl, rfl⟩ | ⟨h5, h6⟩
        · exact absurd h3 hag
        · exact ⟨x, h5, h6, h3, h4⟩
theorem agFrom_up {k : Nat} {tp : ByteArray} {dk : Nat} : ∀ (l : List Rt) (i : Nat), ((agFrom k tp dk i l).map Prod.fst).Pairwise (· < ·) := by
  intro l
  induction l with
  | nil => intro i; simp [agFrom]
  | cons r l ih =>
    intro i
    unfold agFrom
    split
    · rw [List.map_cons, List.pairwise_cons]
      refine ⟨fun j hj => ?_, ih (i + 1)⟩
      obtain ⟨⟨j', e⟩, h1, rfl⟩ := List.mem_map.1 hj
      obtain ⟨x, h2, -⟩ := (agFrom_place l (i + 1) j' e).1 h1
      exact h2
    · exact ih (i + 1)
theorem plj_mem {b : Bool} {L : List (Nat × Bool)} {j : Nat} : j ∈ pl b L ↔ (j, b) ∈ L := by
  unfold pl
  constructor
  · intro h
    obtain ⟨⟨j', e⟩, h1, rfl⟩ := List.mem_map.1 h
    have h2 := List.mem_filter.1 h1
    have h3 : e = b := by simpa using h2.2
    rw [← h3]; exact h2.1
  · intro h; exact List.mem_map.2 ⟨(j, b), List.mem_filter.2 ⟨h, by simp⟩, rfl⟩
theorem pl_nodup (b : Bool) {k : Nat} {tp : ByteArray} {dk : Nat} (l : List Rt) : (pl b (agFrom k tp dk 0 l)).Nodup := by
  unfold pl
  have h : ((List.filter (fun x => x.2 == b) (agFrom k tp dk 0 l)).map Prod.fst).Pairwise (· < ·) := (agFrom_up l 0).sublist (List.filter_sublist.map _)
  exact h.imp (fun h => Nat.ne_of_lt h)
/-- what is known of the places that a message goes -/
theorem find_mem {k : Nat} {tp : ByteArray} {dk : Nat} (l : List Rt) (j : Nat) : j ∈ (findR (agFrom k tp dk 0 l)).1 ↔ ∃ r, l[j]? = some r ∧ agB k tp dk r = true ∧ r.el = (findR (agFrom k tp dk 0 l)).2 := by
  unfold findR
  split
  · rename_i h
    simp only
    cases hp : pl true (agFrom k tp dk 0 l) with
    | nil =>
      simp only [List.isEmpty_nil, Bool.not_true]
      constructor
      · intro h; cases h
      · rintro ⟨r, h1, h2, h3⟩
        have : j ∈ pl false (agFrom k tp dk 0 l) := plj_mem.2 ((agFrom_place l 0 j false).2 ⟨r, Nat.zero_le _, h1, h2, h3⟩)
        rw [h] at this; cases this
    | cons a x =>
      simp only [List.isEmpty_cons, Bool.not_false]
      rw [← hp, plj_mem, agFrom_place]
      simp
  · rw [plj_mem, agFrom_place]; simp
theorem find_nodup {k : Nat} {tp : ByteArray} {dk : Nat} (l : List Rt) : (findR (agFrom k tp dk 0 l)).1.Nodup := by
  unfold findR
  split
  · exact pl_nodup _ l
  · exact pl_nodup _ l
/-- one that is not Else and agrees is taken -/
theorem find_plain {k : Nat} {tp : ByteArray} {dk : Nat} {l : List Rt} {j : Nat} {r : Rt} (h1 : l[j]? = some r) (h2 : agB k tp dk r = true) (h3 : r.el = false) : (findR (agFrom k tp dk 0 l)).2 = false ∧ j ∈ (findR (agFrom k tp dk 0 l)).1 := by
  have hm : j ∈ pl false (agFrom k tp dk 0 l) := plj_mem.2 ((agFrom_place l 0 j false).2 ⟨r, Nat.zero_le _, h1, h2, h3⟩)
  unfold findR
  rw [if_neg (by intro e; rw [e] at hm; cases hm)]
  exact ⟨rfl, hm⟩
end Go.Proofs.YtpgdiekpeceicaaDoor
