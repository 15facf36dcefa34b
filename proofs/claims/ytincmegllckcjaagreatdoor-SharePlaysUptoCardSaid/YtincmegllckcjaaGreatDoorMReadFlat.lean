/- READING a slice: its elements' readings, its cells laid flat, and what they weigh together. SHARE: messages sorted by their topics. -/
import Derived.Test.YtincmegllckcjaaGreatDoorMRead
import Derived.Test.YtincmegllckcjaaGreatDoorMFlat
import Derived.Test.YtincmegllckcjaaGreatDoorShareSortShelf
import Derived.Test.YtincmegllckcjaaGreatDoorShareHKeep
namespace Go.Proofs.YtincmegllckcjaaGreatDoor
section
open Go Go.ChangeShapes Go.WideShapes Go.ChangeAt Go.RowKit Go.Deep

theorem pick_list {α : Type} {P : Nat → α → Prop} : ∀ n, (∀ i, i < n → ∃ a, P i a) → ∃ l : List α, l.length = n ∧ ∀ j a, l[j]? = some a → P j a := by
  intro n
  induction n with
  | zero => intro _; exact ⟨[], rfl, fun j a h => by cases h⟩
  | succ n ih =>
    intro h
    obtain ⟨l, h1, h2⟩ := ih fun i hi => h i (by omega)
    obtain ⟨a, ha⟩ := h n (by omega)
    refine ⟨l ++ [a], by simp [h1], fun j b hj => ?_⟩
    by_cases hjl : j < l.length
    · rw [List.getElem?_append_left hjl] at hj; exact h2 j b hj
    · have hjs := (List.getElem?_eq_some_iff.1 hj).1
      rw [List.length_append, List.length_singleton] at hjs
      have : j = l.length := by omega
      subst this
      rw [List.getElem?_append_right (Nat.le_refl _), Nat.sub_self] at hj
      injection hj with hj
      subst hj
      rw [h1]; exact ha
theorem flat_get {α : Type} {k : Nat} : ∀ (L : List (List α)), (∀ x ∈ L, x.length = k) → ∀ (j : Nat) (u : α), L.flatten[j]? = some u → 0 < k → ∃ x, L[j / k]? = some x ∧ x[j % k]? = some u
  | [], _, j, u, h, _ => by cases h
  | x :: L, hL, j, u, h, hk => by
    have hx := hL x (List.mem_cons_self ..)
    rw [List.flatten_cons] at h
    by_cases hj : j < k
    · rw [List.getElem?_append_left (by omega)] at h
      exact ⟨x, by rw [Nat.div_eq_of_lt hj]; rfl, by rw [Nat.mod_eq_of_lt hj]; exact h⟩
    · rw [List.getElem?_append_right (by omega), hx] at h
      obtain ⟨y, h1, h2⟩ := flat_get L (fun x hx => hL x (List.mem_cons_of_mem _ hx)) (j - k) u h hk
      have e1 : j / k = (j - k) / k + 1 := by
        conv => lhs; rw [show j = (j - k) + k by omega]
        exact Nat.add_div_right _ hk
      have e2 : j % k = (j - k) % k := by
        conv => lhs; rw [show j = (j - k) + k by omega]
        exact Nat.add_mod_right _ _
      exact ⟨y, by rw [e1, List.getElem?_cons_succ]; exact h1, by rw [e2]; exact h2⟩
theorem flat_len {α : Type} {k : Nat} : ∀ (L : List (List α)), (∀ x ∈ L, x.length = k) → L.flatten.length = L.length * k
  | [], _ => by simp
  | x :: L, hL => by
    rw [List.flatten_cons, List.length_append, flat_len L fun x hx => hL x (List.mem_cons_of_mem _ hx), hL x (List.mem_cons_self ..), List.length_cons, Nat.add_mul]
    omega
section
variable {H : Type} {enc : TypeId × Value → H} {w : World} {base : Nat} {spare : Nat → Bool} {held : Bool}
theorem rd_flat {t e : TypeId} {fuel : Nat} {c : Value} {x : DataW H × List MemPlace} {k : Nat} (ht : Tryz.prog.underlying t = some (.slice e)) (hk : Tryz.prog.cellsOf e = k) (hk0 : 0 < k) (h : DataW.trod enc Tryz.prog w base spare held fuel t [c] = some x) :
    ∃ (n : Nat) (ys : List (List Value × (DataW H × List MemPlace))), fuel = n + 1 ∧ Fl w k c ys.length (ys.map (·.1)).flatten ∧ (∀ y ∈ ys, y.1.length = k ∧ DataW.trod enc Tryz.prog w base spare held n e y.1 = some y.2) ∧ Rows.uptoBulkAll (ys.map (·.2.1)) + 1 ≤ Rows.uptoBulk x.1 := by
  rcases DataW.trod_slice ht h with ⟨h0, rfl⟩ | ⟨a, len, cap, elems, rest, n, hn, hc, rfl, hb, hl, hm, hlen, hel, -, -⟩
  · injection h0 with h0
    cases fuel with
    | zero => simp [DataW.trod] at h
    | succ n => exact ⟨n, [], rfl, ⟨by simp, none, 0, h0, Nat.le_refl _, by omega, .inl rfl⟩, fun y hy => (List.not_mem_nil hy).elim, by simp [Rows.uptoBulkAll, Rows.uptoBulk]⟩
  · injection hc with hc
    subst hk
    have hE : ∀ i, i < len → ∃ y : List Value × (DataW H × List MemPlace), elems[i]? = some y.2 ∧ y.1.length = Tryz.prog.cellsOf e ∧ DataW.trod enc Tryz.prog w base spare held n e y.1 = some y.2 ∧ ∀ j u, y.1[j]? = some u → w.cell? (a.add (i * Tryz.prog.cellsOf e + j)) = some u := fun i hi => by
      have h1 := hel i hi
      rw [List.getElem?_eq_getElem (by omega : i < elems.length)] at h1
      obtain ⟨cs', hc', ht'⟩ := Option.bind_eq_some_iff.1 h1
      obtain ⟨_, hl', hat⟩ := World.cells?_some hc'
      refine ⟨(cs', _), List.getElem?_eq_getElem (by omega), hl', ht', fun j u hj => ?_⟩
      have hjk : j < Tryz.prog.cellsOf e := by rw [← hl']; exact (List.getElem?_eq_some_iff.1 hj).1
      rw [← hj, ← hat j hjk, add_add]
    obtain ⟨ys, hys, hp⟩ := pick_list len hE
    have hp2 : ∀ y ∈ ys, y.1.length = Tryz.prog.cellsOf e ∧ DataW.trod enc Tryz.prog w base spare held n e y.1 = some y.2 := fun y hy => by
      obtain ⟨j, hj, e⟩ := List.getElem_of_mem hy
      have := hp j y (by rw [List.getElem?_eq_getElem hj, e])
      exact ⟨this.2.1, this.2.2.1⟩
    have hL : ∀ x ∈ ys.map (·.1), x.length = Tryz.prog.cellsOf e := fun x hx => by
      obtain ⟨y, hy, rfl⟩ := List.mem_map.1 hx
      exact (hp2 y hy).1
    have hmap : ys.map (·.2) = elems := by
      apply List.ext_getElem?
      intro j
      rw [List.getElem?_map]
      by_cases hj : j < ys.length
      · rw [List.getElem?_eq_getElem hj]
        exact (hp j _ (List.getElem?_eq_getElem hj)).1.symm
      · rw [List.getElem?_eq_none (by omega), List.getElem?_eq_none (by omega)]; rfl
    refine ⟨n, ys, hn, ⟨by rw [flat_len _ hL, List.length_map], some a, cap, by rw [hys]; exact hc, by omega, by unfold maxLen at hm; omega, ?_⟩, hp2, ?_⟩
    · rcases Nat.eq_zero_or_pos ys.length with h0 | h0
      · exact .inl h0
      · have hcell : ∀ j u, (ys.map (·.1)).flatten[j]? = some u → w.cell? (a.add j) = some u := fun j u hj => by
          obtain ⟨x, h1, h2⟩ := flat_get _ hL j u hj hk0
          rw [List.getElem?_map] at h1
          obtain ⟨y, hy, rfl⟩ := Option.map_eq_some_iff.1 h1
          have := (hp _ y hy).2.2.2 _ u h2
          rwa [Nat.div_add_mod'] at this
        obtain ⟨y0, hy0⟩ : ∃ y, ys[0]? = some y := ⟨_, List.getElem?_eq_getElem h0⟩
        have h1 := (hp2 y0 (List.mem_of_getElem? hy0)).1
        obtain ⟨u0, hu0⟩ : ∃ u, y0.1[0]? = some u := ⟨_, List.getElem?_eq_getElem (by omega)⟩
        have h2 := (hp 0 y0 hy0).2.2.2 0 u0 hu0
        have e0 : a.add (0 * Tryz.prog.cellsOf e + 0) = a := by rw [Nat.zero_mul]; exact if_pos rfl
        rw [e0] at h2
        obtain ⟨b, o, rfl⟩ := rd_plain h2
        refine .inr ⟨b, o, rfl, fun j u hj => ?_⟩
        have := hcell j u hj
        rwa [rd_add] at this
    · have : ys.map (·.2.1) = elems.map (·.1) := by rw [← hmap, List.map_map]; rfl
      rw [this]
      simp only [Rows.uptoBulk]
      omega
theorem rd_struct' {t : TypeId} {fs : Array Field} {cs : List Value} {fuel : Nat} {x : DataW H × List MemPlace} (ht : Tryz.prog.underlying t = some (.struct fs)) (h : DataW.trod enc Tryz.prog w base spare held fuel t cs = some x) :
    cs.length = Tryz.prog.cellsOf t ∧ ∃ n, fuel = n + 1 ∧ ∃ xs : List (DataW H × List MemPlace), xs.length = fs.size ∧ Rows.uptoBulk x.1 = Rows.uptoBulkAll (xs.map (·.1)) + 1 ∧ ∀ (i : Nat) (f : Field), fs[i]? = some f → ∃ y, xs[i]? = some y ∧ ∀ k, Tryz.prog.cellsOf f.type = k → DataW.trod enc Tryz.prog w base spare held n f.type ((cs.drop f.offset).take k) = some y := by
  obtain ⟨xs, n, hn, rfl, hlen, hx, hf⟩ := DataW.trod_struct ht h
  refine ⟨hlen, n, hn, xs, hx, by simp only [Rows.uptoBulk], fun i f hi => ?_⟩
  have hlt : i < xs.length := by rw [hx]; exact (Array.getElem?_eq_some_iff.1 hi).1
  refine ⟨xs[i], List.getElem?_eq_getElem hlt, fun k hk => ?_⟩
  subst hk
  rw [hf i f hi]; exact List.getElem?_eq_getElem hlt
theorem rd_string' {t : TypeId} {c : Value} {n : Nat} {y : DataW H × List MemPlace} (ht : Tryz.prog.underlying t = some .string) (h : DataW.trod enc Tryz.prog w base spare held n t [c] = some y) : ∃ s : ByteArray, c = .string s ∧ s.size + 1 = Rows.uptoBulk y.1 := by
  obtain ⟨s, hz, rfl, _⟩ := DataW.trod_string ht h
  injection hz with hz
  refine ⟨s, hz, ?_⟩
  simp [Rows.uptoBulk]
end
end
section
open Go Go.RowKit Go.Lib Go.Sort
attribute [local go_sem ↓] Go.wp_at_zero Go.wp_at_succ

instance : Inhabited Mg := ⟨mgZero⟩
def Mg.cells (m : Mg) : List Value := [.int .i64 m.id, .string m.tp, .int .i64 m.kd, .int .i64 m.di, .int .u64 m.db, .string m.ds, .slice m.q m.n m.c, .int .i64 m.at_, .int .i64 m.un, .string m.rp, .int .i64 m.co, .int .i64 m.pr, .int .i64 m.ho]
def cmpM (x y : Mg) : Int := Lib.compareBytes x.tp.data.toList y.tp.data.toList
set_option maxHeartbeats 1000000 in
theorem closure_any (x y : Mg) (W : World) : Calls Tryz.prog 36 #[.agg x.cells.toArray, .agg y.cells.toArray] W fun e w' => e = .returned (.int .i64 (cmpM x y)) ∧ ∃ q os', w' = grow (W.drewN q) os' := by
  have hcon := fun W' => Any.strings_Compare Tryz.laysn106 x.tp y.tp W'
  change ∀ W', Calls Tryz.prog 37 _ _ _ at hcon
  unfold cmpM
  generalize Lib.compareBytes x.tp.data.toList y.tp.data.toList = r at hcon ⊢
  unfold Mg.cells
  go_enter Tryz.func36, Tryz.ntmps36
  go_wp2_with (go_at_call 37; refine (hcon _).mono ?_; rintro e w' ⟨rfl, rfl⟩)
  go_ret
  exact ⟨rfl, 0, _, by rw [alloc_eq_grow, alloc_eq_grow, grow_grow]; rfl⟩
theorem cmpLaysM (blk off size : Nat) (w : World) : CmpLays Tryz.prog 36 #[] Mg.cells 13 cmpM blk off size w :=
  fun _ _ _ _ x y => closure_any x y _
theorem cmp_lt : ∀ a b : List UInt8, Lib.compareBytes a b < 0 ↔ a < b
  | [], [] => by simp [Lib.compareBytes]
  | [], _ :: _ => by simp [Lib.compareBytes]
  | _ :: _, [] => by simp [Lib.compareBytes]
  | a :: l, b :: r => by
    rw [List.cons_lt_cons_iff]
    unfold Lib.compareBytes
    by_cases h1 : a < b
    · rw [if_pos h1]; simp [h1]
    · rw [if_neg h1]
      by_cases h2 : b < a
      · rw [if_pos h2]
        have hne : a ≠ b := fun e => by rw [e] at h2; exact absurd h2 (UInt8.lt_irrefl _)
        simp [h1, hne]
      · rw [if_neg h2, cmp_lt l r]
        have he : a = b := UInt8.le_antisymm (UInt8.not_lt.1 h2) (UInt8.not_lt.1 h1)
        simp [he]
theorem ltOf_iff (x y : Mg) : ltOf cmpM x y = true ↔ x.tp.data.toList < y.tp.data.toList := by
  unfold ltOf cmpM
  rw [decide_eq_true_eq, cmp_lt]
theorem ltOf_not (x y : Mg) : ltOf cmpM x y = false ↔ y.tp.data.toList ≤ x.tp.data.toList := by
  rw [← Bool.not_eq_true, ltOf_iff, List.not_lt]
theorem swoM : SWO (ltOf cmpM) where
  irrefl x := by rw [ltOf_not]; exact List.le_refl _
  trans x y z h1 h2 := by rw [ltOf_iff] at *; exact List.lt_trans h1 h2
  ntrans x y z h1 h2 := by rw [ltOf_not] at *; exact List.le_trans h2 h1
def rowM (ms : List Mg) : List Value := (ms.map Mg.cells).flatten
theorem cells13 {ms : List Mg} : ∀ x ∈ ms.map Mg.cells, x.length = 13 := fun x hx => by
  obtain ⟨m, -, rfl⟩ := List.mem_map.1 hx
  rfl
theorem rowM_len (ms : List Mg) : (rowM ms).length = ms.length * 13 := by
  unfold rowM
  rw [flat_len (k := 13) _ cells13, List.length_map]
theorem flatK_list (ms : List Mg) : (flatK Mg.cells 13 ms.toArray).toList = rowM ms := by
  have hsz : (flatK Mg.cells 13 ms.toArray).size = ms.length * 13 := by rw [size_flatK]; simp
  apply List.ext_getElem?
  intro t
  by_cases ht : t < ms.length * 13
  · obtain ⟨u, hu⟩ : ∃ u, (rowM ms)[t]? = some u := ⟨_, List.getElem?_eq_getElem (by rw [rowM_len]; exact ht)⟩
    obtain ⟨x, h1, h2⟩ := flat_get (ms.map Mg.cells) cells13 t u hu (by decide)
    rw [hu, Array.getElem?_toList, Array.getElem?_eq_getElem (by rw [hsz]; exact ht), ← getElem!_pos, get_flatK _ _ _ t (by simpa using ht)]
    rw [List.getElem?_map] at h1
    obtain ⟨m, hm, rfl⟩ := Option.map_eq_some_iff.1 h1
    have e1 : ms.toArray[t / 13]! = m := by simp [hm]
    rw [e1]
    simp [h2]
  · rw [List.getElem?_eq_none (show (flatK Mg.cells 13 ms.toArray).toList.length ≤ t by rw [Array.length_toList, hsz]; omega), List.getElem?_eq_none (show (rowM ms).length ≤ t by rw [rowM_len]; omega)]
theorem heap_sortedV {w : World} {g n : Nat} {os : Array Obj} {cur : Array Value} {e : TypeId} {fr : Nat × Nat} (d : Array Value) (hb : w.heap[g]? = some (.cells cur e fr)) :
    (grow (putRow id (Sort.ahead w n) g 0 d) os).heap[g]? = some (.cells (putCells id 0 d cur) e fr) := by
  have hg : g < w.heap.size := (Array.getElem?_eq_some_iff.1 hb).1
  rw [heap_grow_old _ _ (by simpa using hg)]
  simp [putRow, mapBlock, Sort.ahead, Array.getElem?_modify, hb, onCells]
theorem grownBy_sortedV {w : World} {g n : Nat} {os : Array Obj} (d : Array Value) : w.grownBy (grow (putRow id (Sort.ahead w n) g 0 d) os) (some g) := by
  refine ⟨rfl, rfl, rfl, by simp, fun k hk hne => ?_⟩
  rw [heap_grow_old _ _ (by simpa using hk)]
  have : g ≠ k := fun e => hne (by rw [e])
  simp [putRow, mapBlock, Sort.ahead, Array.getElem?_modify, this]
theorem take_putCellsV (cur : Array Value) (ts : List Value) (h : ts.length ≤ cur.size) : (putCells id 0 ts.toArray cur).toList.take ts.length = ts := by
  apply List.ext_getElem?
  intro j
  by_cases hj : j < ts.length
  · rw [List.getElem?_take_of_lt hj, Array.getElem?_toList]
    simp [putCells, hj, show j < cur.size by omega]
  · rw [List.getElem?_take_eq_none (by omega), List.getElem?_eq_none (by omega)]
theorem holds_row {w : World} {g : Nat} {cur : Array Value} {e : TypeId} {ms : List Mg} (hb : w.heap[g]? = some (.cells cur e (0, 0))) (ht : cur.toList.take (ms.length * 13) = rowM ms) : HoldsK Mg.cells 13 w g 0 ms.toArray := by
  intro j hj
  have hsz : (flatK Mg.cells 13 ms.toArray).size = ms.length * 13 := by rw [size_flatK]; simp
  have hj' : j < ms.length * 13 := by rw [hsz] at hj; exact hj
  refine ⟨?_, by simp [World.frozen?, hb]⟩
  rw [Nat.zero_add, cell_of_row w g j _ _ _ hb]
  have h1 : (cur.toList.take (ms.length * 13))[j]? = (flatK Mg.cells 13 ms.toArray).toList[j]? := by rw [ht, flatK_list]
  rw [List.getElem?_take_of_lt hj', Array.getElem?_toList, Array.getElem?_toList] at h1
  rw [h1, Array.getElem?_eq_getElem hj, getElem!_pos _ j hj]
  rfl
/-- a row of messages of the call's own -/
abbrev MRow (W : World) (base : Nat) (v : Value) (ms : List Mg) : Prop := W.ownsRow base 36 13 v ms.length (rowM ms)
theorem MRow.slice {W : World} {base : Nat} {v : Value} {ms : List Mg} (h : MRow W base v ms) : ∃ q c, v = .slice q ms.length c := by
  rcases h.2 with ⟨rfl, h0⟩ | ⟨g, cap, cur, rfl, -⟩
  · exact ⟨_, _, by rw [h0]⟩
  · exact ⟨_, _, rfl⟩
theorem perm_of_in {ms : List Mg} {d' : Array Mg} (h : PermIn 0 ms.toArray.size ms.toArray d') : d'.toList.Perm ms := by
  obtain ⟨h1, -, h3⟩ := h
  have e1 : (d'.extract 0 ms.toArray.size).toList = d'.toList := by rw [← h1]; simp
  have e2 : (ms.toArray.extract 0 ms.toArray.size).toList = ms := by simp
  rw [e1, e2] at h3
  exact h3
theorem sorted_of_in {ms : List Mg} (hn : (ms.map (·.tp)).Nodup) (h : SortedIn (ltOf cmpM) 0 ms.length ms.toArray) : ms.Pairwise (fun x y => x.tp.data.toList < y.tp.data.toList) := by
  rw [List.pairwise_iff_getElem]
  intro i j hi hj hij
  have h1 := h i j (Nat.zero_le _) hij hj
  rw [ltOf_not] at h1
  have e1 : ms.toArray[i]! = ms[i] := by simp [hi]
  have e2 : ms.toArray[j]! = ms[j] := by simp [hj]
  rw [e1, e2] at h1
  rcases List.le_iff_lt_or_eq.1 h1 with h2 | h2
  · exact h2
  · have h3 : ms[i].tp = ms[j].tp := bytes_inj h2
    have h4 := List.pairwise_iff_getElem.1 hn i j (by simpa using hi) (by simpa using hj) hij
    rw [List.getElem_map, List.getElem_map] at h4
    exact absurd h3 h4
set_option maxHeartbeats 1000000 in
theorem sort_msgs (v : Value) (ms : List Mg) (base : Nat) (w : World) (h : MRow w base v ms) (hn : (ms.map (·.tp)).Nodup) (hl : ms.length ≤ 1000000000) :
    Calls Tryz.prog 35 #[v, .func (.func 36) #[] #[]] w fun e w' => e = .returned (.tuple #[]) ∧ ∃ ms' : List Mg, ms'.Perm ms ∧ ms'.Pairwise (fun x y => x.tp.data.toList < y.tp.data.toList) ∧ MRow w' base v ms' ∧ w.grownBy w' v.ownBlock := by
  rcases h.2 with ⟨rfl, h0⟩ | ⟨g, cap, cur, rfl, hb, hbox, h3, h4, h5, h6⟩
  · obtain rfl : ms = [] := List.eq_nil_of_length_eq_zero h0
    refine (AnyF.slices_SortFunc_none Tryz.sortfn none 0 _ w).mono ?_
    rintro e w' ⟨rfl, rfl⟩
    exact ⟨rfl, [], List.Perm.refl _, List.Pairwise.nil, h, grownBy_refl _ _⟩
  · have hg := (Array.getElem?_eq_some_iff.1 hbox).1
    have eg : ∀ args w, (callFunc 36 args).run Tryz.prog w = .ok (.enter 36 args) w := enters_of Tryz.func36 (by kernel_rfl) rfl
    have C := AnyQ.slices_SortFunc Tryz.sortfn 13 Tryz.isAgg36 Tryz.sizeOf36 Mg.cells (fun _ => rfl) (fun x u hu => by simp [Mg.cells] at hu; rcases hu with rfl | rfl | rfl | rfl | rfl | rfl | rfl | rfl | rfl | rfl | rfl | rfl | rfl <;> rfl) cmpM swoM 36 #[] g 0 cap ms.toArray w eg (cmpLaysM g 0 _ w) (holds_row hbox h6) hg (by simp; omega)
    have hsz : ms.toArray.size = ms.length := by simp
    rw [hsz] at C
    refine C.mono ?_
    rintro e w' ⟨rfl, d', n, os, hp, hs, rfl⟩
    have hp2 : d'.toList.Perm ms := perm_of_in (by rw [hsz]; exact hp)
    have hl2 := hp2.length_eq
    have e2 : d' = d'.toList.toArray := by simp
    refine ⟨rfl, d'.toList, hp2, sorted_of_in ((hp2.map _).nodup_iff.2 hn) (by rw [hl2, ← e2]; exact hs), ?_, grownBy_sortedV _⟩
    have hbs := heap_sortedV (n := n) (os := os) (flatK Mg.cells 13 d') hbox
    refine ⟨by rw [rowM_len], .inr ⟨g, cap, _, by rw [hl2], hb, hbs, by rw [hl2]; exact h3, h4, by simp [putCells, h5], ?_⟩⟩
    have e3 : flatK Mg.cells 13 d' = (rowM d'.toList).toArray := by rw [← flatK_list, ← e2]
    rw [e3, ← rowM_len]
    exact take_putCellsV cur _ (by rw [rowM_len, hl2, h5]; exact Nat.mul_le_mul_right _ h3)
end
end Go.Proofs.YtincmegllckcjaaGreatDoor
