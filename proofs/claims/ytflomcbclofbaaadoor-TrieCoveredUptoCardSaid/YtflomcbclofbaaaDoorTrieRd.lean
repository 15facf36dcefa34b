/- READING a slice: its elements' readings, its cells laid flat, and what they weigh together. TRIE: what the arguments are: a script of calls, names. -/
import Derived.Test.YtflomcbclofbaaaDoorRead
import Derived.Test.YtflomcbclofbaaaDoorFlat
import Derived.Test.YtflomcbclofbaaaDoorTrieTB
namespace Go.Proofs.YtflomcbclofbaaaDoor
open Go Go.ChangeShapes Go.WideShapes Go.ChangeAt Go.RowKit Go.Deep

theorem pick_list {α : Type} {P : Nat → α → Prop} : ∀ n, (∀ i, i < n → ∃ a, P i a) → ∃ l : List α, l.length = n ∧ ∀ j a, l[j]? = some a → P j a := by
  intro n
  induction n with
  | zero => intro _; exact ⟨[], rfl, fun j a h => by cases h⟩
  | succ n ih =>
    intro h
    obtain ⟨l, h1, h2⟩ := ih fun i hi => h i (by omega)
    obtain ⟨a, ha⟩ := h n (by omega)
    refine ⟨l ++ [a], by simp [h1], fun j b hj => ?_⟩
    by_cases hjl : j < l.length
    · rw [List.getElem?_append_left hjl] at hj; exact h2 j b hj
    · have hjs := (List.getElem?_eq_some_iff.1 hj).1
      rw [List.length_append, List.length_singleton] at hjs
      have : j = l.length := by omega
      subst this
      rw [List.getElem?_append_right (Nat.le_refl _), Nat.sub_self] at hj
      injection hj with hj
      subst hj
      rw [h1]; exact ha
theorem flat_get {α : Type} {k : Nat} : ∀ (L : List (List α)), (∀ x ∈ L, x.length = k) → ∀ (j : Nat) (u : α), L.flatten[j]? = some u → 0 < k → ∃ x, L[j / k]? = some x ∧ x[j % k]? = some u
  | [], _, j, u, h, _ => by cases h
  | x :: L, hL, j, u, h, hk => by
    have hx := hL x (List.mem_cons_self ..)
    rw [List.flatten_cons] at h
    by_cases hj : j < k
    · rw [List.getElem?_append_left (by omega)] at h
      exact ⟨x, by rw [Nat.div_eq_of_lt hj]; rfl, by rw [Nat.mod_eq_of_lt hj]; exact h⟩
    · rw [List.getElem?_append_right (by omega), hx] at h
      obtain ⟨y, h1, h2⟩ := flat_get L (fun x hx => hL x (List.mem_cons_of_mem _ hx)) (j - k) u h hk
      have e1 : j / k = (j - k) / k + 1 := by
        conv => lhs; rw [show j = (j - k) + k by omega]
        exact Nat.add_div_right _ hk
      have e2 : j % k = (j - k) % k := by
        conv => lhs; rw [show j = (j - k) + k by omega]
        exact Nat.add_mod_right _ _
      exact ⟨y, by rw [e1, List.getElem?_cons_succ]; exact h1, by rw [e2]; exact h2⟩
theorem flat_len {α : Type} {k : Nat} : ∀ (L : List (List α)), (∀ x ∈ L, x.length = k) → L.flatten.length = L.length * k
  | [], _ => by simp
  | x :: L, hL => by
    rw [List.flatten_cons, List.length_append, flat_len L fun x hx => hL x (List.mem_cons_of_mem _ hx), hL x (List.mem_cons_self ..), List.length_cons, Nat.add_mul]
    omega
section
variable {H : Type} {enc : TypeId × Value → H} {w : World} {base : Nat} {spare : Nat → Bool} {held : Bool}
theorem rd_flat {t e : TypeId} {fuel : Nat} {c : Value} {x : DataW H × List MemPlace} {k : Nat} (ht : Tryd.prog.underlying t = some (.slice e)) (hk : Tryd.prog.cellsOf e = k) (hk0 : 0 < k) (h : DataW.trod enc Tryd.prog w base spare held fuel t [c] = some x) :
    ∃ (n : Nat) (ys : List (List Value × (DataW H × List MemPlace))), fuel = n + 1 ∧ Fl w k c ys.length (ys.map (·.1)).flatten ∧ (∀ y ∈ ys, y.1.length = k ∧ DataW.trod enc Tryd.prog w base spare held n e y.1 = some y.2) ∧ Rows.uptoBulkAll (ys.map (·.2.1)) + 1 ≤ Rows.uptoBulk x.1 := by
  rcases DataW.trod_slice ht h with ⟨h0, rfl⟩ | ⟨a, len, cap, elems, rest, n, hn, hc, rfl, hb, hl, hm, hlen, hel, -, -⟩
  · injection h0 with h0
    cases fuel with
    | zero => simp [DataW.trod] at h
    | succ n => exact ⟨n, [], rfl, ⟨by simp, none, 0, h0, Nat.le_refl _, by omega, .inl rfl⟩, fun y hy => (List.not_mem_nil hy).elim, by simp [Rows.uptoBulkAll, Rows.uptoBulk]⟩
  · injection hc with hc
    subst hk
    have hE : ∀ i, i < len → ∃ y : List Value × (DataW H × List MemPlace), elems[i]? = some y.2 ∧ y.1.length = Tryd.prog.cellsOf e ∧ DataW.trod enc Tryd.prog w base spare held n e y.1 = some y.2 ∧ ∀ j u, y.1[j]? = some u → w.cell? (a.add (i * Tryd.prog.cellsOf e + j)) = some u := fun i hi => by
      have h1 := hel i hi
      rw [List.getElem?_eq_getElem (by omega : i < elems.length)] at h1
      obtain ⟨cs', hc', ht'⟩ := Option.bind_eq_some_iff.1 h1
      obtain ⟨_, hl', hat⟩ := World.cells?_some hc'
      refine ⟨(cs', _), List.getElem?_eq_getElem (by omega), hl', ht', fun j u hj => ?_⟩
      have hjk : j < Tryd.prog.cellsOf e := by rw [← hl']; exact (List.getElem?_eq_some_iff.1 hj).1
      rw [← hj, ← hat j hjk, add_add]
    obtain ⟨ys, hys, hp⟩ := pick_list len hE
    have hp2 : ∀ y ∈ ys, y.1.length = Tryd.prog.cellsOf e ∧ DataW.trod enc Tryd.prog w base spare held n e y.1 = some y.2 := fun y hy => by
      obtain ⟨j, hj, e⟩ := List.getElem_of_mem hy
      have := hp j y (by rw [List.getElem?_eq_getElem hj, e])
      exact ⟨this.2.1, this.2.2.1⟩
    have hL : ∀ x ∈ ys.map (·.1), x.length = Tryd.prog.cellsOf e := fun x hx => by
      obtain ⟨y, hy, rfl⟩ := List.mem_map.1 hx
      exact (hp2 y hy).1
    have hmap : ys.map (·.2) = elems := by
      apply List.ext_getElem?
      intro j
      rw [List.getElem?_map]
      by_cases hj : j < ys.length
      · rw [List.getElem?_eq_getElem hj]
        exact (hp j _ (List.getElem?_eq_getElem hj)).1.symm
      · rw [List.getElem?_eq_none (by omega), List.getElem?_eq_none (by omega)]; rfl
    refine ⟨n, ys, hn, ⟨by rw [flat_len _ hL, List.length_map], some a, cap, by rw [hys]; exact hc, by omega, by unfold maxLen at hm; omega, ?_⟩, hp2, ?_⟩
    · rcases Nat.eq_zero_or_pos ys.length with h0 | h0
      · exact .inl h0
      · have hcell : ∀ j u, (ys.map (·.1)).flatten[j]? = some u → w.cell? (a.add j) = some u := fun j u hj => by
          obtain ⟨x, h1, h2⟩ := flat_get _ hL j u hj hk0
          rw [List.getElem?_map] at h1
          obtain ⟨y, hy, rfl⟩ := Option.map_eq_some_iff.1 h1
          have := (hp _ y hy).2.2.2 _ u h2
          rwa [Nat.div_add_mod'] at this
        obtain ⟨y0, hy0⟩ : ∃ y, ys[0]? = some y := ⟨_, List.getElem?_eq_getElem h0⟩
        have h1 := (hp2 y0 (List.mem_of_getElem? hy0)).1
        obtain ⟨u0, hu0⟩ : ∃ u, y0.1[0]? = some u := ⟨_, List.getElem?_eq_getElem (by omega)⟩
        have h2 := (hp 0 y0 hy0).2.2.2 0 u0 hu0
        have e0 : a.add (0 * Tryd.prog.cellsOf e + 0) = a := by rw [Nat.zero_mul]; exact if_pos rfl
        rw [e0] at h2
        obtain ⟨b, o, rfl⟩ := rd_plain h2
        refine .inr ⟨b, o, rfl, fun j u hj => ?_⟩
        have := hcell j u hj
        rwa [rd_add] at this
    · have : ys.map (·.2.1) = elems.map (·.1) := by rw [← hmap, List.map_map]; rfl
      rw [this]
      simp only [Rows.uptoBulk]
      omega
theorem rd_struct' {t : TypeId} {fs : Array Field} {cs : List Value} {fuel : Nat} {x : DataW H × List MemPlace} (ht : Tryd.prog.underlying t = some (.struct fs)) (h : DataW.trod enc Tryd.prog w base spare held fuel t cs = some x) :
    cs.length = Tryd.prog.cellsOf t ∧ ∃ n, fuel = n + 1 ∧ ∃ xs : List (DataW H × List MemPlace), xs.length = fs.size ∧ Rows.uptoBulk x.1 = Rows.uptoBulkAll (xs.map (·.1)) + 1 ∧ ∀ (i : Nat) (f : Field), fs[i]? = some f → ∃ y, xs[i]? = some y ∧ ∀ k, Tryd.prog.cellsOf f.type = k → DataW.trod enc Tryd.prog w base spare held n f.type ((cs.drop f.offset).take k) = some y := by
  obtain ⟨xs, n, hn, rfl, hlen, hx, hf⟩ := DataW.trod_struct ht h
  refine ⟨hlen, n, hn, xs, hx, by simp only [Rows.uptoBulk], fun i f hi => ?_⟩
  have hlt : i < xs.length := by rw [hx]; exact (Array.getElem?_eq_some_iff.1 hi).1
  refine ⟨xs[i], List.getElem?_eq_getElem hlt, fun k hk => ?_⟩
  subst hk
  rw [hf i f hi]; exact List.getElem?_eq_getElem hlt
theorem rd_string' {t : TypeId} {c : Value} {n : Nat} {y : DataW H × List MemPlace} (ht : Tryd.prog.underlying t = some .string) (h : DataW.trod enc Tryd.prog w base spare held n t [c] = some y) : ∃ s : ByteArray, c = .string s ∧ s.size + 1 = Rows.uptoBulk y.1 := by
  obtain ⟨s, hz, rfl, _⟩ := DataW.trod_string ht h
  injection hz with hz
  refine ⟨s, hz, ?_⟩
  simp [Rows.uptoBulk]
end

theorem size_of_bulk {H : Type} {l : List (DataW H)} {s : ByteArray} (hk : Rows.uptoSmall H l = true) (hm : (DataW.lit (.string s.data.toList) : DataW H) ∈ l) : s.size ≤ 1048576 := by
  have hb : Rows.uptoBulkAll l ≤ 1048576 := of_decide_eq_true hk
  have := bulk_part l _ hm
  simp only [Rows.uptoBulk] at this
  have e : s.data.toList.length = s.size := by simp
  omega
theorem co_Act : Tryd.prog.cellsOf 37 = 3 := by kernel_rfl
theorem co_text : Tryd.prog.cellsOf 9 = 1 := by kernel_rfl
section
variable {H : Type} {enc_ : TypeId × Value → H} {w : World} {base : Nat} {spare : Nat → Bool} {held : Bool}
theorem read_act {fuel : Nat} {cs : List Value} {x : DataW H × List MemPlace} (h : DataW.trod enc_ Tryd.prog w base spare held fuel 37 cs = some x) :
    ∃ (k z : Int) (f : ByteArray), cs = [.int .i64 k, .string f, .int .i64 z] ∧ (Lit.int .i64 z).wf = true ∧ f.size + 2 ≤ Rows.uptoBulk x.1 := by
  obtain ⟨hlen, m, hm, xs, hxl, hbk, hf⟩ := rd_struct' Tryd.underlying37 h
  rw [co_Act] at hlen
  match cs, hlen with
  | [c0, c1, c2], _ =>
    obtain ⟨y0, -, q0⟩ := hf 0 _ rfl
    obtain ⟨y1, hb1, q1⟩ := hf 1 _ rfl
    obtain ⟨y2, -, q2⟩ := hf 2 _ rfl
    obtain ⟨k, rfl, -⟩ := rd_int Tryd.underlying3 (q0 1 (by kernel_rfl))
    obtain ⟨f, rfl, hs⟩ := rd_string' Tryd.underlying9 (q1 1 (by kernel_rfl))
    obtain ⟨z, rfl, hz⟩ := rd_int Tryd.underlying3 (q2 1 (by kernel_rfl))
    refine ⟨k, z, f, rfl, hz, ?_⟩
    have := bulk_part (xs.map (·.1)) y1.1 (List.mem_map.2 ⟨y1, List.mem_of_getElem? hb1, rfl⟩)
    omega
theorem read_script {fuel : Nat} {c : Value} {x : DataW H × List MemPlace} (h : DataW.trod enc_ Tryd.prog w base spare held fuel 22 [c] = some x) (hb : Rows.uptoBulk x.1 ≤ 1048576) : ∃ L : Acts, Script w c L := by
  obtain ⟨n, ys, -, hfl, hel, hsum⟩ := rd_flat Tryd.underlying22 co_Act (by decide) h
  have key : ∀ ys : List (List Value × (DataW H × List MemPlace)), (∀ y ∈ ys, y.1.length = 3 ∧ DataW.trod enc_ Tryd.prog w base spare held n 37 y.1 = some y.2) →
      ∃ L : Acts, L.length = ys.length ∧ (ys.map (·.1)).flatten = actCells L ∧ szA L ≤ Rows.uptoBulkAll (ys.map (·.2.1)) ∧ ∀ a ∈ L, (Lit.int .i64 a.2.2).wf = true := by
    intro ys
    induction ys with
    | nil => intro _; exact ⟨[], rfl, rfl, Nat.le_refl _, fun a ha => (List.not_mem_nil ha).elim⟩
    | cons y ys ih =>
      intro hy
      obtain ⟨L, h1, h2, h3, h4⟩ := ih fun z hz => hy z (List.mem_cons_of_mem _ hz)
      obtain ⟨-, ht⟩ := hy y (List.mem_cons_self ..)
      obtain ⟨k, z, f, e, hz, hs⟩ := read_act ht
      refine ⟨(k, f, z) :: L, by simp [h1], ?_, ?_, fun a ha => ?_⟩
      · rw [List.map_cons, List.flatten_cons, h2, e]; rfl
      · unfold szA at h3 ⊢
        simp only [List.map_cons, List.sum_cons, Rows.uptoBulkAll]
        omega
      · rcases List.mem_cons.1 ha with rfl | ha
        · exact hz
        · exact h4 a ha
  obtain ⟨L, h1, h2, h3, h4⟩ := key ys hel
  have hl := bulk_len (ys.map (·.2.1))
  rw [List.length_map] at hl
  rw [← h1, h2] at hfl
  refine ⟨L, hfl, by omega, by omega, fun a ha => ⟨?_, h4 a ha⟩⟩
  have : a.2.1.size + 2 ≤ szA L := by
    clear h1 h2 h3 h4 hfl
    induction L with
    | nil => cases ha
    | cons b L ih =>
      unfold szA at ih ⊢
      simp only [List.map_cons, List.sum_cons]
      rcases List.mem_cons.1 ha with rfl | ha
      · omega
      · have := ih ha; omega
  omega
theorem read_names {fuel : Nat} {c : Value} {x : DataW H × List MemPlace} (h : DataW.trod enc_ Tryd.prog w base spare held fuel 23 [c] = some x) (hb : Rows.uptoBulk x.1 ≤ 1048576) : ∃ ns : List ByteArray, Names w c ns := by
  obtain ⟨n, ys, -, hfl, hel, hsum⟩ := rd_flat Tryd.underlying23 co_text (by decide) h
  have key : ∀ ys : List (List Value × (DataW H × List MemPlace)), (∀ y ∈ ys, y.1.length = 1 ∧ DataW.trod enc_ Tryd.prog w base spare held n 9 y.1 = some y.2) →
      ∃ L : List ByteArray, L.length = ys.length ∧ (ys.map (·.1)).flatten = L.map Value.string ∧ ∀ a ∈ L, a.size ≤ Rows.uptoBulkAll (ys.map (·.2.1)) := by
    intro ys
    induction ys with
    | nil => intro _; exact ⟨[], rfl, rfl, fun a ha => (List.not_mem_nil ha).elim⟩
    | cons y ys ih =>
      intro hy
      obtain ⟨L, h1, h2, h3⟩ := ih fun z hz => hy z (List.mem_cons_of_mem _ hz)
      obtain ⟨hl, ht⟩ := hy y (List.mem_cons_self ..)
      obtain ⟨c0, e⟩ : ∃ c0, y.1 = [c0] := List.length_eq_one_iff.1 hl
      rw [e] at ht
      obtain ⟨f, rfl, hs⟩ := rd_string' Tryd.underlying9 ht
      refine ⟨f :: L, by simp [h1], ?_, fun a ha => ?_⟩
      · rw [List.map_cons, List.flatten_cons, h2, e]; rfl
      · simp only [List.map_cons, Rows.uptoBulkAll]
        rcases List.mem_cons.1 ha with rfl | ha
        · omega
        · have := h3 a ha; omega
  obtain ⟨L, h1, h2, h3⟩ := key ys hel
  have hl := bulk_len (ys.map (·.2.1))
  rw [List.length_map] at hl
  rw [h2] at hfl
  exact ⟨L, Sl_of hfl h1.symm, by omega, fun a ha => by have := h3 a ha; omega⟩
end
end Go.Proofs.YtflomcbclofbaaaDoor
