/- TRIE: what each call does to the list. -/
import Derived.Test.YtflomcbclofbaaaDoorTrieOf
namespace Go.Proofs.YtflomcbclofbaaaDoor
open Go Go.RowKit

def flatS (L : List (List UInt8)) : List UInt8 := L.flatMap fun x => x ++ [47]
theorem flatS_split (l : List UInt8) : flatS (splitS l) = l ++ [47] := by
  induction l with
  | nil => rfl
  | cons c l ih =>
    unfold splitS
    split
    · rename_i h
      have : c = 47 := by simpa using h
      subst this
      show [] ++ [47] ++ flatS (splitS l) = _
      rw [ih]; rfl
    · split
      · rename_i h; exact absurd h (splitS_ne l)
      · rename_i h t heq
        rw [heq] at ih
        show (c :: h) ++ [47] ++ flatS t = _
        have e : h ++ [47] ++ flatS t = l ++ [47] := ih
        rw [List.cons_append, List.cons_append, List.cons_append, e]
theorem bytes_eq {s t : ByteArray} (h : s.data.toList = t.data.toList) : s = t := bytes_inj h
theorem pre_bytes (p : List ByteArray) : (pre p).data.toList = flatS (p.map fun l => l.data.toList) := by
  have : ∀ (p : List ByteArray) (a : ByteArray), (p.foldl (fun a l => a ++ l ++ slashS) a).data.toList = a.data.toList ++ flatS (p.map fun l => l.data.toList) := by
    intro p
    induction p with
    | nil => intro a; simp [flatS]
    | cons l p ih =>
      intro a
      rw [List.foldl_cons, ih]
      have e : (a ++ l ++ slashS).data.toList = a.data.toList ++ l.data.toList ++ [47] := by
        rw [ByteArray.data_append, ByteArray.data_append, Array.toList_append, Array.toList_append]; rfl
      rw [e]
      simp [flatS]
  have h := this p ByteArray.empty
  have e : ByteArray.empty.data.toList = [] := rfl
  rw [e, List.nil_append] at h
  exact h
theorem levels_bytes (f : ByteArray) : (levels f).map (fun l => l.data.toList) = splitS f.data.toList := by
  unfold levels
  rw [List.map_map]
  conv => rhs; rw [← List.map_id (splitS f.data.toList)]
  exact List.map_congr_left fun x _ => by simp [ba]
theorem pre_levels (f : ByteArray) : (pre (levels f)).data.toList = f.data.toList ++ [47] := by rw [pre_bytes, levels_bytes, flatS_split]
theorem levels_one {f g : ByteArray} (h : levels f = levels g) : f = g := by
  have h1 := pre_levels f
  rw [h, pre_levels g] at h1
  exact bytes_inj (List.append_cancel_right h1).symm
theorem txt_pre {p : List ByteArray} (h : p ≠ []) : (pre p).data.toList = (txt p).data.toList ++ [47] := by
  obtain ⟨q, l, rfl⟩ : ∃ q l, p = q ++ [l] := ⟨p.dropLast, p.getLast h, (List.dropLast_concat_getLast h).symm⟩
  rw [txt_snoc, pre_snoc, ByteArray.data_append, Array.toList_append]
  rfl
theorem txt_levels (f : ByteArray) : txt (levels f) = f := by
  have h1 := txt_pre (levels_ne f)
  rw [pre_levels f] at h1
  exact bytes_inj (List.append_cancel_right h1).symm
theorem TOf.has {W : World} {base sz t : Nat} {T : List Nd} {l : Subs} (h : TOf W base sz t T l) (f : ByteArray) (z : Int) : IdAt T (levels f) z ↔ (f, z) ∈ l := by
  rw [h.at_]
  constructor
  · rintro ⟨g, hg, e⟩; rw [levels_one e] at hg; exact hg
  · intro hg; exact ⟨f, hg, rfl⟩
/-- the numbers that hear a name -/
def heardBy (l : Subs) (s : ByteArray) (z : Int) : Prop := nameB s.data.toList = true ∧ ∃ f, (f, z) ∈ l ∧ Agr (levels s) (!dollarB s.data.toList) (levels f)
theorem TOf.hears {W : World} {base sz t : Nat} {T : List Nd} {l : Subs} (h : TOf W base sz t T l) (s : ByteArray) (z : Int) : Hears T s z ↔ heardBy l s z := by
  unfold Hears heardBy
  refine and_congr_right fun _ => ⟨?_, ?_⟩
  · rintro ⟨F, h1, h2⟩
    obtain ⟨f, hf, rfl⟩ := (h.at_ F z).1 h2
    exact ⟨f, hf, h1⟩
  · rintro ⟨f, hf, h1⟩
    exact ⟨levels f, h1, (h.at_ _ z).2 ⟨f, hf, rfl⟩⟩
/-- New -/
theorem tof_new (w : World) : Calls Tryd.prog 16 #[] w fun e w' => ∃ t T, e = .returned (.pointer (some ⟨t, 0, none⟩)) ∧ TOf w' w.heap.size 0 t T [] ∧ w.heap.size ≤ t ∧ Below w.heap.size w w' := by
  refine (new_any w).mono ?_
  rintro e w' ⟨t, x, rfl, h1, h2, h3, h4⟩
  refine ⟨t, [x], rfl, ⟨h1, ?_, ?_, (fun x hx => by cases hx), List.nodup_nil⟩, h1.bt, h4⟩
  · intro y hy hp
    rw [List.mem_singleton] at hy
    subst hy
    exact absurd h2 hp
  · intro p z
    constructor
    · rintro ⟨y, hy, -, hz⟩
      rw [List.mem_singleton] at hy
      subst hy
      rw [h3] at hz
      cases hz
    · rintro ⟨f, hf, -⟩; cases hf
open Classical in
noncomputable def addS (l : Subs) (f : ByteArray) (z : Int) : Subs := if filterB f = true ∧ (f, z) ∉ l then l ++ [(f, z)] else l
theorem tof_add {w : World} {base sz t : Nat} {T : List Nd} {l : Subs} (f : ByteArray) (z : Int) (h : TOf w base sz t T l) (hf : f.size ≤ 1048576) (hT : Tabs w) (hsz : sz ≤ 50000000) (hl : l.length ≤ 100000000) :
    Calls Tryd.prog 6 #[.pointer (some ⟨t, 0, none⟩), .string f, .int .i64 z] w fun e w' => ∃ (ok : Bool) (T' : List Nd), e = .returned (.bool ok) ∧ (ok = true ↔ filterB f = true ∧ (f, z) ∉ l) ∧ TOf w' base (sz + f.size + 2) t T' (addS l f z) ∧ Frame (fun b => b = t ∨ foot T b) w w' ∧ (∀ b, foot T' b → foot T b ∨ w.heap.size ≤ b) := by
  refine (add_any w base sz t T (l.length : Nat) f z h.tri h.lean hf hT hsz ⟨by omega, by omega⟩).mono ?_
  rintro e w' ⟨ok, T', rfl, h1, h2, h3, h4, h5, h6⟩
  rw [h.has] at h5
  have hlv := levels_len f
  have hn : (if ok then ((l.length : Nat) : Int) + 1 else (l.length : Nat)) = ((addS l f z).length : Nat) := by
    rcases Classical.em (filterB f = true ∧ (f, z) ∉ l) with h7 | h7
    · rw [if_pos (h5.2 h7)]; unfold addS; rw [if_pos h7]; simp
    · rw [if_neg (fun e => h7 (h5.1 e))]; unfold addS; rw [if_neg h7]
  rw [hn] at h1
  refine ⟨ok, T', rfl, h5, ⟨⟨h1.is.more (by omega), h1.root, h1.bt, h1.free⟩, h2, fun p y => ?_, ?_, ?_⟩, h3, h4⟩
  · rw [h6, h.at_]
    unfold addS
    split
    · rename_i h7
      constructor
      · rintro (⟨g, hg, e⟩ | ⟨-, e1, e2⟩)
        · exact ⟨g, List.mem_append_left _ hg, e⟩
        · exact ⟨f, List.mem_append_right _ (by rw [e2]; exact List.mem_singleton.2 rfl), e1.symm⟩
      · rintro ⟨g, hg, e⟩
        rcases List.mem_append.1 hg with hg | hg
        · exact .inl ⟨g, hg, e⟩
        · rw [List.mem_singleton] at hg
          injection hg with e1 e2
          subst e1
          exact .inr ⟨h7.1, e.symm, e2⟩
    · rename_i h7
      constructor
      · rintro (h8 | ⟨e0, e1, e2⟩)
        · exact h8
        · subst e1; subst e2
          rcases Classical.em ((f, y) ∈ l) with h9 | h9
          · exact ⟨f, h9, rfl⟩
          · exact absurd ⟨e0, h9⟩ h7
      · exact .inl
  · unfold addS
    split
    · rename_i h7
      intro x hx
      rcases List.mem_append.1 hx with hx | hx
      · exact h.ok x hx
      · rw [List.mem_singleton] at hx; subst hx; exact h7.1
    · exact h.ok
  · unfold addS
    split
    · rename_i h7
      refine List.nodup_append.2 ⟨h.nd, List.nodup_cons.2 ⟨List.not_mem_nil, List.nodup_nil⟩, fun a ha b hb e => ?_⟩
      rw [List.mem_singleton] at hb
      subst hb; subst e
      exact h7.2 ha
    · exact h.nd
open Classical in
noncomputable def subS (l : Subs) (f : ByteArray) (z : Int) : Subs := l.filter fun x => decide (x ≠ (f, z))
theorem mem_subS {l : Subs} {f : ByteArray} {z : Int} {x : ByteArray × Int} : x ∈ subS l f z ↔ x ∈ l ∧ x ≠ (f, z) := by unfold subS; simp
theorem subS_not {l : Subs} {f : ByteArray} {z : Int} (h : (f, z) ∉ l) : subS l f z = l := by
  unfold subS
  exact List.filter_eq_self.2 fun x hx => by
    simp only [decide_eq_true_eq]
    intro e
    exact h (e ▸ hx)
theorem subS_len {f : ByteArray} {z : Int} : ∀ {l : Subs}, l.Nodup → (f, z) ∈ l → (subS l f z).length + 1 = l.length
  | [], _, h => by cases h
  | x :: l, hnd, h => by
    rw [List.nodup_cons] at hnd
    rcases Classical.em (x = (f, z)) with e | e
    · subst e
      have h1 := subS_not hnd.1
      have : subS ((f, z) :: l) f z = subS l f z := by unfold subS; rw [List.filter_cons_of_neg (by simp)]
      rw [this, h1, List.length_cons]
    · have h2 : (f, z) ∈ l := by
        rcases List.mem_cons.1 h with h3 | h3
        · exact absurd h3.symm e
        · exact h3
      have h1 := subS_len hnd.2 h2
      have : subS (x :: l) f z = x :: subS l f z := by unfold subS; rw [List.filter_cons_of_pos (by simpa using e)]
      rw [this, List.length_cons, List.length_cons, h1]
theorem tof_remove {w : World} {base sz t : Nat} {T : List Nd} {l : Subs} (f : ByteArray) (z : Int) (h : TOf w base sz t T l) (hf : f.size ≤ 1048576) (hT : Tabs w) (hsz : sz ≤ 100000000) (hl : l.length ≤ 100000000) :
    Calls Tryd.prog 11 #[.pointer (some ⟨t, 0, none⟩), .string f, .int .i64 z] w fun e w' => ∃ (ok : Bool) (T' : List Nd), e = .returned (.bool ok) ∧ (ok = true ↔ (f, z) ∈ l) ∧ TOf w' base sz t T' (subS l f z) ∧ Frame (fun b => b = t ∨ foot T b) w w' ∧ (∀ b, foot T' b → foot T b) := by
  refine (remove_any w base sz t T (l.length : Nat) f z h.tri h.lean hf hT hsz ⟨by omega, by omega⟩).mono ?_
  rintro e w' ⟨ok, T', rfl, h5, h1, h6, h2, h4, h3, -⟩
  have h7 : ok = true ↔ (f, z) ∈ l := by
    rw [h5, h.has]
    exact ⟨fun h => h.2, fun h8 => ⟨h.ok _ h8, h8⟩⟩
  have hn : (if ok then ((l.length : Nat) : Int) - 1 else (l.length : Nat)) = ((subS l f z).length : Nat) := by
    rcases Classical.em ((f, z) ∈ l) with h8 | h8
    · rw [if_pos (h7.2 h8)]
      have := subS_len h.nd h8
      omega
    · rw [if_neg (fun e => h8 (h7.1 e)), subS_not h8]
  rw [hn] at h1
  refine ⟨ok, T', rfl, h7, ⟨h1, h2, fun p y => ?_, fun x hx => h.ok x (mem_subS.1 hx).1, h.nd.filter _⟩, h3, h4⟩
  rw [h6, h.at_]
  constructor
  · rintro ⟨⟨g, hg, e⟩, h8⟩
    refine ⟨g, mem_subS.2 ⟨hg, fun e2 => h8 ?_⟩, e⟩
    injection e2 with e3 e4
    subst e3
    exact ⟨h.ok _ hg, e.symm, e4⟩
  · rintro ⟨g, hg, e⟩
    obtain ⟨h8, h9⟩ := mem_subS.1 hg
    refine ⟨⟨g, h8, e⟩, fun h10 => h9 ?_⟩
    rw [levels_one (e.trans h10.2.1), h10.2.2]
/-- Match -/
theorem tof_match {w : World} {base sz t : Nat} {T : List Nd} {l : Subs} (s : ByteArray) (h : TOf w base sz t T l) (hs : s.size ≤ 1048576) (hT : Tabs w) (hsz : sz ≤ 100000000) (hwf : ∀ x ∈ l, (Lit.int .i64 x.2).wf = true) (hl : l.length ≤ 100000000) :
    Calls Tryd.prog 7 #[.pointer (some ⟨t, 0, none⟩), .string s] w fun e w' => ∃ v ids, e = .returned v ∧ IRow w' w.heap.size v ids ∧ ids.Pairwise (· < ·) ∧ (∀ z, z ∈ ids ↔ heardBy l s z) ∧ Below w.heap.size w w' := by
  refine (matchT_any w base sz t T _ (l.map (·.2)) s h.tri hs hT hsz (fun p z hz => ?_) (fun z hz => ?_) (by rw [List.length_map]; exact hl)).mono ?_
  · obtain ⟨f, hf, -⟩ := (h.at_ p z).1 hz
    exact List.mem_map_of_mem (f := (·.2)) hf
  · obtain ⟨x, hx, rfl⟩ := List.mem_map.1 hz
    exact hwf x hx
  · rintro e w' ⟨v, ids, rfl, h1, h2, h3, h4⟩
    exact ⟨v, ids, rfl, h1, h2, fun z => (h3 z).trans (h.hears s z), h4⟩
/-- Under -/
theorem tof_under {w : World} {base sz t : Nat} {T : List Nd} {l : Subs} (f : ByteArray) (h : TOf w base sz t T l) (hf : f.size ≤ 1048576) (hT : Tabs w) (hsz : sz ≤ 100000000) :
    Calls Tryd.prog 13 #[.pointer (some ⟨t, 0, none⟩), .string f] w fun e w' => ∃ v ids, e = .returned v ∧ IRow w' w.heap.size v ids ∧ ids.Pairwise (· < ·) ∧ (∀ z, z ∈ ids ↔ (f, z) ∈ l) ∧ Below w.heap.size w w' := by
  refine (under_any w base sz t T _ f h.tri hf hT hsz).mono ?_
  rintro e w' ⟨v, ids, rfl, h1, h2, h3, h4⟩
  refine ⟨v, ids, rfl, h1, h2, fun z => ?_, h4⟩
  rw [h3, h.has]
  exact ⟨fun h => h.2, fun h5 => ⟨h.ok _ h5, h5⟩⟩
/-- Len -/
theorem tof_len {w : World} {base sz t : Nat} {T : List Nd} {l : Subs} (h : TOf w base sz t T l) :
    Calls Tryd.prog 14 #[.pointer (some ⟨t, 0, none⟩)] w fun e w' => e = .returned (.int .i64 (l.length : Nat)) ∧ w' = w := len_any w base sz t T _ h.tri
/-- Nodes -/
theorem tof_nodes {w : World} {base sz t : Nat} {T : List Nd} {l : Subs} (h : TOf w base sz t T l) (hl : totalS l ≤ 100000000) (hs : ∀ x ∈ l, x.1.size ≤ 900000) :
    Calls Tryd.prog 15 #[.pointer (some ⟨t, 0, none⟩)] w fun e w' => (∃ B : List (List ByteArray), e = .returned (.int .i64 (B.length : Nat)) ∧ B.Nodup ∧ ∀ p, p ∈ B ↔ p ∈ begs l) ∧ Below w.heap.size w w' := by
  refine (nodes_any w base sz t T _ h.tri (by have := h.len; omega) (fun y hy => by have := h.pre hs y hy; omega)).mono ?_
  rintro e w' ⟨V, rfl, h1, h2, h3⟩
  refine ⟨⟨V.map (·.path), by rw [List.length_map], ?_, fun p => ?_⟩, h3⟩
  · refine List.pairwise_map.2 (h1.imp_of_mem fun ha hb hne e => hne ?_)
    exact h.tri.is.one ((h2 _).1 ha).1 ((h2 _).1 hb).1 e
  · rw [mem_begs, List.mem_map]
    constructor
    · rintro ⟨y, hy, rfl⟩
      have := (h2 y).1 hy
      exact ⟨this.2, h.path this.1 this.2⟩
    · rintro ⟨hp, h4⟩
      obtain ⟨y, hy, rfl⟩ := (h.paths p).2 (.inr h4)
      exact ⟨y, (h2 y).2 ⟨hy, hp⟩, rfl⟩
/-- Filters -/
theorem tof_filters {w : World} {base sz t : Nat} {T : List Nd} {l : Subs} (h : TOf w base sz t T l) (hl : totalS l ≤ 90000000) (hs : ∀ x ∈ l, x.1.size ≤ 900000) :
    Calls Tryd.prog 12 #[.pointer (some ⟨t, 0, none⟩)] w fun e w' => (∃ v ss, e = .returned v ∧ SRow w' w.heap.size v (sortS ss) ∧ ss.Nodup ∧ (∀ f, f ∈ ss ↔ ∃ z, (f, z) ∈ l) ∧ ss.length ≤ totalS l + 1) ∧ Below w.heap.size w w' := by
  refine (filters_any w base sz t T _ h.tri (by have := h.len; omega) (fun y hy => by have := h.pre hs y hy; omega)).mono ?_
  rintro e w' ⟨v, ss, rfl, h1, h2, ⟨V, h3, h4, rfl⟩, h5⟩
  have hlev : ∀ y ∈ V, y.ids ≠ [] → ∃ f z, (f, z) ∈ l ∧ levels f = y.path := fun y hy hne => by
    obtain ⟨z, hz⟩ := List.exists_mem_of_ne_nil _ hne
    obtain ⟨f, hf, e⟩ := (h.at_ y.path z).1 ⟨y, ((h4 y).1 hy).1, rfl, hz⟩
    exact ⟨f, z, hf, e⟩
  refine ⟨⟨v, texts V, rfl, h1, ?_, fun f => ?_, by have := h.len; omega⟩, h5⟩
  · unfold texts
    refine List.pairwise_map.2 ((h3.filter _).imp_of_mem fun {a b} ha hb hne e => hne ?_)
    obtain ⟨ha1, ha2⟩ := List.mem_filter.1 ha
    obtain ⟨hb1, hb2⟩ := List.mem_filter.1 hb
    obtain ⟨f, z, -, e1⟩ := hlev a ha1 (by simpa using ha2)
    obtain ⟨g, y, -, e2⟩ := hlev b hb1 (by simpa using hb2)
    rw [← e1, ← e2, txt_levels, txt_levels] at e
    exact h.tri.is.one ((h4 a).1 ha1).1 ((h4 b).1 hb1).1 (by rw [← e1, ← e2, e])
  · unfold texts
    rw [List.mem_map]
    constructor
    · rintro ⟨y, hy, rfl⟩
      obtain ⟨hy1, hy2⟩ := List.mem_filter.1 hy
      obtain ⟨f, z, hf, e⟩ := hlev y hy1 (by simpa using hy2)
      rw [← e, txt_levels]
      exact ⟨z, hf⟩
    · rintro ⟨z, hz⟩
      obtain ⟨y, hy, hyp, hyz⟩ := (h.at_ (levels f) z).2 ⟨f, hz, rfl⟩
      refine ⟨y, List.mem_filter.2 ⟨(h4 y).2 ⟨hy, by rw [hyp]; exact levels_ne f⟩, ?_⟩, by rw [hyp, txt_levels]⟩
      simp only [decide_eq_true_eq]
      intro e
      rw [e] at hyz
      cases hyz
end Go.Proofs.YtflomcbclofbaaaDoor
