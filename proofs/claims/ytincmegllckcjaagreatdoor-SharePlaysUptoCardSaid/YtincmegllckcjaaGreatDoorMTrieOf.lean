/- TRIE: a trie that holds a list. TRIE: what each call does to the list. -/
import Derived.Test.YtincmegllckcjaaGreatDoorTrieRemove
namespace Go.Proofs.YtincmegllckcjaaGreatDoor
section
open Go Go.RowKit

/-- the filters with their numbers -/
abbrev Subs := List (ByteArray × Int)
def totalS (l : Subs) : Nat := (l.map fun x => x.1.size + 1).sum
structure TOf (W : World) (base sz t : Nat) (T : List Nd) (l : Subs) : Prop where
  tri : Tri W base sz t T (l.length : Nat)
  lean : Lean_ T fun _ => False
  at_ : ∀ p z, IdAt T p z ↔ ∃ f, (f, z) ∈ l ∧ levels f = p
  ok : ∀ x ∈ l, filterB x.1 = true
  nd : l.Nodup
theorem TOf.below {W W' : World} {base sz t : Nat} {T : List Nd} {l : Subs} (h : TOf W base sz t T l) (hb : Below W.heap.size W W') : TOf W' base sz t T l := ⟨h.tri.below hb, h.lean, h.at_, h.ok, h.nd⟩
theorem lean_leaf {W : World} {base sz : Nat} {T : List Nd} (h : TrieIs W base sz T) (hl : Lean_ T fun _ => False) : ∀ (n : Nat) (y : Nd), y ∈ T → y.path ≠ [] → (∀ u ∈ T, u.path.length ≤ y.path.length + n) → ∃ r z, IdAt T (y.path ++ r) z
  | 0, y, hy, hp, hd => by
    rcases hl y hy hp (fun e => e) with h1 | ⟨u, hu, s, h1⟩
    · obtain ⟨z, hz⟩ := List.exists_mem_of_ne_nil _ h1
      exact ⟨[], z, y, hy, by simp, hz⟩
    · have := hd u hu
      rw [h1, List.length_append, List.length_singleton] at this
      omega
  | n + 1, y, hy, hp, hd => by
    rcases hl y hy hp (fun e => e) with h1 | ⟨u, hu, s, h1⟩
    · obtain ⟨z, hz⟩ := List.exists_mem_of_ne_nil _ h1
      exact ⟨[], z, y, hy, by simp, hz⟩
    · obtain ⟨r, z, h2⟩ := lean_leaf h hl n u hu (by rw [h1]; simp) (fun v hv => by have := hd v hv; rw [h1]; simp; omega)
      exact ⟨[s] ++ r, z, by rw [h1, List.append_assoc] at h2; exact h2⟩
theorem TOf.path {W : World} {base sz t : Nat} {T : List Nd} {l : Subs} (h : TOf W base sz t T l) {y : Nd} (hy : y ∈ T) (hp : y.path ≠ []) : ∃ x ∈ l, ∃ r, levels x.1 = y.path ++ r := by
  obtain ⟨d, hd⟩ := depth_of T
  obtain ⟨r, z, hI⟩ := lean_leaf h.tri.is h.lean d y hy hp (fun u hu => by have := hd u hu; omega)
  obtain ⟨f, hf, e⟩ := (h.at_ _ z).1 hI
  exact ⟨(f, z), hf, r, e⟩
theorem TOf.paths {W : World} {base sz t : Nat} {T : List Nd} {l : Subs} (h : TOf W base sz t T l) (p : List ByteArray) : (∃ y ∈ T, y.path = p) ↔ p = [] ∨ ∃ x ∈ l, ∃ r, levels x.1 = p ++ r := by
  constructor
  · rintro ⟨y, hy, rfl⟩
    rcases Classical.em (y.path = []) with e | e
    · exact .inl e
    · exact .inr (h.path hy e)
  · rintro (rfl | ⟨x, hx, r, e⟩)
    · exact h.tri.is.root
    · obtain ⟨u, hu, hup, -⟩ := (h.at_ (levels x.1) x.2).2 ⟨x.1, hx, rfl⟩
      exact h.tri.is.pre r.length r rfl u hu (hup.trans e)
theorem pre_size (p : List ByteArray) : (pre p).size = (p.map fun l => l.size + 1).sum := by
  have : ∀ (p : List ByteArray) (a : ByteArray), (p.foldl (fun a l => a ++ l ++ slashS) a).size = a.size + (p.map fun l => l.size + 1).sum := by
    intro p
    induction p with
    | nil => intro a; rfl
    | cons l p ih =>
      intro a
      rw [List.foldl_cons, ih, ByteArray.size_append, ByteArray.size_append, List.map_cons, List.sum_cons]
      have : slashS.size = 1 := rfl
      omega
  have h := this p ByteArray.empty
  have e : ByteArray.empty.size = 0 := rfl
  rw [e, Nat.zero_add] at h
  exact h
theorem splitS_sum (l : List UInt8) : ((splitS l).map fun x => x.length + 1).sum = l.length + 1 := by
  induction l with
  | nil => rfl
  | cons c l ih =>
    unfold splitS
    split
    · rw [List.map_cons, List.sum_cons, ih]; simp; omega
    · split
      · rename_i h; exact absurd h (splitS_ne l)
      · rename_i h t heq
        rw [heq] at ih
        simp at ih ⊢
        omega
theorem levels_sum (f : ByteArray) : ((levels f).map fun l => l.size + 1).sum = f.size + 1 := by
  have h := splitS_sum f.data.toList
  unfold levels
  rw [List.map_map]
  have e : ((splitS f.data.toList).map ((fun l => l.size + 1) ∘ ba)) = (splitS f.data.toList).map fun x => x.length + 1 := List.map_congr_left fun x _ => by
    show (ba x).data.size + 1 = _
    simp [ba]
  rw [e, h]
  rfl
theorem pre_le {f : ByteArray} {p r : List ByteArray} (h : levels f = p ++ r) : (pre p).size ≤ f.size + 1 := by
  have := levels_sum f
  rw [h, List.map_append, List.sum_append] at this
  rw [pre_size]
  omega
theorem TOf.pre {W : World} {base sz t : Nat} {T : List Nd} {l : Subs} (h : TOf W base sz t T l) {N : Nat} (hN : ∀ x ∈ l, x.1.size ≤ N) : ∀ y ∈ T, (Go.Proofs.YtincmegllckcjaaGreatDoor.pre y.path).size ≤ N + 1 := by
  intro y hy
  rcases Classical.em (y.path = []) with e | e
  · rw [e]
    have : (Go.Proofs.YtincmegllckcjaaGreatDoor.pre []).size = 0 := rfl
    omega
  · obtain ⟨x, hx, r, e⟩ := h.path hy e
    have := pre_le e
    have := hN x hx
    omega
/-- all beginnings -/
def begs (l : Subs) : List (List ByteArray) := l.flatMap fun x => (List.range (levels x.1).length).map fun i => (levels x.1).take (i + 1)
theorem mem_begs {l : Subs} {p : List ByteArray} : p ∈ begs l ↔ p ≠ [] ∧ ∃ x ∈ l, ∃ r, levels x.1 = p ++ r := by
  unfold begs
  rw [List.mem_flatMap]
  constructor
  · rintro ⟨x, hx, hp⟩
    obtain ⟨i, hi, rfl⟩ := List.mem_map.1 hp
    rw [List.mem_range] at hi
    refine ⟨fun e => ?_, x, hx, _, (List.take_append_drop (i + 1) _).symm⟩
    have := congrArg List.length e
    rw [List.length_take, List.length_nil] at this
    omega
  · rintro ⟨hp, x, hx, r, e⟩
    refine ⟨x, hx, List.mem_map.2 ⟨p.length - 1, ?_, ?_⟩⟩
    · rw [List.mem_range, e, List.length_append]
      have := List.length_pos_iff.2 hp
      omega
    · have := List.length_pos_iff.2 hp
      rw [e, show p.length - 1 + 1 = p.length by omega, List.take_left]
theorem begs_len (l : Subs) : (begs l).length ≤ totalS l := by
  unfold begs totalS
  induction l with
  | nil => simp
  | cons x l ih =>
    rw [List.flatMap_cons, List.length_append, List.length_map, List.length_range, List.map_cons, List.sum_cons]
    have := levels_len x.1
    omega
theorem TOf.len {W : World} {base sz t : Nat} {T : List Nd} {l : Subs} (h : TOf W base sz t T l) : T.length ≤ totalS l + 1 := by
  have hnd : (T.map (·.path)).Nodup := List.pairwise_map.2 (h.tri.is.paths.imp fun h => h)
  have := nodup_le (m := [] :: begs l) hnd (fun p hp => by
    obtain ⟨y, hy, rfl⟩ := List.mem_map.1 hp
    rcases Classical.em (y.path = []) with e | e
    · rw [e]; exact List.mem_cons_self ..
    · exact List.mem_cons_of_mem _ (mem_begs.2 ⟨e, h.path hy e⟩))
  rw [List.length_map, List.length_cons] at this
  have := begs_len l
  omega
end
section
open Go Go.RowKit

def flatS (L : List (List UInt8)) : List UInt8 := L.flatMap fun x => x ++ [47]
theorem flatS_split (l : List UInt8) : flatS (splitS l) = l ++ [47] := by
  induction l with
  | nil => rfl
  | cons c l ih =>
    unfold splitS
    split
    · rename_i h
      have : c = 47 := by simpa using h
      subst this
      show [] ++ [47] ++ flatS (splitS l) = _
      rw [ih]; rfl
    · split
      · rename_i h; exact absurd h (splitS_ne l)
      · rename_i h t heq
        rw [heq] at ih
        show (c :: h) ++ [47] ++ flatS t = _
        have e : h ++ [47] ++ flatS t = l ++ [47] := ih
        rw [List.cons_append, List.cons_append, List.cons_append, e]
theorem bytes_eq {s t : ByteArray} (h : s.data.toList = t.data.toList) : s = t := bytes_inj h
theorem pre_bytes (p : List ByteArray) : (pre p).data.toList = flatS (p.map fun l => l.data.toList) := by
  have : ∀ (p : List ByteArray) (a : ByteArray), (p.foldl (fun a l => a ++ l ++ slashS) a).data.toList = a.data.toList ++ flatS (p.map fun l => l.data.toList) := by
    intro p
    induction p with
    | nil => intro a; simp [flatS]
    | cons l p ih =>
      intro a
      rw [List.foldl_cons, ih]
      have e : (a ++ l ++ slashS).data.toList = a.data.toList ++ l.data.toList ++ [47] := by
        rw [ByteArray.data_append, ByteArray.data_append, Array.toList_append, Array.toList_append]; rfl
      rw [e]
      simp [flatS]
  have h := this p ByteArray.empty
  have e : ByteArray.empty.data.toList = [] := rfl
  rw [e, List.nil_append] at h
  exact h
theorem levels_bytes (f : ByteArray) : (levels f).map (fun l => l.data.toList) = splitS f.data.toList := by
  unfold levels
  rw [List.map_map]
  conv => rhs; rw [← List.map_id (splitS f.data.toList)]
  exact List.map_congr_left fun x _ => by simp [ba]
theorem pre_levels (f : ByteArray) : (pre (levels f)).data.toList = f.data.toList ++ [47] := by rw [pre_bytes, levels_bytes, flatS_split]
theorem levels_one {f g : ByteArray} (h : levels f = levels g) : f = g := by
  have h1 := pre_levels f
  rw [h, pre_levels g] at h1
  exact bytes_inj (List.append_cancel_right h1).symm
theorem txt_pre {p : List ByteArray} (h : p ≠ []) : (pre p).data.toList = (txt p).data.toList ++ [47] := by
  obtain ⟨q, l, rfl⟩ : ∃ q l, p = q ++ [l] := ⟨p.dropLast, p.getLast h, (List.dropLast_concat_getLast h).symm⟩
  rw [txt_snoc, pre_snoc, ByteArray.data_append, Array.toList_append]
  rfl
theorem txt_levels (f : ByteArray) : txt (levels f) = f := by
  have h1 := txt_pre (levels_ne f)
  rw [pre_levels f] at h1
  exact bytes_inj (List.append_cancel_right h1).symm
theorem TOf.has {W : World} {base sz t : Nat} {T : List Nd} {l : Subs} (h : TOf W base sz t T l) (f : ByteArray) (z : Int) : IdAt T (levels f) z ↔ (f, z) ∈ l := by
  rw [h.at_]
  constructor
  · rintro ⟨g, hg, e⟩; rw [levels_one e] at hg; exact hg
  · intro hg; exact ⟨f, hg, rfl⟩
/-- the numbers that hear a name -/
def heardBy (l : Subs) (s : ByteArray) (z : Int) : Prop := nameB s.data.toList = true ∧ ∃ f, (f, z) ∈ l ∧ Agr (levels s) (!dollarB s.data.toList) (levels f)
theorem TOf.hears {W : World} {base sz t : Nat} {T : List Nd} {l : Subs} (h : TOf W base sz t T l) (s : ByteArray) (z : Int) : Hears T s z ↔ heardBy l s z := by
  unfold Hears heardBy
  refine and_congr_right fun _ => ⟨?_, ?_⟩
  · rintro ⟨F, h1, h2⟩
    obtain ⟨f, hf, rfl⟩ := (h.at_ F z).1 h2
    exact ⟨f, hf, h1⟩
  · rintro ⟨f, hf, h1⟩
    exact ⟨levels f, h1, (h.at_ _ z).2 ⟨f, hf, rfl⟩⟩
/-- New -/
theorem tof_new (w : World) : Calls Tryz.prog 22 #[] w fun e w' => ∃ t T, e = .returned (.pointer (some ⟨t, 0, none⟩)) ∧ TOf w' w.heap.size 0 t T [] ∧ w.heap.size ≤ t ∧ Below w.heap.size w w' := by
  refine (new_any w).mono ?_
  rintro e w' ⟨t, x, rfl, h1, h2, h3, h4⟩
  refine ⟨t, [x], rfl, ⟨h1, ?_, ?_, (fun x hx => by cases hx), List.nodup_nil⟩, h1.bt, h4⟩
  · intro y hy hp
    rw [List.mem_singleton] at hy
    subst hy
    exact absurd h2 hp
  · intro p z
    constructor
    · rintro ⟨y, hy, -, hz⟩
      rw [List.mem_singleton] at hy
      subst hy
      rw [h3] at hz
      cases hz
    · rintro ⟨f, hf, -⟩; cases hf
open Classical in
noncomputable def addS (l : Subs) (f : ByteArray) (z : Int) : Subs := if filterB f = true ∧ (f, z) ∉ l then l ++ [(f, z)] else l
theorem tof_add {w : World} {base sz t : Nat} {T : List Nd} {l : Subs} (f : ByteArray) (z : Int) (h : TOf w base sz t T l) (hf : f.size ≤ 1048576) (hT : Tabs w) (hsz : sz ≤ 50000000) (hl : l.length ≤ 100000000) :
    Calls Tryz.prog 24 #[.pointer (some ⟨t, 0, none⟩), .string f, .int .i64 z] w fun e w' => ∃ (ok : Bool) (T' : List Nd), e = .returned (.bool ok) ∧ (ok = true ↔ filterB f = true ∧ (f, z) ∉ l) ∧ TOf w' base (sz + f.size + 2) t T' (addS l f z) ∧ Frame (fun b => b = t ∨ foot T b) w w' ∧ (∀ b, foot T' b → foot T b ∨ w.heap.size ≤ b) := by
  refine (add_any w base sz t T (l.length : Nat) f z h.tri h.lean hf hT hsz ⟨by omega, by omega⟩).mono ?_
  rintro e w' ⟨ok, T', rfl, h1, h2, h3, h4, h5, h6⟩
  rw [h.has] at h5
  have hlv := levels_len f
  have hn : (if ok then ((l.length : Nat) : Int) + 1 else (l.length : Nat)) = ((addS l f z).length : Nat) := by
    rcases Classical.em (filterB f = true ∧ (f, z) ∉ l) with h7 | h7
    · rw [if_pos (h5.2 h7)]; unfold addS; rw [if_pos h7]; simp
    · rw [if_neg (fun e => h7 (h5.1 e))]; unfold addS; rw [if_neg h7]
  rw [hn] at h1
  refine ⟨ok, T', rfl, h5, ⟨⟨h1.is.more (by omega), h1.root, h1.bt, h1.free⟩, h2, fun p y => ?_, ?_, ?_⟩, h3, h4⟩
  · rw [h6, h.at_]
    unfold addS
    split
    · rename_i h7
      constructor
      · rintro (⟨g, hg, e⟩ | ⟨-, e1, e2⟩)
        · exact ⟨g, List.mem_append_left _ hg, e⟩
        · exact ⟨f, List.mem_append_right _ (by rw [e2]; exact List.mem_singleton.2 rfl), e1.symm⟩
      · rintro ⟨g, hg, e⟩
        rcases List.mem_append.1 hg with hg | hg
        · exact .inl ⟨g, hg, e⟩
        · rw [List.mem_singleton] at hg
          injection hg with e1 e2
          subst e1
          exact .inr ⟨h7.1, e.symm, e2⟩
    · rename_i h7
      constructor
      · rintro (h8 | ⟨e0, e1, e2⟩)
        · exact h8
        · subst e1; subst e2
          rcases Classical.em ((f, y) ∈ l) with h9 | h9
          · exact ⟨f, h9, rfl⟩
          · exact absurd ⟨e0, h9⟩ h7
      · exact .inl
  · unfold addS
    split
    · rename_i h7
      intro x hx
      rcases List.mem_append.1 hx with hx | hx
      · exact h.ok x hx
      · rw [List.mem_singleton] at hx; subst hx; exact h7.1
    · exact h.ok
  · unfold addS
    split
    · rename_i h7
      refine List.nodup_append.2 ⟨h.nd, List.nodup_cons.2 ⟨List.not_mem_nil, List.nodup_nil⟩, fun a ha b hb e => ?_⟩
      rw [List.mem_singleton] at hb
      subst hb; subst e
      exact h7.2 ha
    · exact h.nd
open Classical in
noncomputable def subS (l : Subs) (f : ByteArray) (z : Int) : Subs := l.filter fun x => decide (x ≠ (f, z))
theorem mem_subS {l : Subs} {f : ByteArray} {z : Int} {x : ByteArray × Int} : x ∈ subS l f z ↔ x ∈ l ∧ x ≠ (f, z) := by unfold subS; simp
theorem subS_not {l : Subs} {f : ByteArray} {z : Int} (h : (f, z) ∉ l) : subS l f z = l := by
  unfold subS
  exact List.filter_eq_self.2 fun x hx => by
    simp only [decide_eq_true_eq]
    intro e
    exact h (e ▸ hx)
theorem subS_len {f : ByteArray} {z : Int} : ∀ {l : Subs}, l.Nodup → (f, z) ∈ l → (subS l f z).length + 1 = l.length
  | [], _, h => by cases h
  | x :: l, hnd, h => by
    rw [List.nodup_cons] at hnd
    rcases Classical.em (x = (f, z)) with e | e
    · subst e
      have h1 := subS_not hnd.1
      have : subS ((f, z) :: l) f z = subS l f z := by unfold subS; rw [List.filter_cons_of_neg (by simp)]
      rw [this, h1, List.length_cons]
    · have h2 : (f, z) ∈ l := by
        rcases List.mem_cons.1 h with h3 | h3
        · exact absurd h3.symm e
        · exact h3
      have h1 := subS_len hnd.2 h2
      have : subS (x :: l) f z = x :: subS l f z := by unfold subS; rw [List.filter_cons_of_pos (by simpa using e)]
      rw [this, List.length_cons, List.length_cons, h1]
theorem tof_remove {w : World} {base sz t : Nat} {T : List Nd} {l : Subs} (f : ByteArray) (z : Int) (h : TOf w base sz t T l) (hf : f.size ≤ 1048576) (hT : Tabs w) (hsz : sz ≤ 100000000) (hl : l.length ≤ 100000000) :
    Calls Tryz.prog 55 #[.pointer (some ⟨t, 0, none⟩), .string f, .int .i64 z] w fun e w' => ∃ (ok : Bool) (T' : List Nd), e = .returned (.bool ok) ∧ (ok = true ↔ (f, z) ∈ l) ∧ TOf w' base sz t T' (subS l f z) ∧ Frame (fun b => b = t ∨ foot T b) w w' ∧ (∀ b, foot T' b → foot T b) := by
  refine (remove_any w base sz t T (l.length : Nat) f z h.tri h.lean hf hT hsz ⟨by omega, by omega⟩).mono ?_
  rintro e w' ⟨ok, T', rfl, h5, h1, h6, h2, h4, h3, -⟩
  have h7 : ok = true ↔ (f, z) ∈ l := by
    rw [h5, h.has]
    exact ⟨fun h => h.2, fun h8 => ⟨h.ok _ h8, h8⟩⟩
  have hn : (if ok then ((l.length : Nat) : Int) - 1 else (l.length : Nat)) = ((subS l f z).length : Nat) := by
    rcases Classical.em ((f, z) ∈ l) with h8 | h8
    · rw [if_pos (h7.2 h8)]
      have := subS_len h.nd h8
      omega
    · rw [if_neg (fun e => h8 (h7.1 e)), subS_not h8]
  rw [hn] at h1
  refine ⟨ok, T', rfl, h7, ⟨h1, h2, fun p y => ?_, fun x hx => h.ok x (mem_subS.1 hx).1, h.nd.filter _⟩, h3, h4⟩
  rw [h6, h.at_]
  constructor
  · rintro ⟨⟨g, hg, e⟩, h8⟩
    refine ⟨g, mem_subS.2 ⟨hg, fun e2 => h8 ?_⟩, e⟩
    injection e2 with e3 e4
    subst e3
    exact ⟨h.ok _ hg, e.symm, e4⟩
  · rintro ⟨g, hg, e⟩
    obtain ⟨h8, h9⟩ := mem_subS.1 hg
    refine ⟨⟨g, h8, e⟩, fun h10 => h9 ?_⟩
    rw [levels_one (e.trans h10.2.1), h10.2.2]
/-- Match -/
theorem tof_match {w : World} {base sz t : Nat} {T : List Nd} {l : Subs} (s : ByteArray) (h : TOf w base sz t T l) (hs : s.size ≤ 1048576) (hT : Tabs w) (hsz : sz ≤ 100000000) (hwf : ∀ x ∈ l, (Lit.int .i64 x.2).wf = true) (hl : l.length ≤ 100000000) :
    Calls Tryz.prog 28 #[.pointer (some ⟨t, 0, none⟩), .string s] w fun e w' => ∃ v ids, e = .returned v ∧ IRow w' w.heap.size v ids ∧ ids.Pairwise (· < ·) ∧ (∀ z, z ∈ ids ↔ heardBy l s z) ∧ Below w.heap.size w w' := by
  refine (matchT_any w base sz t T _ (l.map (·.2)) s h.tri hs hT hsz (fun p z hz => ?_) (fun z hz => ?_) (by rw [List.length_map]; exact hl)).mono ?_
  · obtain ⟨f, hf, -⟩ := (h.at_ p z).1 hz
    exact List.mem_map_of_mem (f := (·.2)) hf
  · obtain ⟨x, hx, rfl⟩ := List.mem_map.1 hz
    exact hwf x hx
  · rintro e w' ⟨v, ids, rfl, h1, h2, h3, h4⟩
    exact ⟨v, ids, rfl, h1, h2, fun z => (h3 z).trans (h.hears s z), h4⟩
end
end Go.Proofs.YtincmegllckcjaaGreatDoor
