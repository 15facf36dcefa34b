/- TRIE: a trie that holds a list. -/
import Derived.Test.YtflomcbclofbaaaDoorTrieRemove
namespace Go.Proofs.YtflomcbclofbaaaDoor
open Go Go.RowKit

/-- the filters with their numbers -/
abbrev Subs := List (ByteArray × Int)
def totalS (l : Subs) : Nat := (l.map fun x => x.1.size + 1).sum
structure TOf (W : World) (base sz t : Nat) (T : List Nd) (l : Subs) : Prop where
  tri : Tri W base sz t T (l.length : Nat)
  lean : Lean_ T fun _ => False
  at_ : ∀ p z, IdAt T p z ↔ ∃ f, (f, z) ∈ l ∧ levels f = p
  ok : ∀ x ∈ l, filterB x.1 = true
  nd : l.Nodup
theorem TOf.below {W W' : World} {base sz t : Nat} {T : List Nd} {l : Subs} (h : TOf W base sz t T l) (hb : Below W.heap.size W W') : TOf W' base sz t T l := ⟨h.tri.below hb, h.lean, h.at_, h.ok, h.nd⟩
theorem lean_leaf {W : World} {base sz : Nat} {T : List Nd} (h : TrieIs W base sz T) (hl : Lean_ T fun _ => False) : ∀ (n : Nat) (y : Nd), y ∈ T → y.path ≠ [] → (∀ u ∈ T, u.path.length ≤ y.path.length + n) → ∃ r z, IdAt T (y.path ++ r) z
  | 0, y, hy, hp, hd => by
    rcases hl y hy hp (fun e => e) with h1 | ⟨u, hu, s, h1⟩
    · obtain ⟨z, hz⟩ := List.exists_mem_of_ne_nil _ h1
      exact ⟨[], z, y, hy, by simp, hz⟩
    · have := hd u hu
      rw [h1, List.length_append, List.length_singleton] at this
      omega
  | n + 1, y, hy, hp, hd => by
    rcases hl y hy hp (fun e => e) with h1 | ⟨u, hu, s, h1⟩
    · obtain ⟨z, hz⟩ := List.exists_mem_of_ne_nil _ h1
      exact ⟨[], z, y, hy, by simp, hz⟩
    · obtain ⟨r, z, h2⟩ := lean_leaf h hl n u hu (by rw [h1]; simp) (fun v hv => by have := hd v hv; rw [h1]; simp; omega)
      exact ⟨[s] ++ r, z, by rw [h1, List.append_assoc] at h2; exact h2⟩
theorem TOf.path {W : World} {base sz t : Nat} {T : List Nd} {l : Subs} (h : TOf W base sz t T l) {y : Nd} (hy : y ∈ T) (hp : y.path ≠ []) : ∃ x ∈ l, ∃ r, levels x.1 = y.path ++ r := by
  obtain ⟨d, hd⟩ := depth_of T
  obtain ⟨r, z, hI⟩ := lean_leaf h.tri.is h.lean d y hy hp (fun u hu => by have := hd u hu; omega)
  obtain ⟨f, hf, e⟩ := (h.at_ _ z).1 hI
  exact ⟨(f, z), hf, r, e⟩
theorem TOf.paths {W : World} {base sz t : Nat} {T : List Nd} {l : Subs} (h : TOf W base sz t T l) (p : List ByteArray) : (∃ y ∈ T, y.path = p) ↔ p = [] ∨ ∃ x ∈ l, ∃ r, levels x.1 = p ++ r := by
  constructor
  · rintro ⟨y, hy, rfl⟩
    rcases Classical.em (y.path = []) with e | e
    · exact .inl e
    · exact .inr (h.path hy e)
  · rintro (rfl | ⟨x, hx, r, e⟩)
    · exact h.tri.is.root
    · obtain ⟨u, hu, hup, -⟩ := (h.at_ (levels x.1) x.2).2 ⟨x.1, hx, rfl⟩
      exact h.tri.is.pre r.length r rfl u hu (hup.trans e)
theorem pre_size (p : List ByteArray) : (pre p).size = (p.map fun l => l.size + 1).sum := by
  have : ∀ (p : List ByteArray) (a : ByteArray), (p.foldl (fun a l => a ++ l ++ slashS) a).size = a.size + (p.map fun l => l.size + 1).sum := by
    intro p
    induction p with
    | nil => intro a; rfl
    | cons l p ih =>
      intro a
      rw [List.foldl_cons, ih, ByteArray.size_append, ByteArray.size_append, List.map_cons, List.sum_cons]
      have : slashS.size = 1 := rfl
      omega
  have h := this p ByteArray.empty
  have e : ByteArray.empty.size = 0 := rfl
  rw [e, Nat.zero_add] at h
  exact h
theorem splitS_sum (l : List UInt8) : ((splitS l).map fun x => x.length + 1).sum = l.length + 1 := by
  induction l with
  | nil => rfl
  | cons c l ih =>
    unfold splitS
    split
    · rw [List.map_cons, List.sum_cons, ih]; simp; omega
    · split
      · rename_i h; exact absurd h (splitS_ne l)
      · rename_i h t heq
        rw [heq] at ih
        simp at ih ⊢
        omega
theorem levels_sum (f : ByteArray) : ((levels f).map fun l => l.size + 1).sum = f.size + 1 := by
  have h := splitS_sum f.data.toList
  unfold levels
  rw [List.map_map]
  have e : ((splitS f.data.toList).map ((fun l => l.size + 1) ∘ ba)) = (splitS f.data.toList).map fun x => x.length + 1 := List.map_congr_left fun x _ => by
    show (ba x).data.size + 1 = _
    simp [ba]
  rw [e, h]
  rfl
theorem pre_le {f : ByteArray} {p r : List ByteArray} (h : levels f = p ++ r) : (pre p).size ≤ f.size + 1 := by
  have := levels_sum f
  rw [h, List.map_append, List.sum_append] at this
  rw [pre_size]
  omega
theorem TOf.pre {W : World} {base sz t : Nat} {T : List Nd} {l : Subs} (h : TOf W base sz t T l) {N : Nat} (hN : ∀ x ∈ l, x.1.size ≤ N) : ∀ y ∈ T, (Go.Proofs.YtflomcbclofbaaaDoor.pre y.path).size ≤ N + 1 := by
  intro y hy
  rcases Classical.em (y.path = []) with e | e
  · rw [e]
    have : (Go.Proofs.YtflomcbclofbaaaDoor.pre []).size = 0 := rfl
    omega
  · obtain ⟨x, hx, r, e⟩ := h.path hy e
    have := pre_le e
    have := hN x hx
    omega
/-- all beginnings -/
def begs (l : Subs) : List (List ByteArray) := l.flatMap fun x => (List.range (levels x.1).length).map fun i => (levels x.1).take (i + 1)
theorem mem_begs {l : Subs} {p : List ByteArray} : p ∈ begs l ↔ p ≠ [] ∧ ∃ x ∈ l, ∃ r, levels x.1 = p ++ r := by
  unfold begs
  rw [List.mem_flatMap]
  constructor
  · rintro ⟨x, hx, hp⟩
    obtain ⟨i, hi, rfl⟩ := List.mem_map.1 hp
    rw [List.mem_range] at hi
    refine ⟨fun e => ?_, x, hx, _, (List.take_append_drop (i + 1) _).symm⟩
    have := congrArg List.length e
    rw [List.length_take, List.length_nil] at this
    omega
  · rintro ⟨hp, x, hx, r, e⟩
    refine ⟨x, hx, List.mem_map.2 ⟨p.length - 1, ?_, ?_⟩⟩
    · rw [List.mem_range, e, List.length_append]
      have := List.length_pos_iff.2 hp
      omega
    · have := List.length_pos_iff.2 hp
      rw [e, show p.length - 1 + 1 = p.length by omega, List.take_left]
theorem begs_len (l : Subs) : (begs l).length ≤ totalS l := by
  unfold begs totalS
  induction l with
  | nil => simp
  | cons x l ih =>
    rw [List.flatMap_cons, List.length_append, List.length_map, List.length_range, List.map_cons, List.sum_cons]
    have := levels_len x.1
    omega
theorem TOf.len {W : World} {base sz t : Nat} {T : List Nd} {l : Subs} (h : TOf W base sz t T l) : T.length ≤ totalS l + 1 := by
  have hnd : (T.map (·.path)).Nodup := List.pairwise_map.2 (h.tri.is.paths.imp fun h => h)
  have := nodup_le (m := [] :: begs l) hnd (fun p hp => by
    obtain ⟨y, hy, rfl⟩ := List.mem_map.1 hp
    rcases Classical.em (y.path = []) with e | e
    · rw [e]; exact List.mem_cons_self ..
    · exact List.mem_cons_of_mem _ (mem_begs.2 ⟨e, h.path hy e⟩))
  rw [List.length_map, List.length_cons] at this
  have := begs_len l
  omega
end Go.Proofs.YtflomcbclofbaaaDoor
