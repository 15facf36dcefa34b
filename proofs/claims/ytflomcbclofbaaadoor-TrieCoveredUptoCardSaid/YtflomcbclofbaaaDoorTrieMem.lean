/- TRIE: nodes in memory. -/
import Derived.WalkKit
import Derived.Lib.Hide
import Derived.Below
import Derived.OwnWalk
import Derived.OneCell
import Derived.Laws.OwnMore
import Derived.Maps.AppendAt
import Derived.Maps.OwnSet
import Derived.Maps.OwnOps
import Derived.Maps.RangeWalk
import Derived.Test.YtflomcbclofbaaaDoorTriePlain
namespace Go.Proofs.YtflomcbclofbaaaDoor
open Go Go.RowKit

/-- how a pointer to a node reads -/
def ptrR (v : Value) : Option (DataW Unit × List MemPlace) :=
  match v with
  | .pointer (some ⟨b, o, none⟩) => if o = 0 then some (.lit (.int .u64 (b : Nat)), []) else none
  | _ => none
def kidD (b : Nat) : DataW Unit := .lit (.int .u64 (b : Nat))
def noD : DataW Unit := .lit (.bool false)
theorem ptrR_some (b : Nat) : ptrR (.pointer (some ⟨b, 0, none⟩)) = some (kidD b, []) := by simp [ptrR, kidD]
theorem ptrR_inv {v : Value} {y : DataW Unit × List MemPlace} (h : ptrR v = some y) : ∃ b : Nat, v = .pointer (some ⟨b, 0, none⟩) ∧ y = (kidD b, []) := by
  unfold ptrR at h
  split at h
  · rename_i b o
    split at h
    · rename_i ho; subst ho; injection h with h; exact ⟨b, rfl, h.symm⟩
    · cases h
  · cases h
/-- the child under a level -/
def kid (D : DataW Unit) (s : ByteArray) : Option Nat :=
  match D.atKey (.string s.data.toList) noD with
  | .lit (.int _ b) => some b.toNat
  | _ => none
theorem kid_some {D : DataW Unit} {s : ByteArray} {b : Nat} (h : D.atKey (.string s.data.toList) noD = kidD b) : kid D s = some b := by unfold kid; rw [h]; rfl
theorem kid_none {D : DataW Unit} {s : ByteArray} (h : D.atKey (.string s.data.toList) noD = noD) : kid D s = none := by unfold kid; rw [h]; rfl
structure Nd where
  path : List ByteArray
  a : Nat
  m : Nat
  v : Value
  ids : List Int
  D : DataW Unit
def Nd.blocks (x : Nd) : List Nat := x.a :: x.m :: x.v.ownBlock.toList
structure NdIs (W : World) (base sz : Nat) (x : Nd) : Prop where
  box : W.heap[x.a]? = some (.cells #[x.v, .map (some x.m)] 54 (0, 0))
  map : W.ownsMap Tryd.prog 9 ptrR x.m sz x.D
  row : W.ownsRow base 3 1 x.v x.ids.length (x.ids.map (Value.int .i64))
  ba : base ≤ x.a
  bm : base ≤ x.m
theorem NdIs.kept {W W' : World} {base sz : Nat} {x : Nd} (h : NdIs W base sz x) (hk : ∀ b ∈ x.blocks, W'.heap[b]? = W.heap[b]?) : NdIs W' base sz x := by
  refine ⟨(hk _ (by simp [Nd.blocks])).trans h.box, ?_, ?_, h.ba, h.bm⟩
  · obtain ⟨es, clock, hb, r⟩ := h.map
    exact ⟨es, clock, (hk _ (by simp [Nd.blocks])).trans hb, r⟩
  · refine ⟨h.row.1, ?_⟩
    rcases h.row.2 with hn | ⟨g, cap, cur, e, hb, hg, rest⟩
    · exact .inl hn
    · exact .inr ⟨g, cap, cur, e, hb, (hk g (by simp [Nd.blocks, e, Value.ownBlock])).trans hg, rest⟩
theorem NdIs.more {W : World} {base sz sz' : Nat} {x : Nd} (h : NdIs W base sz x) (hs : sz ≤ sz') : NdIs W base sz' x := ⟨h.box, h.map.mono hs, h.row, h.ba, h.bm⟩
theorem NdIs.lt {W : World} {base sz : Nat} {x : Nd} (h : NdIs W base sz x) {b : Nat} (hb : b ∈ x.blocks) : base ≤ b ∧ b < W.heap.size := by
  unfold Nd.blocks at hb
  rcases List.mem_cons.1 hb with rfl | hb
  · exact ⟨h.ba, (Array.getElem?_eq_some_iff.1 h.box).1⟩
  rcases List.mem_cons.1 hb with rfl | hb
  · exact ⟨h.bm, h.map.lt⟩
  · cases hv : x.v.ownBlock with
    | none => rw [hv] at hb; cases hb
    | some g =>
      rw [hv] at hb
      simp at hb
      subst hb
      exact h.row.lt b hv
/-- all nodes but those of a path -/
def others (T : List Nd) (p : List ByteArray) : List Nd := T.filter fun y => decide (y.path ≠ p)
theorem mem_others {T : List Nd} {p : List ByteArray} {y : Nd} : y ∈ others T p ↔ y ∈ T ∧ y.path ≠ p := by simp [others]
structure TrieIs (W : World) (base sz : Nat) (T : List Nd) : Prop where
  each : ∀ x ∈ T, NdIs W base sz x
  paths : T.Pairwise fun x y => x.path ≠ y.path
  blocks : (T.flatMap Nd.blocks).Nodup
  kids : ∀ x ∈ T, ∀ (s : ByteArray) (b : Nat), kid x.D s = some b ↔ ∃ y ∈ T, y.path = x.path ++ [s] ∧ y.a = b
  par : ∀ y ∈ T, ∀ (q : List ByteArray) (s : ByteArray), y.path = q ++ [s] → ∃ x ∈ T, x.path = q
  root : ∃ x ∈ T, x.path = []
  rising : ∀ x ∈ T, x.ids.Pairwise (· < ·)
  few : ∀ x ∈ T, x.ids.length ≤ sz
theorem pair_mem {α : Type} {R : α → α → Prop} : ∀ {l : List α}, l.Pairwise R → (∀ a b, R a b → R b a) → ∀ {x y : α}, x ∈ l → y ∈ l → x = y ∨ R x y
  | [], _, _, _, _, hx, _ => by cases hx
  | z :: l, h, hs, x, y, hx, hy => by
    rw [List.pairwise_cons] at h
    rcases List.mem_cons.1 hx with hx1 | hx1
    · rcases List.mem_cons.1 hy with hy1 | hy1
      · exact .inl (hx1.trans hy1.symm)
      · rw [hx1]; exact .inr (h.1 y hy1)
    · rcases List.mem_cons.1 hy with hy1 | hy1
      · rw [hy1]; exact .inr (hs _ _ (h.1 x hx1))
      · exact pair_mem h.2 hs hx1 hy1
theorem TrieIs.one {W : World} {base sz : Nat} {T : List Nd} (h : TrieIs W base sz T) {x y : Nd} (hx : x ∈ T) (hy : y ∈ T) (he : x.path = y.path) : x = y := by
  rcases pair_mem h.paths (fun a b hab e => hab e.symm) hx hy with h1 | h1
  · exact h1
  · exact absurd he h1
/-- blocks of two nodes are apart -/
theorem apart_of : ∀ {T : List Nd}, (T.flatMap Nd.blocks).Nodup → ∀ {x y : Nd}, x ∈ T → y ∈ T → x ≠ y → ∀ b ∈ x.blocks, b ∉ y.blocks
  | [], _, _, _, hx, _, _, _, _ => by cases hx
  | z :: T, h, x, y, hx, hy, hne, b, hb => by
    rw [List.flatMap_cons, List.nodup_append] at h
    obtain ⟨h1, h2, h3⟩ := h
    intro hb2
    rcases List.mem_cons.1 hx with hx1 | hx1
    · rcases List.mem_cons.1 hy with hy1 | hy1
      · exact hne (hx1.trans hy1.symm)
      · rw [hx1] at hb; exact h3 b hb b (List.mem_flatMap.2 ⟨y, hy1, hb2⟩) rfl
    · rcases List.mem_cons.1 hy with hy1 | hy1
      · rw [hy1] at hb2; exact h3 b hb2 b (List.mem_flatMap.2 ⟨x, hx1, hb⟩) rfl
      · exact apart_of h2 hx1 hy1 hne b hb hb2
theorem TrieIs.addr {W : World} {base sz : Nat} {T : List Nd} (h : TrieIs W base sz T) {x y : Nd} (hx : x ∈ T) (hy : y ∈ T) (he : x.a = y.a) : x = y := by
  rcases Classical.em (x = y) with h1 | h1
  · exact h1
  · exact absurd (by simp [Nd.blocks, he] : x.a ∈ y.blocks) (apart_of h.blocks hx hy h1 x.a (by simp [Nd.blocks]))
def foot (T : List Nd) (b : Nat) : Prop := ∃ x ∈ T, b ∈ x.blocks
theorem TrieIs.kept {W W' : World} {base sz : Nat} {T : List Nd} (h : TrieIs W base sz T) (hk : ∀ b, foot T b → W'.heap[b]? = W.heap[b]?) : TrieIs W' base sz T :=
  ⟨fun x hx => (h.each x hx).kept fun b hb => hk b ⟨x, hx, hb⟩, h.paths, h.blocks, h.kids, h.par, h.root, h.rising, h.few⟩
theorem TrieIs.lt {W : World} {base sz : Nat} {T : List Nd} (h : TrieIs W base sz T) {b : Nat} (hb : foot T b) : base ≤ b ∧ b < W.heap.size := by
  obtain ⟨x, hx, hb⟩ := hb
  exact (h.each x hx).lt hb
theorem TrieIs.below {W W' : World} {base sz : Nat} {T : List Nd} (h : TrieIs W base sz T) (hb : Below W.heap.size W W') : TrieIs W' base sz T := h.kept fun b hf => hb.block b (h.lt hf).2
theorem TrieIs.more {W : World} {base sz sz' : Nat} {T : List Nd} (h : TrieIs W base sz T) (hs : sz ≤ sz') : TrieIs W base sz' T :=
  ⟨fun x hx => (h.each x hx).more hs, h.paths, h.blocks, h.kids, h.par, h.root, h.rising, fun x hx => Nat.le_trans (h.few x hx) hs⟩
/-- what stands under a path -/
def IdAt (T : List Nd) (p : List ByteArray) (z : Int) : Prop := ∃ x ∈ T, x.path = p ∧ z ∈ x.ids
/-- no node but the root and those of E is idle -/
def Lean_ (T : List Nd) (E : List ByteArray → Prop) : Prop := ∀ x ∈ T, x.path ≠ [] → ¬ E x.path → x.ids ≠ [] ∨ ∃ y ∈ T, ∃ s, y.path = x.path ++ [s]
/-- a trie behind its pointer -/
structure Tri (W : World) (base sz : Nat) (t : Nat) (T : List Nd) (n : Int) : Prop where
  is : TrieIs W base sz T
  root : ∃ x ∈ T, x.path = [] ∧ W.heap[t]? = some (.cells #[.pointer (some ⟨x.a, 0, none⟩), .int .i64 n] 40 (0, 0))
  bt : base ≤ t
  free : ¬ foot T t
theorem Tri.lt {W : World} {base sz t : Nat} {T : List Nd} {n : Int} (h : Tri W base sz t T n) : t < W.heap.size := by
  obtain ⟨x, -, -, hb⟩ := h.root
  exact (Array.getElem?_eq_some_iff.1 hb).1
theorem Tri.kept {W W' : World} {base sz t : Nat} {T : List Nd} {n : Int} (h : Tri W base sz t T n) (hk : ∀ b, b = t ∨ foot T b → W'.heap[b]? = W.heap[b]?) : Tri W' base sz t T n := by
  obtain ⟨x, h1, h2, h3⟩ := h.root
  exact ⟨h.is.kept fun b hb => hk b (.inr hb), ⟨x, h1, h2, (hk t (.inl rfl)).trans h3⟩, h.bt, h.free⟩
theorem Tri.below {W W' : World} {base sz t : Nat} {T : List Nd} {n : Int} (h : Tri W base sz t T n) (hb : Below W.heap.size W W') : Tri W' base sz t T n :=
  h.kept fun b hf => hb.block b (by rcases hf with rfl | hf; exact h.lt; exact (h.is.lt hf).2)
end Go.Proofs.YtflomcbclofbaaaDoor
