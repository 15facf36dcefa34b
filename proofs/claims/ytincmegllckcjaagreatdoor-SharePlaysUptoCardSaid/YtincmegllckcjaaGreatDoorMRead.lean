/- READING: what an argument's cells are, from the row's reading of it: structs field by field, slices element by element, with the bound of the second form. TRIE: rising lists. TRIE: nodes in memory. -/
import Derived.Test.YtincmegllckcjaaGreatDoorProg
import Derived.Test.YtincmegllckcjaaGreatDoorRows
import Derived.WalkKit
import Derived.ProofKit
import Derived.OpenShut
import Derived.JoinedCond
import Derived.Deep.Slices
import Derived.Carry
import Derived.Lib.Hide
import Derived.Below
import Derived.OwnWalk
import Derived.OneCell
import Derived.Laws.OwnMore
import Derived.Maps.AppendAt
import Derived.Maps.OwnSet
import Derived.Maps.OwnOps
import Derived.Maps.RangeWalk
namespace Go.Proofs.YtincmegllckcjaaGreatDoor
section
open Go Go.ChangeShapes Go.WideShapes Go.ChangeAt Go.RowKit Go.Deep

theorem laidOut : laidOutB Tryz.prog = true := by kernel_rfl
theorem bulk_one {H : Type} (d : DataW H) : 1 ≤ Rows.uptoBulk d := by
  cases d with
  | lit x => cases x <;> simp [Rows.uptoBulk]
  | _ => simp [Rows.uptoBulk]
theorem bulk_len {H : Type} : ∀ l : List (DataW H), l.length ≤ Rows.uptoBulkAll l := by
  intro l
  induction l with
  | nil => exact Nat.le_refl _
  | cons x r ih =>
    simp only [Rows.uptoBulkAll, List.length_cons]
    have := bulk_one x
    omega
theorem bulk_part {H : Type} : ∀ (l : List (DataW H)) (d : DataW H), d ∈ l → Rows.uptoBulk d ≤ Rows.uptoBulkAll l := by
  intro l
  induction l with
  | nil => intro d h; cases h
  | cons x r ih =>
    intro d h
    simp only [Rows.uptoBulkAll]
    rcases List.mem_cons.1 h with rfl | h
    · omega
    · have := ih d h; omega
theorem rd_plain {w : World} {a : Addr} {v : Value} (h : w.cell? a = some v) : ∃ b o, a = ⟨b, o, none⟩ := by
  obtain ⟨b, o, s⟩ := a
  cases s with
  | none => exact ⟨b, o, rfl⟩
  | some k => simp only [World.cell?] at h; split at h <;> simp at h
theorem rd_add {b o i : Nat} : (⟨b, o, none⟩ : Addr).add i = ⟨b, o + i, none⟩ := by unfold Addr.add; split <;> simp_all

section
variable {H : Type} {enc : TypeId × Value → H} {w : World} {base : Nat} {spare : Nat → Bool} {held : Bool}
theorem rd_struct {t : TypeId} {fs : Array Field} {cs : List Value} {fuel : Nat} {x : DataW H × List MemPlace} (ht : Tryz.prog.underlying t = some (.struct fs)) (h : DataW.trod enc Tryz.prog w base spare held fuel t cs = some x) :
    cs.length = Tryz.prog.cellsOf t ∧ ∃ n, fuel = n + 1 ∧ ∀ (i : Nat) (f : Field), fs[i]? = some f → ∃ y : DataW H × List MemPlace, Rows.uptoBulk y.1 ≤ Rows.uptoBulk x.1 ∧ ∀ k, Tryz.prog.cellsOf f.type = k → DataW.trod enc Tryz.prog w base spare held n f.type ((cs.drop f.offset).take k) = some y := by
  obtain ⟨xs, n, hn, rfl, hlen, hx, hf⟩ := DataW.trod_struct ht h
  refine ⟨hlen, n, hn, fun i f hi => ?_⟩
  have hlt : i < xs.length := by rw [hx]; exact (Array.getElem?_eq_some_iff.1 hi).1
  refine ⟨xs[i], ?_, fun k hk => ?_⟩
  · simp only [Rows.uptoBulk]
    have := bulk_part (xs.map (·.1)) xs[i].1 (List.mem_map.2 ⟨_, List.getElem_mem hlt, rfl⟩)
    omega
  · subst hk
    rw [hf i f hi]; exact List.getElem?_eq_getElem hlt
theorem rd_int {k : IntKind} {t : TypeId} {c : Value} {n : Nat} {y : DataW H × List MemPlace} (ht : Tryz.prog.underlying t = some (.int k)) (h : DataW.trod enc Tryz.prog w base spare held n t [c] = some y) : ∃ z, c = .int k z ∧ (Lit.int k z).wf = true := by
  obtain ⟨z, hz, _, hw⟩ := DataW.trod_int ht h
  injection hz with hz
  exact ⟨z, hz, hw⟩
theorem rd_string {t : TypeId} {c : Value} {n : Nat} {y : DataW H × List MemPlace} (ht : Tryz.prog.underlying t = some .string) (h : DataW.trod enc Tryz.prog w base spare held n t [c] = some y) : ∃ s : ByteArray, c = .string s ∧ s.size ≤ Rows.uptoBulk y.1 := by
  obtain ⟨s, hz, rfl, _⟩ := DataW.trod_string ht h
  injection hz with hz
  refine ⟨s, hz, ?_⟩
  simp [Rows.uptoBulk]
theorem rd_bool {t : TypeId} {c : Value} {n : Nat} {y : DataW H × List MemPlace} (ht : Tryz.prog.underlying t = some .bool) (h : DataW.trod enc Tryz.prog w base spare held n t [c] = some y) : ∃ b, c = .bool b := by
  obtain ⟨s, hz, _⟩ := DataW.trod_bool ht h
  injection hz with hz
  exact ⟨s, hz⟩
/-- a slice: its elements, one by one -/
theorem rd_slice {t e : TypeId} {fuel : Nat} {c : Value} {x : DataW H × List MemPlace} {k : Nat} (ht : Tryz.prog.underlying t = some (.slice e)) (hk : Tryz.prog.cellsOf e = k) (hk0 : 0 < k) (h : DataW.trod enc Tryz.prog w base spare held fuel t [c] = some x) :
    ∃ n p len cap, fuel = n + 1 ∧ c = .slice p len cap ∧ len ≤ cap ∧ cap ≤ 9223372036854775807 ∧ len ≤ Rows.uptoBulk x.1 ∧ (0 < len → ∃ b o, p = some ⟨b, o, none⟩ ∧
      ∀ i, i < len → ∃ (cs' : List Value) (y : DataW H × List MemPlace), cs'.length = k ∧ Rows.uptoBulk y.1 ≤ Rows.uptoBulk x.1 ∧ DataW.trod enc Tryz.prog w base spare held n e cs' = some y ∧ ∀ j u, cs'[j]? = some u → w.cell? ⟨b, o + i * k + j, none⟩ = some u) := by
  rcases DataW.trod_slice ht h with ⟨h0, rfl⟩ | ⟨a, len, cap, elems, rest, n, hn, hc, rfl, hb, hl, hm, hlen, hel, -, -⟩
  · injection h0 with h0
    cases fuel with
    | zero => simp [DataW.trod] at h
    | succ n => exact ⟨n, none, 0, 0, rfl, h0, Nat.le_refl _, by omega, Nat.zero_le _, fun h => absurd h (Nat.lt_irrefl _)⟩
  · injection hc with hc
    subst hk
    have hE : ∀ i, i < len → ∃ (cs' : List Value) (y : DataW H × List MemPlace), cs'.length = Tryz.prog.cellsOf e ∧ y ∈ elems ∧ DataW.trod enc Tryz.prog w base spare held n e cs' = some y ∧ ∀ j u, cs'[j]? = some u → w.cell? (a.add (i * Tryz.prog.cellsOf e + j)) = some u := fun i hi => by
      have h1 := hel i hi
      rw [List.getElem?_eq_getElem (by omega : i < elems.length)] at h1
      obtain ⟨cs', hc', ht'⟩ := Option.bind_eq_some_iff.1 h1
      obtain ⟨_, hl', hat⟩ := World.cells?_some hc'
      refine ⟨cs', _, hl', List.getElem_mem (by omega), ht', fun j u hj => ?_⟩
      have hjk : j < Tryz.prog.cellsOf e := by rw [← hl']; exact (List.getElem?_eq_some_iff.1 hj).1
      rw [← hj, ← hat j hjk, add_add]
    refine ⟨n, some a, len, cap, hn, hc, hl, by unfold maxLen at hm; omega, ?_, fun hpos => ?_⟩
    · simp only [Rows.uptoBulk]
      have := bulk_len (elems.map (·.1))
      simp only [List.length_map] at this
      omega
    · obtain ⟨cs0, y0, hl0, _, _, hc0⟩ := hE 0 hpos
      obtain ⟨u, hu⟩ : ∃ u, cs0[0]? = some u := ⟨_, List.getElem?_eq_getElem (by omega)⟩
      have h0 := hc0 0 u hu
      have e0 : a.add (0 * Tryz.prog.cellsOf e + 0) = a := by rw [Nat.zero_mul]; exact if_pos rfl
      rw [e0] at h0
      obtain ⟨b, o, rfl⟩ := rd_plain h0
      refine ⟨b, o, rfl, fun i hi => ?_⟩
      obtain ⟨cs', y, h1, h2, h3, h4⟩ := hE i hi
      refine ⟨cs', y, h1, ?_, h3, fun j u hj => ?_⟩
      · simp only [Rows.uptoBulk]
        have := bulk_part (elems.map (·.1)) y.1 (List.mem_map.2 ⟨y, h2, rfl⟩)
        omega
      · have := h4 j u hj
        rw [rd_add] at this
        rw [Nat.add_assoc]; exact this
end
end
section
open Go

/-- a strict order that compares any two -/
structure Ord3 {α : Type} (lt : α → α → Prop) : Prop where
  tr : ∀ a b c, lt a b → lt b c → lt a c
  ir : ∀ a, ¬ lt a a
  tot : ∀ a b, lt a b ∨ a = b ∨ lt b a
theorem ord_int : Ord3 (fun a b : Int => a < b) := ⟨fun _ _ _ => Int.lt_trans, fun a => Int.lt_irrefl a, fun a b => by omega⟩
section
variable {α : Type} {lt : α → α → Prop} [DecidableRel lt]
/-- how many stand ahead of x -/
def cntL (lt : α → α → Prop) [DecidableRel lt] (l : List α) (x : α) : Nat := l.countP fun y => decide (lt y x)
def insL (lt : α → α → Prop) [DecidableRel lt] (l : List α) (x : α) : List α := l.take (cntL lt l x) ++ x :: l.drop (cntL lt l x)
def delL (lt : α → α → Prop) [DecidableRel lt] (l : List α) (x : α) : List α := l.take (cntL lt l x) ++ l.drop (cntL lt l x + 1)
theorem cntL_le (l : List α) (x : α) : cntL lt l x ≤ l.length := List.countP_le_length
theorem cntL_zero (O : Ord3 lt) {z x : α} {l : List α} (hs : (z :: l).Pairwise lt) (h : ¬ lt z x) : cntL lt (z :: l) x = 0 := by
  rw [List.pairwise_cons] at hs
  unfold cntL
  rw [List.countP_eq_zero]
  intro y hy hd
  have hd' : lt y x := of_decide_eq_true hd
  rcases List.mem_cons.1 hy with rfl | hy
  · exact h hd'
  · exact h (O.tr _ _ _ (hs.1 y hy) hd')
theorem cntL_succ {z x : α} {l : List α} (h : lt z x) : cntL lt (z :: l) x = cntL lt l x + 1 := by
  unfold cntL
  rw [List.countP_cons_of_pos (by simpa using h)]
theorem insL_mem (l : List α) (x y : α) : y ∈ insL lt l x ↔ y = x ∨ y ∈ l := by
  unfold insL
  rw [List.mem_append, List.mem_cons]
  have h := congrArg (fun z => y ∈ z) (List.take_append_drop (cntL lt l x) l)
  simp only [List.mem_append] at h
  rw [← h]
  constructor
  · rintro (h | h | h)
    · exact .inr (.inl h)
    · exact .inl h
    · exact .inr (.inr h)
  · rintro (h | h | h)
    · exact .inr (.inl h)
    · exact .inl h
    · exact .inr (.inr h)
theorem insL_len (l : List α) (x : α) : (insL lt l x).length = l.length + 1 := by
  unfold insL
  have := cntL_le (lt := lt) l x
  rw [List.length_append, List.length_cons, List.length_take, List.length_drop]
  omega
theorem insL_sorted (O : Ord3 lt) {x : α} : ∀ {l : List α}, l.Pairwise lt → x ∉ l → (insL lt l x).Pairwise lt
  | [], _, _ => by simp [insL, cntL]
  | z :: l, hs, hx => by
    by_cases h : lt z x
    · have e : insL lt (z :: l) x = z :: insL lt l x := by unfold insL; rw [cntL_succ h]; rfl
      have hs' := List.pairwise_cons.1 hs
      rw [e, List.pairwise_cons]
      refine ⟨fun y hy => ?_, insL_sorted O hs'.2 (fun hm => hx (List.mem_cons_of_mem _ hm))⟩
      rcases (insL_mem l x y).1 hy with rfl | hy
      · exact h
      · exact hs'.1 y hy
    · have e : insL lt (z :: l) x = x :: z :: l := by unfold insL; rw [cntL_zero O hs h]; rfl
      rw [e, List.pairwise_cons]
      refine ⟨fun y hy => ?_, hs⟩
      have hzx : lt x z := by
        rcases O.tot z x with h1 | h1 | h1
        · exact absurd h1 h
        · exact absurd (h1 ▸ List.mem_cons_self ..) hx
        · exact h1
      rcases List.mem_cons.1 hy with rfl | hy
      · exact hzx
      · exact O.tr _ _ _ hzx ((List.pairwise_cons.1 hs).1 y hy)
theorem delL_spec (O : Ord3 lt) {x : α} : ∀ {l : List α}, l.Pairwise lt → x ∈ l → l[cntL lt l x]? = some x ∧ (delL lt l x).Pairwise lt ∧ (∀ y, y ∈ delL lt l x ↔ y ∈ l ∧ y ≠ x) ∧ (delL lt l x).length + 1 = l.length
  | [], _, hx => by cases hx
  | z :: l, hs, hx => by
    have hs' := List.pairwise_cons.1 hs
    by_cases h : lt z x
    · have e : delL lt (z :: l) x = z :: delL lt l x := by unfold delL; rw [cntL_succ h]; rfl
      have hzx : z ≠ x := fun e => O.ir x (e ▸ h)
      have hxl : x ∈ l := by rcases List.mem_cons.1 hx with rfl | h1; exact absurd rfl hzx; exact h1
      obtain ⟨h1, h2, h3, h4⟩ := delL_spec O hs'.2 hxl
      refine ⟨by rw [cntL_succ h]; exact h1, ?_, fun y => ?_, by rw [e, List.length_cons, List.length_cons, h4]⟩
      · rw [e, List.pairwise_cons]
        exact ⟨fun y hy => hs'.1 y ((h3 y).1 hy).1, h2⟩
      · rw [e, List.mem_cons, List.mem_cons, h3 y]
        constructor
        · rintro (rfl | ⟨h5, h6⟩)
          · exact ⟨.inl rfl, hzx⟩
          · exact ⟨.inr h5, h6⟩
        · rintro ⟨rfl | h5, h6⟩
          · exact .inl rfl
          · exact .inr ⟨h5, h6⟩
    · have hz : z = x := by
        rcases List.mem_cons.1 hx with rfl | h1
        · rfl
        · exact absurd (hs'.1 x h1) h
      subst hz
      have e : delL lt (z :: l) z = l := by unfold delL; rw [cntL_zero O hs h]; rfl
      refine ⟨by rw [cntL_zero O hs h]; rfl, by rw [e]; exact hs'.2, fun y => ?_, by rw [e]; rfl⟩
      rw [e, List.mem_cons]
      constructor
      · intro hy
        exact ⟨.inr hy, fun e2 => O.ir z (by have := hs'.1 y hy; rw [e2] at this; exact this)⟩
      · rintro ⟨rfl | h5, h6⟩
        · exact absurd rfl h6
        · exact h5
omit [DecidableRel lt] in
theorem sorted_ext (O : Ord3 lt) : ∀ {l m : List α}, l.Pairwise lt → m.Pairwise lt → (∀ y, y ∈ l ↔ y ∈ m) → l = m
  | [], [], _, _, _ => rfl
  | [], y :: m, _, _, h => by have := (h y).2 (List.mem_cons_self ..); cases this
  | x :: l, [], _, _, h => by have := (h x).1 (List.mem_cons_self ..); cases this
  | x :: l, y :: m, hl, hm, h => by
    have hl' := List.pairwise_cons.1 hl
    have hm' := List.pairwise_cons.1 hm
    have e : x = y := by
      rcases List.mem_cons.1 ((h x).1 (List.mem_cons_self ..)) with h1 | h1
      · exact h1
      · rcases List.mem_cons.1 ((h y).2 (List.mem_cons_self ..)) with h2 | h2
        · exact h2.symm
        · exact absurd (O.tr _ _ _ (hl'.1 y h2) (hm'.1 x h1)) (O.ir x)
    subst e
    congr 1
    refine sorted_ext O hl'.2 hm'.2 fun z => ?_
    have hz := h z
    rw [List.mem_cons, List.mem_cons] at hz
    constructor
    · intro h1
      rcases hz.1 (.inr h1) with rfl | h2
      · exact absurd (hl'.1 z h1) (O.ir z)
      · exact h2
    · intro h1
      rcases hz.2 (.inr h1) with rfl | h2
      · exact absurd (hm'.1 z h1) (O.ir z)
      · exact h2
omit [DecidableRel lt] in
theorem sorted_nodup (O : Ord3 lt) {l : List α} (h : l.Pairwise lt) : l.Nodup := by
  refine List.Pairwise.imp ?_ h
  intro a b hab e
  subst e
  exact O.ir a hab
/-- once into a rising list -/
def putL (lt : α → α → Prop) [DecidableRel lt] [DecidableEq α] (l : List α) (x : α) : List α := if x ∈ l then l else insL lt l x
theorem putL_mem [DecidableEq α] (l : List α) (x y : α) : y ∈ putL lt l x ↔ y = x ∨ y ∈ l := by
  unfold putL
  split
  · rename_i h
    constructor
    · exact .inr
    · rintro (rfl | h1)
      · exact h
      · exact h1
  · exact insL_mem l x y
theorem putL_sorted [DecidableEq α] (O : Ord3 lt) {l : List α} (h : l.Pairwise lt) (x : α) : (putL lt l x).Pairwise lt := by
  unfold putL
  split
  · exact h
  · rename_i hx
    exact insL_sorted O h hx
theorem putL_len [DecidableEq α] (l : List α) (x : α) : (putL lt l x).length ≤ l.length + 1 := by
  unfold putL
  split
  · omega
  · rw [insL_len]; omega
/-- what stands at the place where x would stand -/
theorem cntL_get (O : Ord3 lt) {x : α} : ∀ {l : List α}, l.Pairwise lt → (x ∈ l ↔ l[cntL lt l x]? = some x)
  | [], _ => by simp
  | z :: l, hs => by
    have hs' := List.pairwise_cons.1 hs
    by_cases h : lt z x
    · rw [cntL_succ h, List.getElem?_cons_succ, ← cntL_get O hs'.2, List.mem_cons]
      constructor
      · rintro (rfl | h1)
        · exact absurd h (O.ir _)
        · exact h1
      · exact .inr
    · rw [cntL_zero O hs h, List.getElem?_cons_zero, List.mem_cons]
      constructor
      · rintro (rfl | h1)
        · rfl
        · exact absurd (hs'.1 x h1) h
      · intro h1
        injection h1 with h1
        exact .inl h1.symm
theorem cntL_before (O : Ord3 lt) {x : α} : ∀ {l : List α}, l.Pairwise lt → ∀ {j : Nat} {y : α}, l[j]? = some y → (lt y x ↔ j < cntL lt l x)
  | [], _, j, y, h => by simp at h
  | z :: l, hs, j, y, h => by
    have hs' := List.pairwise_cons.1 hs
    by_cases hz : lt z x
    · rw [cntL_succ hz]
      cases j with
      | zero => simp at h; subst h; simp [hz]
      | succ j =>
        rw [List.getElem?_cons_succ] at h
        rw [cntL_before O hs'.2 h]
        omega
    · rw [cntL_zero O hs hz]
      constructor
      · intro h1
        cases j with
        | zero => simp at h; subst h; exact absurd h1 hz
        | succ j =>
          rw [List.getElem?_cons_succ] at h
          exact absurd (O.tr _ _ _ (hs'.1 y (List.mem_of_getElem? h)) h1) hz
      · intro h1; omega
end
end
section
open Go Go.RowKit

/-- how a pointer to a node reads -/
def ptrR (v : Value) : Option (DataW Unit × List MemPlace) :=
  match v with
  | .pointer (some ⟨b, o, none⟩) => if o = 0 then some (.lit (.int .u64 (b : Nat)), []) else none
  | _ => none
def kidD (b : Nat) : DataW Unit := .lit (.int .u64 (b : Nat))
def noD : DataW Unit := .lit (.bool false)
theorem ptrR_some (b : Nat) : ptrR (.pointer (some ⟨b, 0, none⟩)) = some (kidD b, []) := by simp [ptrR, kidD]
theorem ptrR_inv {v : Value} {y : DataW Unit × List MemPlace} (h : ptrR v = some y) : ∃ b : Nat, v = .pointer (some ⟨b, 0, none⟩) ∧ y = (kidD b, []) := by
  unfold ptrR at h
  split at h
  · rename_i b o
    split at h
    · rename_i ho; subst ho; injection h with h; exact ⟨b, rfl, h.symm⟩
    · cases h
  · cases h
/-- the child under a level -/
def kid (D : DataW Unit) (s : ByteArray) : Option Nat :=
  match D.atKey (.string s.data.toList) noD with
  | .lit (.int _ b) => some b.toNat
  | _ => none
theorem kid_some {D : DataW Unit} {s : ByteArray} {b : Nat} (h : D.atKey (.string s.data.toList) noD = kidD b) : kid D s = some b := by unfold kid; rw [h]; rfl
theorem kid_none {D : DataW Unit} {s : ByteArray} (h : D.atKey (.string s.data.toList) noD = noD) : kid D s = none := by unfold kid; rw [h]; rfl
structure Nd where
  path : List ByteArray
  a : Nat
  m : Nat
  v : Value
  ids : List Int
  D : DataW Unit
def Nd.blocks (x : Nd) : List Nat := x.a :: x.m :: x.v.ownBlock.toList
structure NdIs (W : World) (base sz : Nat) (x : Nd) : Prop where
  box : W.heap[x.a]? = some (.cells #[x.v, .map (some x.m)] 101 (0, 0))
  map : W.ownsMap Tryz.prog 9 ptrR x.m sz x.D
  row : W.ownsRow base 3 1 x.v x.ids.length (x.ids.map (Value.int .i64))
  ba : base ≤ x.a
  bm : base ≤ x.m
theorem NdIs.kept {W W' : World} {base sz : Nat} {x : Nd} (h : NdIs W base sz x) (hk : ∀ b ∈ x.blocks, W'.heap[b]? = W.heap[b]?) : NdIs W' base sz x := by
  refine ⟨(hk _ (by simp [Nd.blocks])).trans h.box, ?_, ?_, h.ba, h.bm⟩
  · obtain ⟨es, clock, hb, r⟩ := h.map
    exact ⟨es, clock, (hk _ (by simp [Nd.blocks])).trans hb, r⟩
  · refine ⟨h.row.1, ?_⟩
    rcases h.row.2 with hn | ⟨g, cap, cur, e, hb, hg, rest⟩
    · exact .inl hn
    · exact .inr ⟨g, cap, cur, e, hb, (hk g (by simp [Nd.blocks, e, Value.ownBlock])).trans hg, rest⟩
theorem NdIs.more {W : World} {base sz sz' : Nat} {x : Nd} (h : NdIs W base sz x) (hs : sz ≤ sz') : NdIs W base sz' x := ⟨h.box, h.map.mono hs, h.row, h.ba, h.bm⟩
theorem NdIs.lt {W : World} {base sz : Nat} {x : Nd} (h : NdIs W base sz x) {b : Nat} (hb : b ∈ x.blocks) : base ≤ b ∧ b < W.heap.size := by
  unfold Nd.blocks at hb
  rcases List.mem_cons.1 hb with rfl | hb
  · exact ⟨h.ba, (Array.getElem?_eq_some_iff.1 h.box).1⟩
  rcases List.mem_cons.1 hb with rfl | hb
  · exact ⟨h.bm, h.map.lt⟩
  · cases hv : x.v.ownBlock with
    | none => rw [hv] at hb; cases hb
    | some g =>
      rw [hv] at hb
      simp at hb
      subst hb
      exact h.row.lt b hv
/-- all nodes but those of a path -/
def others (T : List Nd) (p : List ByteArray) : List Nd := T.filter fun y => decide (y.path ≠ p)
theorem mem_others {T : List Nd} {p : List ByteArray} {y : Nd} : y ∈ others T p ↔ y ∈ T ∧ y.path ≠ p := by simp [others]
structure TrieIs (W : World) (base sz : Nat) (T : List Nd) : Prop where
  each : ∀ x ∈ T, NdIs W base sz x
  paths : T.Pairwise fun x y => x.path ≠ y.path
  blocks : (T.flatMap Nd.blocks).Nodup
  kids : ∀ x ∈ T, ∀ (s : ByteArray) (b : Nat), kid x.D s = some b ↔ ∃ y ∈ T, y.path = x.path ++ [s] ∧ y.a = b
  par : ∀ y ∈ T, ∀ (q : List ByteArray) (s : ByteArray), y.path = q ++ [s] → ∃ x ∈ T, x.path = q
  root : ∃ x ∈ T, x.path = []
  rising : ∀ x ∈ T, x.ids.Pairwise (· < ·)
  few : ∀ x ∈ T, x.ids.length ≤ sz
theorem pair_mem {α : Type} {R : α → α → Prop} : ∀ {l : List α}, l.Pairwise R → (∀ a b, R a b → R b a) → ∀ {x y : α}, x ∈ l → y ∈ l → x = y ∨ R x y
  | [], _, _, _, _, hx, _ => by cases hx
  | z :: l, h, hs, x, y, hx, hy => by
    rw [List.pairwise_cons] at h
    rcases List.mem_cons.1 hx with hx1 | hx1
    · rcases List.mem_cons.1 hy with hy1 | hy1
      · exact .inl (hx1.trans hy1.symm)
      · rw [hx1]; exact .inr (h.1 y hy1)
    · rcases List.mem_cons.1 hy with hy1 | hy1
      · rw [hy1]; exact .inr (hs _ _ (h.1 x hx1))
      · exact pair_mem h.2 hs hx1 hy1
theorem TrieIs.one {W : World} {base sz : Nat} {T : List Nd} (h : TrieIs W base sz T) {x y : Nd} (hx : x ∈ T) (hy : y ∈ T) (he : x.path = y.path) : x = y := by
  rcases pair_mem h.paths (fun a b hab e => hab e.symm) hx hy with h1 | h1
  · exact h1
  · exact absurd he h1
/-- blocks of two nodes are apart -/
theorem apart_of : ∀ {T : List Nd}, (T.flatMap Nd.blocks).Nodup → ∀ {x y : Nd}, x ∈ T → y ∈ T → x ≠ y → ∀ b ∈ x.blocks, b ∉ y.blocks
  | [], _, _, _, hx, _, _, _, _ => by cases hx
  | z :: T, h, x, y, hx, hy, hne, b, hb => by
    rw [List.flatMap_cons, List.nodup_append] at h
    obtain ⟨h1, h2, h3⟩ := h
    intro hb2
    rcases List.mem_cons.1 hx with hx1 | hx1
    · rcases List.mem_cons.1 hy with hy1 | hy1
      · exact hne (hx1.trans hy1.symm)
      · rw [hx1] at hb; exact h3 b hb b (List.mem_flatMap.2 ⟨y, hy1, hb2⟩) rfl
    · rcases List.mem_cons.1 hy with hy1 | hy1
      · rw [hy1] at hb2; exact h3 b hb2 b (List.mem_flatMap.2 ⟨x, hx1, hb⟩) rfl
      · exact apart_of h2 hx1 hy1 hne b hb hb2
theorem TrieIs.addr {W : World} {base sz : Nat} {T : List Nd} (h : TrieIs W base sz T) {x y : Nd} (hx : x ∈ T) (hy : y ∈ T) (he : x.a = y.a) : x = y := by
  rcases Classical.em (x = y) with h1 | h1
  · exact h1
  · exact absurd (by simp [Nd.blocks, he] : x.a ∈ y.blocks) (apart_of h.blocks hx hy h1 x.a (by simp [Nd.blocks]))
def foot (T : List Nd) (b : Nat) : Prop := ∃ x ∈ T, b ∈ x.blocks
theorem TrieIs.kept {W W' : World} {base sz : Nat} {T : List Nd} (h : TrieIs W base sz T) (hk : ∀ b, foot T b → W'.heap[b]? = W.heap[b]?) : TrieIs W' base sz T :=
  ⟨fun x hx => (h.each x hx).kept fun b hb => hk b ⟨x, hx, hb⟩, h.paths, h.blocks, h.kids, h.par, h.root, h.rising, h.few⟩
theorem TrieIs.lt {W : World} {base sz : Nat} {T : List Nd} (h : TrieIs W base sz T) {b : Nat} (hb : foot T b) : base ≤ b ∧ b < W.heap.size := by
  obtain ⟨x, hx, hb⟩ := hb
  exact (h.each x hx).lt hb
theorem TrieIs.below {W W' : World} {base sz : Nat} {T : List Nd} (h : TrieIs W base sz T) (hb : Below W.heap.size W W') : TrieIs W' base sz T := h.kept fun b hf => hb.block b (h.lt hf).2
theorem TrieIs.more {W : World} {base sz sz' : Nat} {T : List Nd} (h : TrieIs W base sz T) (hs : sz ≤ sz') : TrieIs W base sz' T :=
  ⟨fun x hx => (h.each x hx).more hs, h.paths, h.blocks, h.kids, h.par, h.root, h.rising, fun x hx => Nat.le_trans (h.few x hx) hs⟩
/-- what stands under a path -/
def IdAt (T : List Nd) (p : List ByteArray) (z : Int) : Prop := ∃ x ∈ T, x.path = p ∧ z ∈ x.ids
/-- no node but the root and those of E is idle -/
def Lean_ (T : List Nd) (E : List ByteArray → Prop) : Prop := ∀ x ∈ T, x.path ≠ [] → ¬ E x.path → x.ids ≠ [] ∨ ∃ y ∈ T, ∃ s, y.path = x.path ++ [s]
/-- a trie behind its pointer -/
structure Tri (W : World) (base sz : Nat) (t : Nat) (T : List Nd) (n : Int) : Prop where
  is : TrieIs W base sz T
  root : ∃ x ∈ T, x.path = [] ∧ W.heap[t]? = some (.cells #[.pointer (some ⟨x.a, 0, none⟩), .int .i64 n] 96 (0, 0))
  bt : base ≤ t
  free : ¬ foot T t
theorem Tri.lt {W : World} {base sz t : Nat} {T : List Nd} {n : Int} (h : Tri W base sz t T n) : t < W.heap.size := by
  obtain ⟨x, -, -, hb⟩ := h.root
  exact (Array.getElem?_eq_some_iff.1 hb).1
theorem Tri.kept {W W' : World} {base sz t : Nat} {T : List Nd} {n : Int} (h : Tri W base sz t T n) (hk : ∀ b, b = t ∨ foot T b → W'.heap[b]? = W.heap[b]?) : Tri W' base sz t T n := by
  obtain ⟨x, h1, h2, h3⟩ := h.root
  exact ⟨h.is.kept fun b hb => hk b (.inr hb), ⟨x, h1, h2, (hk t (.inl rfl)).trans h3⟩, h.bt, h.free⟩
theorem Tri.below {W W' : World} {base sz t : Nat} {T : List Nd} {n : Int} (h : Tri W base sz t T n) (hb : Below W.heap.size W W') : Tri W' base sz t T n :=
  h.kept fun b hf => hb.block b (by rcases hf with rfl | hf; exact h.lt; exact (h.is.lt hf).2)
end
end Go.Proofs.YtincmegllckcjaaGreatDoor
