/- TRIE: walk. TRIE: New, Len, Nodes. TRIE: Filters. TRIE: Under. TRIE: place.take, idle. -/
import Derived.Sort.MapsRangeIn
import Derived.Deep.DrawnRows
import Derived.Test.YtincmegllckcjaaGreatDoorTrieMatchT
import Derived.Sort.OwnSorted
namespace Go.Proofs.YtincmegllckcjaaGreatDoor
section
open Go Go.RowKit
attribute [local go_sem ↓] Go.wp_at_zero Go.wp_at_succ

def slashS : ByteArray := ⟨#[47]⟩
/-- each level, and a slash behind it -/
def pre (p : List ByteArray) : ByteArray := p.foldl (fun a l => a ++ l ++ slashS) ByteArray.empty
theorem pre_snoc (p : List ByteArray) (l : ByteArray) : pre (p ++ [l]) = pre p ++ l ++ slashS := by unfold pre; rw [List.foldl_append]; rfl
/-- nodes strictly under a path -/
def Und (p : List ByteArray) (y : Nd) : Prop := ∃ r, r ≠ [] ∧ y.path = p ++ r
structure WCx (base sz : Nat) (T : List Nd) (B bb : Nat) (W : World) (o : Option Nat) : Prop where
  is : TrieIs W base sz T
  low : ∀ b, foot T b → b < B
  box : B ≤ bb ∧ bb < W.heap.size
  own : ∀ g, o = some g → B ≤ g ∧ g < W.heap.size
theorem WCx.off {base sz : Nat} {T : List Nd} {B bb : Nat} {W : World} {o : Option Nat} (h : WCx base sz T B bb W o) {b : Nat} (hb : foot T b) : ¬ (b = bb ∨ o = some b) := by
  have h1 := h.low b hb
  rintro (e | e)
  · have := h.box.1; omega
  · have := (h.own b e).1; omega
theorem WCx.next {base sz : Nat} {T : List Nd} {B bb : Nat} {W W' : World} {o o' : Option Nat} (h : WCx base sz T B bb W o) (hf : Frame (fun b => b = bb ∨ o = some b) W W') (ho : o' = o ∨ ∃ g, o' = some g ∧ W.heap.size ≤ g) (hlt : ∀ g, o' = some g → g < W'.heap.size) : WCx base sz T B bb W' o' := by
  refine ⟨h.is.kept fun b hb => hf.block b (h.is.lt hb).2 (h.off hb), h.low, ⟨h.box.1, Nat.lt_of_lt_of_le h.box.2 hf.size⟩, fun g hg => ⟨?_, hlt g hg⟩⟩
  rcases ho with rfl | ⟨g', e, h1⟩
  · exact (h.own g hg).1
  · rw [e] at hg; injection hg with hg; have := h.box; omega
/-- what walk's closure keeps -/
structure Keeps (base sz : Nat) (T : List Nd) (B bb : Nat) (Inv : World → Option Nat → List Nd → Prop) : Prop where
  keep : ∀ W W' o V, Inv W o V → (∀ b, b = bb ∨ o = some b → W'.heap[b]? = W.heap[b]?) → Inv W' o V
  lt : ∀ W o V, Inv W o V → ∀ g, o = some g → g < W.heap.size
def Saw (bb : Nat) (Inv : World → Option Nat → List Nd → Prop) (o : Option Nat) (W : World) (V : List Nd) (r : Ending) (w' : World) : Prop :=
  r = .returned (.tuple #[]) ∧ ∃ o', Inv w' o' V ∧ Frame (fun b => b = bb ∨ o = some b) W w' ∧ (o' = o ∨ ∃ g, o' = some g ∧ W.heap.size ≤ g)
def WPost (T : List Nd) (bb : Nat) (Inv : World → Option Nat → List Nd → Prop) (o : Option Nat) (V : List Nd) (x : Nd) (W : World) (r : Ending) (w' : World) : Prop :=
  r = .returned (.tuple #[]) ∧ ∃ o' V', Inv w' o' (V ++ V') ∧ (V ++ V').Nodup ∧ (∀ y, y ∈ V' ↔ y ∈ T ∧ Und x.path y) ∧ Frame (fun b => b = bb ∨ o = some b) W w' ∧ (o' = o ∨ ∃ g, o' = some g ∧ W.heap.size ≤ g)
theorem own_lift {o o1 : Option Nat} {N bb b : Nat} (h : o1 = o ∨ ∃ g, o1 = some g ∧ N ≤ g) (hb : b = bb ∨ o1 = some b) : (b = bb ∨ o = some b) ∨ N ≤ b := by
  rcases hb with hb | hb
  · exact .inl (.inl hb)
  · rcases h with rfl | ⟨g, e, h⟩
    · exact .inl (.inr hb)
    · rw [e] at hb; injection hb with hb; exact .inr (hb ▸ h)
theorem own_chain {o o1 o2 : Option Nat} {N M : Nat} (h : o1 = o ∨ ∃ g, o1 = some g ∧ N ≤ g) (hNM : N ≤ M) (k : o2 = o1 ∨ ∃ g, o2 = some g ∧ M ≤ g) : o2 = o ∨ ∃ g, o2 = some g ∧ N ≤ g := by
  rcases k with rfl | ⟨g, e, k⟩
  · exact h
  · exact .inr ⟨g, e, Nat.le_trans hNM k⟩
theorem own_off {o o1 : Option Nat} {N r : Nat} (h : o1 = o ∨ ∃ g, o1 = some g ∧ N ≤ g) (hr : r < N) (ho : o ≠ some r) : o1 ≠ some r := by
  rcases h with rfl | ⟨g, e, h⟩
  · exact ho
  · rw [e]; intro e2; injection e2 with e2; omega
/-- the range's round -/
structure WLp (base sz : Nat) (T : List Nd) (B bb : Nat) (Inv : World → Option Nat → List Nd → Prop) (o : Option Nat) (V : List Nd) (x : Nd) (W0 wr : World) (r : Nat) (left : Lit → Bool) (cnt : Nat) (o1 : Option Nat) (V1 : List Nd) : Prop where
  rg : wr.ranges Tryz.prog 9 ptrR x.m r sz x.D left cnt
  inv : Inv wr o1 (V ++ V1)
  nd : (V ++ V1).Nodup
  mem : ∀ y, y ∈ V1 ↔ y ∈ T ∧ ∃ l rr, y.path = x.path ++ l :: rr ∧ left (.string l.data.toList) = false
  cx : WCx base sz T B bb wr o1
  fr : Frame (fun b => b = bb ∨ o = some b) W0 wr
  own : o1 = o ∨ ∃ g, o1 = some g ∧ W0.heap.size ≤ g
  off : o1 ≠ some r ∧ W0.heap.size ≤ r ∧ bb < W0.heap.size
theorem ranges_of {w w' : World} {b r n : Nat} {D : DataW Unit} {left : Lit → Bool} {cnt : Nat} (h : w.ranges Tryz.prog 9 ptrR b r n D left cnt) (hb : w'.heap[b]? = w.heap[b]?) (hr : w'.heap[r]? = w.heap[r]?) : w'.ranges Tryz.prog 9 ptrR b r n D left cnt := by
  obtain ⟨es, clock, since, seen, c0, h1, h2, h3, h4, h5, rest⟩ := h
  exact ⟨es, clock, since, seen, c0, hb.trans h1, h2, h3, h4, hr.trans h5, rest⟩
end
section
open Go Go.RowKit
attribute [local go_sem ↓] Go.wp_at_zero Go.wp_at_succ

theorem frame_set {F : Nat → Prop} (W : World) (b o : Nat) (v : Value) (h : F b) : Frame F W (W.setCell ⟨b, o, none⟩ v) :=
  ⟨rfl, rfl, rfl, by simp, fun k _ hF => Below.heap_setCell _ _ _ _ (fun e => hF (e ▸ h))⟩
/-- the count in its box -/
def InvN (bb : Nat) (W : World) (o : Option Nat) (V : List Nd) : Prop := o = none ∧ W.heap[bb]? = some (.cells #[.int .i64 (V.length : Nat)] 3 (0, 0))
theorem keepsN (base sz : Nat) (T : List Nd) (B bb : Nat) : Keeps base sz T B bb (InvN bb) :=
  ⟨fun W W' o V h hb => ⟨h.1, (hb bb (.inl rfl)).trans h.2⟩, fun W o V h g hg => by rw [h.1] at hg; cases hg⟩
def NodesPost (w : World) (T : List Nd) (r : Ending) (w' : World) : Prop :=
  ∃ V : List Nd, r = .returned (.int .i64 (V.length : Nat)) ∧ V.Nodup ∧ (∀ y, y ∈ V ↔ y ∈ T ∧ y.path ≠ []) ∧ Below w.heap.size w w'
theorem und_nil {y : Nd} : Und [] y ↔ y.path ≠ [] := by
  unfold Und
  constructor
  · rintro ⟨r, h, e⟩; rw [e]; exact h
  · intro h; exact ⟨y.path, h, rfl⟩
theorem depth_of (T : List Nd) : ∃ n, ∀ y ∈ T, y.path.length ≤ n := by
  induction T with
  | nil => exact ⟨0, fun y h => by cases h⟩
  | cons x T ih =>
    obtain ⟨n, h⟩ := ih
    refine ⟨max n x.path.length, fun y hy => ?_⟩
    rcases List.mem_cons.1 hy with rfl | hy
    · omega
    · have := h y hy; omega
end
section
open Go Go.RowKit
attribute [local go_sem ↓] Go.wp_at_zero Go.wp_at_succ

/-- a row of texts of the call's own -/
abbrev SRow (W : World) (base : Nat) (v : Value) (ss : List ByteArray) : Prop := W.ownsRow base 9 1 v ss.length (ss.map Value.string)
theorem SRow.nil (W : World) (base : Nat) : SRow W base (.slice none 0 0) [] := World.ownsRow_nil _ _ _ _
theorem SRow.slice {W : World} {base : Nat} {v : Value} {ss : List ByteArray} (h : SRow W base v ss) : ∃ q c, v = .slice q ss.length c := by
  rcases h.2 with ⟨rfl, h2⟩ | ⟨g, cap, cur, rfl, -⟩
  · exact ⟨_, _, by rw [h2]⟩
  · exact ⟨_, _, rfl⟩
theorem SRow.of_heap {W W' : World} {base : Nat} {v : Value} {ss : List ByteArray} (h : SRow W base v ss) (hk : ∀ b, v.ownBlock = some b → W'.heap[b]? = W.heap[b]?) : SRow W' base v ss := by
  refine ⟨h.1, ?_⟩
  rcases h.2 with hn | ⟨g, cap, cur, e, hb, hg, rest⟩
  · exact .inl hn
  · exact .inr ⟨g, cap, cur, e, hb, (hk g (by rw [e]; rfl)).trans hg, rest⟩
theorem SRow.box {W : World} {base bb : Nat} {v u : Value} {ss : List ByteArray} (h : SRow W base v ss) (hb : W.heap[bb]? = some (.cells #[u] 55 (0, 0))) : v.ownBlock ≠ some bb := by
  rcases h.2 with ⟨rfl, -⟩ | ⟨g, cap, cur, rfl, -, hg, -⟩
  · intro e; cases e
  · intro e
    injection e with e
    subst e
    rw [hb] at hg
    injection hg with hg
    injection hg with _ h2
    exact absurd h2 (by decide)
/-- a path's text -/
def txt (p : List ByteArray) : ByteArray := pre p.dropLast ++ p.getLast?.getD ByteArray.empty
theorem txt_snoc (p : List ByteArray) (l : ByteArray) : txt (p ++ [l]) = pre p ++ l := by unfold txt; simp
/-- the texts of those that hold numbers -/
def texts (V : List Nd) : List ByteArray := (V.filter fun y => decide (y.ids ≠ [])).map fun y => txt y.path
theorem texts_snoc (V : List Nd) (y : Nd) : texts (V ++ [y]) = texts V ++ (if y.ids ≠ [] then [txt y.path] else []) := by
  unfold texts
  rw [List.filter_append, List.map_append]
  congr 1
  by_cases h : y.ids = [] <;> simp [h]
theorem texts_len (V : List Nd) : (texts V).length ≤ V.length := by unfold texts; rw [List.length_map]; exact List.length_filter_le _ _
def InvF (B bb : Nat) (W : World) (o : Option Nat) (V : List Nd) : Prop := ∃ v, v.ownBlock = o ∧ W.heap[bb]? = some (.cells #[v] 55 (0, 0)) ∧ SRow W B v (texts V)
theorem keepsF (base sz : Nat) (T : List Nd) (B bb : Nat) : Keeps base sz T B bb (InvF B bb) :=
  ⟨fun W W' o V h hb => by
    obtain ⟨v, h1, h2, h3⟩ := h
    exact ⟨v, h1, (hb bb (.inl rfl)).trans h2, h3.of_heap fun b e => hb b (.inr (h1 ▸ e))⟩,
  fun W o V h g hg => by
    obtain ⟨v, h1, h2, h3⟩ := h
    exact (h3.lt g (h1.trans hg)).2⟩
def lists (ss : List ByteArray) : List (List UInt8) := ss.map fun s => s.data.toList
def sortS (ss : List ByteArray) : List ByteArray := ((lists ss).mergeSort fun x y => decide (x ≤ y)).map fun l => ⟨l.toArray⟩
theorem lists_back (L : List (List UInt8)) : lists (L.map fun l => ⟨l.toArray⟩) = L := by
  unfold lists
  rw [List.map_map]
  conv => rhs; rw [← List.map_id L]
  exact List.map_congr_left fun l _ => by simp
theorem lists_enc (ss : List ByteArray) : (lists ss).map encStr = ss.map Value.string := by
  unfold lists
  rw [List.map_map]
  exact List.map_congr_left fun s _ => by simp [encStr]
theorem sort_texts (v : Value) (ss : List ByteArray) (base : Nat) (w : World) (h : SRow w base v ss) (hn : ss.length ≤ 1000000000) :
    Calls Tryz.prog 29 #[v] w fun e w' => e = .returned (.tuple #[]) ∧ SRow w' base v (sortS ss) ∧ w.grownBy w' v.ownBlock := by
  have hlen : ((lists ss).mergeSort fun x y => decide (x ≤ y)).length = ss.length := by rw [List.length_mergeSort]; simp [lists]
  have hlen2 : (sortS ss).length = ss.length := by unfold sortS; rw [List.length_map]; exact hlen
  have hll : (lists ss).length = ss.length := by simp [lists]
  rcases h.2 with ⟨rfl, h0⟩ | ⟨g, cap, cur, rfl, hb, hbox, h3, h4, h5, h6⟩
  · have : ss = [] := List.eq_nil_of_length_eq_zero h0
    subst this
    refine (Any.slices_Sort_string_none Tryz.laysn190 none 0 w).mono ?_
    rintro e w' ⟨rfl, rfl⟩
    exact ⟨rfl, by simpa [sortS, lists] using h, ⟨rfl, rfl, rfl, Nat.le_refl _, fun _ _ _ => rfl⟩⟩
  · have hg := (Array.getElem?_eq_some_iff.1 hbox).1
    have h7 : cur.toList.take (lists ss).length = (lists ss).map encStr := by rw [hll, lists_enc]; rw [Nat.mul_one] at h6; exact h6
    have C := Any.slices_Sort_string Tryz.laysn190 g 0 cap (lists ss) w (holds_of_block hbox h7) hg (by omega)
    rw [hll] at C
    refine C.mono ?_
    rintro e w' ⟨rfl, n, os, rfl⟩
    refine ⟨rfl, ?_, grownBy_sorted _⟩
    have := ownsRow_sorted (ss := lists ss) (ts := (lists ss).mergeSort fun x y => decide (x ≤ y)) (n := n) (os := os) (by rw [hlen, hll]) hb hbox (by omega) h4 h5
    unfold SRow
    rw [hlen2]
    have e2 : (sortS ss).map Value.string = ((lists ss).mergeSort fun x y => decide (x ≤ y)).map encStr := by
      rw [← lists_enc]
      unfold sortS
      rw [lists_back]
    rw [e2, ← hll]
    exact this
theorem mem_sortS {ss : List ByteArray} {s : ByteArray} : s ∈ sortS ss ↔ s ∈ ss := by
  unfold sortS lists
  rw [List.mem_map]
  constructor
  · rintro ⟨l, hl, rfl⟩
    rw [List.mem_mergeSort] at hl
    obtain ⟨t, ht, rfl⟩ := List.mem_map.1 hl
    simpa using ht
  · intro h
    exact ⟨s.data.toList, by rw [List.mem_mergeSort]; exact List.mem_map_of_mem h, by simp⟩
def FiltersPost (w : World) (T : List Nd) (r : Ending) (w' : World) : Prop :=
  ∃ v ss, r = .returned v ∧ SRow w' w.heap.size v (sortS ss) ∧ ss.length ≤ T.length ∧ (∃ V : List Nd, V.Nodup ∧ (∀ y, y ∈ V ↔ y ∈ T ∧ y.path ≠ []) ∧ ss = texts V) ∧ Below w.heap.size w w'
end
section
open Go Go.RowKit
attribute [local go_sem ↓] Go.wp_at_zero Go.wp_at_succ

def UnderPost (w : World) (T : List Nd) (f : ByteArray) (r : Ending) (w' : World) : Prop :=
  ∃ v ids, r = .returned v ∧ IRow w' w.heap.size v ids ∧ ids.Pairwise (· < ·) ∧ (∀ z, z ∈ ids ↔ filterB f = true ∧ IdAt T (levels f) z) ∧ Below w.heap.size w w'
end
section
open Go Go.RowKit
attribute [local go_sem ↓] Go.wp_at_zero Go.wp_at_succ

def outL (ids : List Int) (id : Int) : List Int := if id ∈ ids then delL (· < ·) ids id else ids
theorem outL_mem {ids : List Int} (h : ids.Pairwise (· < ·)) (id z : Int) : z ∈ outL ids id ↔ z ∈ ids ∧ z ≠ id := by
  unfold outL
  split
  · rename_i hm
    exact (delL_spec ord_int h hm).2.2.1 z
  · rename_i hm
    exact ⟨fun hz => ⟨hz, fun e => hm (e ▸ hz)⟩, fun hz => hz.1⟩
theorem outL_sorted {ids : List Int} (h : ids.Pairwise (· < ·)) (id : Int) : (outL ids id).Pairwise (· < ·) := by
  unfold outL
  split
  · rename_i hm
    exact (delL_spec ord_int h hm).2.1
  · exact h
theorem outL_len {ids : List Int} (h : ids.Pairwise (· < ·)) (id : Int) : (outL ids id).length ≤ ids.length := by
  unfold outL
  split
  · rename_i hm
    have := (delL_spec ord_int h hm).2.2.2
    omega
  · exact Nat.le_refl _
def TakeP (w : World) (base sz : Nat) (x : Nd) (id : Int) (r : Ending) (w' : World) : Prop :=
  ∃ v', r = .returned (.bool (decide (id ∈ x.ids))) ∧ NdIs w' base sz { x with v := v', ids := outL x.ids id } ∧ Frame (fun b => b = x.a ∨ x.v.ownBlock = some b) w w' ∧ v'.ownBlock = x.v.ownBlock
theorem ptake_any (w : World) (base sz : Nat) (x : Nd) (id : Int) (h : NdIs w base sz x) (hs : x.ids.Pairwise (· < ·)) (hn : x.ids.length ≤ 100000000) :
    Calls Tryz.prog 125 #[.pointer (some ⟨x.a, 0, none⟩), .int .i64 id] w (TakeP w base sz x id) := by
  obtain ⟨PP, hPP⟩ : ∃ PP, TakeP w base sz x id = PP := ⟨_, rfl⟩
  rw [hPP]
  have HPP := Lib.hid hPP
  obtain ⟨path, a, m, v, ids, D⟩ := x
  have HX := Lib.hid h
  have HR : Hid (IRow w base v ids) := h.row
  have hbox : w.heap[a]? = some (.cells #[v, .map (some m)] 101 (0, 0)) := h.box
  have hna := row_node HR.out hbox
  have c0 : w.cell? ⟨a, 0, none⟩ = some v := by rw [cell_of_row w a 0 _ _ _ hbox]; rfl
  have hf := frozen_of_row w a 0 _ _ hbox
  have hl := (Array.getElem?_eq_some_iff.1 hbox).1
  have SC := Lib.hid (search_any v ids id base w HR.out hs (by simp only at hn; omega))
  obtain ⟨q, c, rfl⟩ := HR.out.slice
  have HNA := Lib.hid hna
  have HBX := Lib.hid hbox
  have HS := Lib.hid hs
  have HN := Lib.hid hn
  clear hPP h hbox hna hs hn
  by_cases hm : id ∈ ids
  · have hd : decide (id ∈ ids) = true := decide_eq_true hm
    rw [hd] at SC
    have hsp := delL_spec ord_int HS.out hm
    have hk : cntL (· < ·) ids id < ids.length := (List.getElem?_eq_some_iff.1 hsp.1).1
    have hkI : (cntL (· < ·) ids id : Int) + 1 ≤ 9223372036854775807 := by have h9 : ids.length ≤ 100000000 := HN.out; omega
    have HM := Lib.hid hm
    have HSP := Lib.hid hsp
    have CD : Hid (∀ q1, Calls Tryz.prog 154 #[.slice q ids.length c, .int .i64 (cntL (· < ·) ids id : Nat), .int .i64 ((cntL (· < ·) ids id : Int) + 1)] (w.drewN q1) fun e w' => ∃ v', e = .returned v' ∧ IRow w' base v' (ids.take (cntL (· < ·) ids id) ++ ids.drop (cntL (· < ·) ids id + 1)) ∧ (w.drewN q1).grownBy w' (Value.slice q ids.length c).ownBlock ∧ v'.ownBlock = (Value.slice q ids.length c).ownBlock) :=
      fun q1 => by simpa using delete_any (w.drewN q1) base _ ids (cntL (· < ·) ids id) HR.out hk
    clear hm hd hsp
    go_enter Tryz.func125, Tryz.ntmps125
    go_wp2_with fail
    refine SC.out.mono ?_
    rintro e w1 ⟨rfl, q1, rfl⟩
    go_wp2_with fail
    refine (CD.out q1).mono ?_
    rintro e w2 ⟨v', rfl, hr2, hg2, hv2⟩
    have hlen : (ids.take (cntL (· < ·) ids id) ++ ids.drop (cntL (· < ·) ids id + 1)) = outL ids id := by unfold outL; rw [if_pos HM.out]; rfl
    rw [hlen] at hr2
    obtain ⟨q2, c2, rfl⟩ := IRow.slice hr2
    have HR2 := Lib.hid hr2
    have HG2 := Lib.hid hg2
    have HV2 := Lib.hid hv2
    have hb2 : w2.heap[a]? = some (.cells #[.slice q ids.length c, .map (some m)] 101 (0, 0)) := (hg2.block a hl (fun e => HNA.out e.symm)).trans HBX.out
    have hf2 := frozen_of_row w2 a 0 _ _ hb2
    have k2 : w2.cell? ⟨a, 0, none⟩ = some (.slice q ids.length c) := by rw [cell_of_row w2 a 0 _ _ _ hb2]; rfl
    have hl2 := (Array.getElem?_eq_some_iff.1 hb2).1
    have HB2 := Lib.hid hb2
    clear hr2 hg2 hv2 hb2 hlen
    go_wp2_with fail
    rw [← HPP.out]
    have hvn : (Value.slice q2 (outL ids id).length c2).ownBlock ≠ some a := by rw [HV2.out]; exact HNA.out
    refine ⟨.slice q2 (outL ids id).length c2, by rw [decide_eq_true HM.out]; rfl, ⟨?_, ?_, ?_, HX.out.ba, HX.out.bm⟩, ?_, HV2.out⟩
    · exact heap_setCell_same w2 a 0 _ _ _ HB2.out
    · have h1 := HX.out.map
      have hma := map_node h1 HBX.out
      obtain ⟨es, clock, h2, h3⟩ := h1
      refine ⟨es, clock, ?_, h3⟩
      have hml : m < w.heap.size := (Array.getElem?_eq_some_iff.1 h2).1
      exact (Below.heap_setCell w2 ⟨a, 0, none⟩ _ m hma).trans ((HG2.out.block m hml (fun e => map_row ⟨es, clock, h2, h3⟩ HR.out e.symm)).trans h2)
    · exact ownsRow_setCell_other HR2.out hvn _
    · refine ⟨HG2.out.os, HG2.out.tape, HG2.out.output, ?_, fun b hb1 hF => ?_⟩
      · have h1 := HG2.out.size
        simp [World.setCell] at h1 ⊢
        omega
      · exact (Below.heap_setCell w2 ⟨a, 0, none⟩ _ b (fun e => hF (.inl e))).trans (HG2.out.block b hb1 (fun e => hF (.inr e.symm)))
  · have hd : decide (id ∈ ids) = false := decide_eq_false hm
    rw [hd] at SC
    have HM := Lib.hid hm
    clear hm hd
    go_enter Tryz.func125, Tryz.ntmps125
    go_wp2_with fail
    refine SC.out.mono ?_
    rintro e w1 ⟨rfl, q1, rfl⟩
    go_wp2_with fail
    rw [← HPP.out]
    refine ⟨.slice q ids.length c, ?_, ?_, Frame.of_grown (row := none) ⟨rfl, rfl, rfl, Nat.le_refl _, fun _ _ _ => rfl⟩ (fun b e => by cases e), rfl⟩
    · rw [decide_eq_false (fun h => HM.out h)]; rfl
    · have e : outL ids id = ids := by unfold outL; rw [if_neg HM.out]
      simp only [e]
      exact HX.out.kept fun _ _ => rfl
/-- a map without an entry has no kid, and the other way round -/
theorem size_kids {W : World} {base sz : Nat} {x : Nd} (h : NdIs W base sz x) : Maps.size x.D = 0 ↔ ∀ s, kid x.D s = none := by
  constructor
  · intro h0 s
    obtain ⟨es, hD, hp, hk⟩ := h.map.entries string_keys
    rw [hD, Maps.size_eq] at h0
    have := List.eq_nil_of_length_eq_zero h0
    subst this
    rw [hD]
    rfl
  · intro hall
    obtain ⟨es, clock, hb, F, _, hD⟩ := h.map
    have hl : es.toList = [] := by
      cases he : es.toList with
      | nil => rfl
      | cons e rest =>
        exfalso
        have hm : e ∈ es.toList := by rw [he]; exact List.mem_cons_self ..
        obtain ⟨y, hy⟩ := F.reads e hm
        have hkey := WideElems.rd_key hy
        obtain ⟨s, hs⟩ := Maps.keyOf_string_inv Tryz.underlying9 hkey
        have hk1 : y.1 = .string s.data.toList := by
          rw [hs] at hkey
          simp [keyOf, mapKey, Tryz.underlying9] at hkey
          exact hkey.2.symm
        rw [hk1] at hkey
        rcases Maps.fit_look (w := W) (z := .pointer none) false string_keys Tryz.underlying99 (by kernel_rfl) hb F hkey with ⟨_, h1, _⟩ | ⟨e0, y0, _, _, _, hRv, hat, _⟩
        · exact h1 e hm rfl
        · obtain ⟨b, hv, rfl⟩ := ptrR_inv hRv
          have := hall s
          rw [hD, kid_some (hat noD)] at this
          cases this
    rw [hD, hl]
    rfl
theorem idle_any (w : World) (base sz : Nat) (x : Nd) (h : NdIs w base sz x) :
    Calls Tryz.prog 127 #[.pointer (some ⟨x.a, 0, none⟩)] w fun e w' => e = .returned (.bool (decide (x.ids.length = 0) && decide (Maps.size x.D = 0))) ∧ w' = w := by
  obtain ⟨PP, hPP⟩ : ∃ PP : Ending → World → Prop, (fun e w' => e = .returned (.bool (decide (x.ids.length = 0) && decide (Maps.size x.D = 0))) ∧ w' = w) = PP := ⟨_, rfl⟩
  rw [hPP]
  have HPP := Lib.hid hPP
  have hrow : IRow w base x.v x.ids := h.row
  obtain ⟨q, c, hv⟩ := hrow.slice
  have c0 : w.cell? ⟨x.a, 0, none⟩ = some (.slice q x.ids.length c) := by rw [cell_of_row w x.a 0 _ _ _ h.box, ← hv]; rfl
  have c1 : w.cell? ⟨x.a, 1, none⟩ = some (.map (some x.m)) := by rw [cell_of_row w x.a 1 _ _ _ h.box]; rfl
  have hl := (Array.getElem?_eq_some_iff.1 h.box).1
  have hlen := fun ty => h.map.len Tryz.underlying99 ty
  clear hPP h hrow hv
  by_cases h0 : x.ids.length = 0
  · rw [h0] at c0
    have H0 := Lib.hid h0
    clear h0
    go_enter Tryz.func127, Tryz.ntmps127
    go_wp2_with fail
    rw [← HPP.out]
    refine ⟨?_, rfl⟩
    have e : ((Maps.size x.D : Int) == 0) = (decide (x.ids.length = 0) && decide (Maps.size x.D = 0)) := by
      rw [decide_eq_true H0.out, Bool.true_and, Bool.eq_iff_iff, beq_iff_eq, decide_eq_true_eq]
      omega
    exact congrArg (fun c => Ending.returned (.bool c)) e
  · have h0I : ((x.ids.length : Int) == 0) = false := by rw [beq_eq_false_iff_ne]; omega
    have H0 := Lib.hid h0
    clear h0
    go_enter Tryz.func127, Tryz.ntmps127
    go_wp2_with fail
    rw [← HPP.out]
    refine ⟨?_, rfl⟩
    rw [decide_eq_false H0.out]
    rfl
end
end Go.Proofs.YtincmegllckcjaaGreatDoor
