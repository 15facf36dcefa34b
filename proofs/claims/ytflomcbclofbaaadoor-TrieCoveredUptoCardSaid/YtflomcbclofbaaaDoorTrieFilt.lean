/- TRIE: Filters. -/
import Derived.Sort.OwnSorted
import Derived.Test.YtflomcbclofbaaaDoorTrieNodes
namespace Go.Proofs.YtflomcbclofbaaaDoor
open Go Go.RowKit
attribute [local go_sem ↓] Go.wp_at_zero Go.wp_at_succ

/-- a row of texts of the call's own -/
abbrev SRow (W : World) (base : Nat) (v : Value) (ss : List ByteArray) : Prop := W.ownsRow base 9 1 v ss.length (ss.map Value.string)
theorem SRow.nil (W : World) (base : Nat) : SRow W base (.slice none 0 0) [] := World.ownsRow_nil _ _ _ _
theorem SRow.slice {W : World} {base : Nat} {v : Value} {ss : List ByteArray} (h : SRow W base v ss) : ∃ q c, v = .slice q ss.length c := by
  rcases h.2 with ⟨rfl, h2⟩ | ⟨g, cap, cur, rfl, -⟩
  · exact ⟨_, _, by rw [h2]⟩
  · exact ⟨_, _, rfl⟩
theorem SRow.of_heap {W W' : World} {base : Nat} {v : Value} {ss : List ByteArray} (h : SRow W base v ss) (hk : ∀ b, v.ownBlock = some b → W'.heap[b]? = W.heap[b]?) : SRow W' base v ss := by
  refine ⟨h.1, ?_⟩
  rcases h.2 with hn | ⟨g, cap, cur, e, hb, hg, rest⟩
  · exact .inl hn
  · exact .inr ⟨g, cap, cur, e, hb, (hk g (by rw [e]; rfl)).trans hg, rest⟩
theorem SRow.box {W : World} {base bb : Nat} {v u : Value} {ss : List ByteArray} (h : SRow W base v ss) (hb : W.heap[bb]? = some (.cells #[u] 23 (0, 0))) : v.ownBlock ≠ some bb := by
  rcases h.2 with ⟨rfl, -⟩ | ⟨g, cap, cur, rfl, -, hg, -⟩
  · intro e; cases e
  · intro e
    injection e with e
    subst e
    rw [hb] at hg
    injection hg with hg
    injection hg with _ h2
    exact absurd h2 (by decide)
/-- a path's text -/
def txt (p : List ByteArray) : ByteArray := pre p.dropLast ++ p.getLast?.getD ByteArray.empty
theorem txt_snoc (p : List ByteArray) (l : ByteArray) : txt (p ++ [l]) = pre p ++ l := by unfold txt; simp
/-- the texts of those that hold numbers -/
def texts (V : List Nd) : List ByteArray := (V.filter fun y => decide (y.ids ≠ [])).map fun y => txt y.path
theorem texts_snoc (V : List Nd) (y : Nd) : texts (V ++ [y]) = texts V ++ (if y.ids ≠ [] then [txt y.path] else []) := by
  unfold texts
  rw [List.filter_append, List.map_append]
  congr 1
  by_cases h : y.ids = [] <;> simp [h]
theorem texts_len (V : List Nd) : (texts V).length ≤ V.length := by unfold texts; rw [List.length_map]; exact List.length_filter_le _ _
def InvF (B bb : Nat) (W : World) (o : Option Nat) (V : List Nd) : Prop := ∃ v, v.ownBlock = o ∧ W.heap[bb]? = some (.cells #[v] 23 (0, 0)) ∧ SRow W B v (texts V)
theorem keepsF (base sz : Nat) (T : List Nd) (B bb : Nat) : Keeps base sz T B bb (InvF B bb) :=
  ⟨fun W W' o V h hb => by
    obtain ⟨v, h1, h2, h3⟩ := h
    exact ⟨v, h1, (hb bb (.inl rfl)).trans h2, h3.of_heap fun b e => hb b (.inr (h1 ▸ e))⟩,
  fun W o V h g hg => by
    obtain ⟨v, h1, h2, h3⟩ := h
    exact (h3.lt g (h1.trans hg)).2⟩
set_option maxRecDepth 100000 in
set_option maxHeartbeats 4000000 in
theorem seeF (base sz : Nat) (T : List Nd) (B bb : Nat) (hT : T.length ≤ 100000000) : SeeSpecF base sz T B bb (InvF B bb) := by
  intro W o V y p l hy hyp hcx hinv hnd hVT
  have hlen : V.length + 1 ≤ T.length := by
    have := nodup_le hnd (fun z hz => by
      rcases List.mem_append.1 hz with h | h
      · exact hVT z h
      · rw [List.mem_singleton] at h; rw [h]; exact hy : ∀ z ∈ V ++ [y], z ∈ T)
    simpa using this
  have htl := texts_len V
  obtain ⟨PP, hPP⟩ : ∃ PP, Saw bb (InvF B bb) o W (V ++ [y]) = PP := ⟨_, rfl⟩
  rw [hPP]
  have HPP := Lib.hid hPP
  obtain ⟨i0, hi, hz0, hz1, hz2⟩ := info_parts info_string
  obtain ⟨v, hv, hbx, hrow⟩ := hinv
  obtain ⟨q, c, rfl⟩ := hrow.slice
  have cb : W.cell? ⟨bb, 0, none⟩ = some (.slice q (texts V).length c) := by rw [cell_of_row W bb 0 _ _ _ hbx]; rfl
  have hfb := frozen_of_row W bb 0 _ _ hbx
  have hlb := (Array.getElem?_eq_some_iff.1 hbx).1
  have hny := hcx.is.each y hy
  have c0 : W.cell? ⟨y.a, 0, none⟩ = some y.v := by rw [cell_of_row W y.a 0 _ _ _ hny.box]; rfl
  have hyl := (Array.getElem?_eq_some_iff.1 hny.box).1
  obtain ⟨q2, c2, hv2⟩ := IRow.slice (show IRow W base y.v y.ids from hny.row)
  rw [hv2] at c0
  have HYP := Lib.hid hyp
  have HBX := Lib.hid hbx
  have HRW := Lib.hid hrow
  have HV := Lib.hid hv
  have HCX := Lib.hid hcx
  have hBb : B < W.heap.size := by have := hcx.box; omega
  have hob := hrow.box hbx
  clear hPP hcx hnd hVT hbx hyp hny hv2 hrow hv
  by_cases hids : y.ids = []
  · have h0 : y.ids.length = 0 := by rw [hids]; rfl
    rw [h0] at c0
    have HID := Lib.hid hids
    clear hids
    go_enter Tryd.func32, Tryd.ntmps32
    go_wp2_with fail
    refine bodyPost_ret (v := .tuple #[]) (by simp [results, Tryd.results32]) rfl ?_
    rw [← HPP.out]
    refine ⟨rfl, o, ⟨_, HV.out, HBX.out, ?_⟩, Frame.of_below (Below.refl _ _), .inl rfl⟩
    rw [texts_snoc, if_neg (fun h => h HID.out), List.append_nil]
    exact HRW.out
  · have h0 : 0 < y.ids.length := List.length_pos_iff.2 hids
    have h0I : (0 : Int) < (y.ids.length : Int) := by omega
    have HID := Lib.hid hids
    clear hids
    go_enter Tryd.func32, Tryd.ntmps32
    go_wp2_with (at_builtin; refine wpList_append_own_at _ rfl _ _ 23 rfl B 9 i0 (.string ByteArray.empty) 1 16 Tryd.underlying23 hi hz0 hz1 hz2 rfl (by decide) _ _ _ rfl (HRW.out.alloc _) ⟨W.heap.size, 0, none⟩ 1 1 [.string (pre p ++ l)] rfl rfl (cell_one_new _ _ _) (by intro u hu; simp at hu; subst hu; rfl) (by unfold maxLen; omega) (by omega) (by simp; omega) ?_; intro v2 w2 hown2 hg2 hnil2 hloc; have hg3 : (W.alloc (.cells #[.string (pre p ++ l)] 9)).grownBy w2 (Value.slice q (texts V).length c).ownBlock := hg2; have hbx2 : w2.heap[bb]? = some (.cells #[.slice q (texts V).length c] 23 (0, 0)) := (hg3.block bb (by simp; omega) (fun e => hob e.symm)).trans ((Below.heap_alloc _ _ _ hlb).trans HBX.out); obtain ⟨g3, cap3, rfl⟩ := ownsRow_succ hown2; have hfb2 := frozen_of_row w2 bb 0 _ _ hbx2; have hlb2 := (Array.getElem?_eq_some_iff.1 hbx2).1; have cb2 : w2.cell? ⟨bb, 0, none⟩ = some (.slice q (texts V).length c) := (by rw [cell_of_row w2 bb 0 _ _ _ hbx2]; rfl); have HOW := Lib.hid hown2; have HG2 := Lib.hid hg3; have HBX2 := Lib.hid hbx2; have HLOC := Lib.hid hloc; clear hown2 hg2 hg3 hnil2 hbx2 hloc)
    refine bodyPost_ret (v := .tuple #[]) (by simp [results, Tryd.results32]) rfl ?_
    rw [← HPP.out]
    have hrow3 : SRow w2 B (.slice (some ⟨g3, 0, none⟩) ((texts V).length + 1) cap3) (texts (V ++ [y])) := by
      unfold SRow
      rw [texts_snoc, if_pos HID.out, HYP.out, txt_snoc, List.length_append, List.map_append]
      exact HOW.out
    have hne : g3 ≠ bb := fun e => hrow3.box HBX2.out (by rw [e]; rfl)
    refine ⟨rfl, some g3, ⟨_, rfl, heap_setCell_same w2 bb 0 _ _ _ HBX2.out, hrow3.of_heap fun b hb => Below.heap_setCell _ _ _ _ (fun e => ?_)⟩, ?_, ?_⟩
    · injection hb with hb
      exact hne (hb.trans e)
    · refine Frame.trans (Frame.trans (Frame.of_below ((Below.refl _ _).alloc (Nat.le_refl _) _)) (Frame.of_grown HG2.out (fun b hb => .inl (.inr (HV.out ▸ hb))))) ((frame_set (F := fun b => b = bb) w2 bb 0 _ rfl).mono fun b hb => .inl (.inl hb))
    · rcases HLOC.out with h | h
      · exact .inl (Eq.trans (show some g3 = (Value.slice q (texts V).length c).ownBlock from h) HV.out)
      · refine .inr ⟨g3, rfl, ?_⟩
        have h9 : some g3 = some (W.alloc (.cells #[.string (pre p ++ l)] 9)).heap.size := h
        injection h9 with h9
        rw [h9, World.size_alloc]
        omega

def lists (ss : List ByteArray) : List (List UInt8) := ss.map fun s => s.data.toList
def sortS (ss : List ByteArray) : List ByteArray := ((lists ss).mergeSort fun x y => decide (x ≤ y)).map fun l => ⟨l.toArray⟩
theorem lists_back (L : List (List UInt8)) : lists (L.map fun l => ⟨l.toArray⟩) = L := by
  unfold lists
  rw [List.map_map]
  conv => rhs; rw [← List.map_id L]
  exact List.map_congr_left fun l _ => by simp
theorem lists_enc (ss : List ByteArray) : (lists ss).map encStr = ss.map Value.string := by
  unfold lists
  rw [List.map_map]
  exact List.map_congr_left fun s _ => by simp [encStr]
theorem sort_texts (v : Value) (ss : List ByteArray) (base : Nat) (w : World) (h : SRow w base v ss) (hn : ss.length ≤ 1000000000) :
    Calls Tryd.prog 33 #[v] w fun e w' => e = .returned (.tuple #[]) ∧ SRow w' base v (sortS ss) ∧ w.grownBy w' v.ownBlock := by
  have hlen : ((lists ss).mergeSort fun x y => decide (x ≤ y)).length = ss.length := by rw [List.length_mergeSort]; simp [lists]
  have hlen2 : (sortS ss).length = ss.length := by unfold sortS; rw [List.length_map]; exact hlen
  have hll : (lists ss).length = ss.length := by simp [lists]
  rcases h.2 with ⟨rfl, h0⟩ | ⟨g, cap, cur, rfl, hb, hbox, h3, h4, h5, h6⟩
  · have : ss = [] := List.eq_nil_of_length_eq_zero h0
    subst this
    refine (Any.slices_Sort_string_none Tryd.laysn190 none 0 w).mono ?_
    rintro e w' ⟨rfl, rfl⟩
    exact ⟨rfl, by simpa [sortS, lists] using h, ⟨rfl, rfl, rfl, Nat.le_refl _, fun _ _ _ => rfl⟩⟩
  · have hg := (Array.getElem?_eq_some_iff.1 hbox).1
    have h7 : cur.toList.take (lists ss).length = (lists ss).map encStr := by rw [hll, lists_enc]; rw [Nat.mul_one] at h6; exact h6
    have C := Any.slices_Sort_string Tryd.laysn190 g 0 cap (lists ss) w (holds_of_block hbox h7) hg (by omega)
    rw [hll] at C
    refine C.mono ?_
    rintro e w' ⟨rfl, n, os, rfl⟩
    refine ⟨rfl, ?_, grownBy_sorted _⟩
    have := ownsRow_sorted (ss := lists ss) (ts := (lists ss).mergeSort fun x y => decide (x ≤ y)) (n := n) (os := os) (by rw [hlen, hll]) hb hbox (by omega) h4 h5
    unfold SRow
    rw [hlen2]
    have e2 : (sortS ss).map Value.string = ((lists ss).mergeSort fun x y => decide (x ≤ y)).map encStr := by
      rw [← lists_enc]
      unfold sortS
      rw [lists_back]
    rw [e2, ← hll]
    exact this
theorem mem_sortS {ss : List ByteArray} {s : ByteArray} : s ∈ sortS ss ↔ s ∈ ss := by
  unfold sortS lists
  rw [List.mem_map]
  constructor
  · rintro ⟨l, hl, rfl⟩
    rw [List.mem_mergeSort] at hl
    obtain ⟨t, ht, rfl⟩ := List.mem_map.1 hl
    simpa using ht
  · intro h
    exact ⟨s.data.toList, by rw [List.mem_mergeSort]; exact List.mem_map_of_mem h, by simp⟩
def FiltersPost (w : World) (T : List Nd) (r : Ending) (w' : World) : Prop :=
  ∃ v ss, r = .returned v ∧ SRow w' w.heap.size v (sortS ss) ∧ ss.length ≤ T.length ∧ (∃ V : List Nd, V.Nodup ∧ (∀ y, y ∈ V ↔ y ∈ T ∧ y.path ≠ []) ∧ ss = texts V) ∧ Below w.heap.size w w'
set_option maxRecDepth 100000 in
set_option maxHeartbeats 4000000 in
theorem filters_any (w : World) (base sz t : Nat) (T : List Nd) (n : Int) (H : Tri w base sz t T n) (hT : T.length ≤ 100000000) (hpre : ∀ y ∈ T, (pre y.path).size ≤ 1000000) :
    Calls Tryd.prog 12 #[.pointer (some ⟨t, 0, none⟩)] w (FiltersPost w T) := by
  obtain ⟨PP, hPP⟩ : ∃ PP, FiltersPost w T = PP := ⟨_, rfl⟩
  rw [hPP]
  have HPP := Lib.hid hPP
  obtain ⟨r0, hr0, hr1, hrb⟩ := H.root
  have CN : Hid (Calls Tryd.prog 19 #[.pointer (some ⟨t, 0, none⟩)] w fun e w' => e = .returned (.bool false) ∧ w' = w) := no_any _ w false (.inr ⟨t, _, n, rfl, hrb, rfl⟩)
  have htl := H.lt
  obtain ⟨A1, hA1⟩ : ∃ A1, w.alloc (.cells #[.slice none 0 0] 23) = A1 := ⟨_, rfl⟩
  have hrb2 : A1.heap[t]? = some (.cells #[.pointer (some ⟨r0.a, 0, none⟩), .int .i64 n] 40 (0, 0)) := by rw [← hA1]; exact (Below.heap_alloc _ _ _ htl).trans hrb
  have c0 : A1.cell? ⟨t, 0, none⟩ = some (.pointer (some ⟨r0.a, 0, none⟩)) := by rw [cell_of_row A1 t 0 _ _ _ hrb2]; rfl
  have htl2 := (Array.getElem?_eq_some_iff.1 hrb2).1
  have hbelow : Below w.heap.size w A1 := by rw [← hA1]; exact (Below.refl _ _).alloc (Nat.le_refl _) _
  have hbox : A1.heap[w.heap.size]? = some (.cells #[.slice none 0 0] 23 (0, 0)) := by rw [← hA1]; exact heap_alloc_new w _
  have hcx : WCx base sz T w.heap.size w.heap.size A1 none := ⟨H.is.below hbelow, fun b hb => (H.is.lt hb).2, ⟨Nat.le_refl _, (Array.getElem?_eq_some_iff.1 hbox).1⟩, fun g hg => by cases hg⟩
  obtain ⟨d, hd⟩ := depth_of T
  have CW := Lib.hid (walk_anyF base sz T w.heap.size w.heap.size (InvF w.heap.size w.heap.size) (keepsF base sz T _ _) (seeF base sz T _ _ hT) hpre d r0 hr0 (fun y hy => by have := hd y hy; omega) A1 none [] hcx ⟨_, rfl, hbox, SRow.nil _ _⟩ (fun y h => by cases h) List.nodup_nil (fun y h => by cases h))
  rw [hr1] at CW
  have HBL := Lib.hid hbelow
  have HA1 := Lib.hid hA1
  have HR1 := Lib.hid hr1
  have HT := Lib.hid hT
  clear hPP H hr0 hr1 hrb hrb2 hA1 hbelow hbox hcx hd hpre hT
  go_enter Tryd.func12, Tryd.ntmps12
  go_wp2_with fail
  refine CN.out.mono ?_
  rintro e w1 ⟨rfl, hw⟩
  subst w1
  go_upto_region 4 with fail
  rw [HA1.out]
  go_wp2_with fail
  refine CW.out.mono ?_
  rintro e W2 ⟨rfl, o', V', ⟨v, ho, hbx, hrow⟩, hnd, hmem, hfr, -⟩
  have hVT : V'.length ≤ T.length := nodup_le hnd fun y hy => ((hmem y).1 hy).1
  have htx := texts_len V'
  have c3 : W2.cell? ⟨w.heap.size, 0, none⟩ = some v := by rw [cell_of_row W2 w.heap.size 0 _ _ _ hbx]; rfl
  have hl3 := (Array.getElem?_eq_some_iff.1 hbx).1
  have SO := Lib.hid (sort_texts v _ _ W2 hrow (by have := HT.out; simp only [List.nil_append]; omega))
  have HRW := Lib.hid hrow
  have HF := Lib.hid hfr
  have HM := Lib.hid hmem
  have HND := Lib.hid hnd
  have HBX := Lib.hid hbx
  have hob := hrow.box hbx
  clear hbx hfr hmem hnd ho hrow
  simp only [List.nil_append] at SO HRW HND
  obtain ⟨q, c, rfl⟩ := HRW.out.slice
  go_wp2_with fail
  refine SO.out.mono ?_
  rintro e W3 ⟨rfl, hrow3, hg3⟩
  have hbx3 := (hg3.block w.heap.size hl3 (fun e => hob e.symm)).trans HBX.out
  have c4 : W3.cell? ⟨w.heap.size, 0, none⟩ = some (.slice q (texts V').length c) := by rw [cell_of_row W3 w.heap.size 0 _ _ _ hbx3]; rfl
  have hl4 := (Array.getElem?_eq_some_iff.1 hbx3).1
  have HRW3 := Lib.hid hrow3
  have HG3 := Lib.hid hg3
  clear hbx3 hrow3 hg3
  go_wp2_with fail
  rw [← HPP.out]
  refine ⟨_, texts V', rfl, HRW3.out, Nat.le_trans htx hVT, ⟨V', HND.out, fun y => ?_, rfl⟩, ?_⟩
  · rw [HM.out, HR1.out, und_nil]
  · have h1 := HBL.out
    have h2 := HF.out
    have h3 : Below w.heap.size w W2 := h1.trans ⟨h2.os, h2.tape, h2.output, h2.size, fun b hb => h2.block b (Nat.lt_of_lt_of_le hb h1.size) (by rintro (e | e); omega; cases e)⟩
    exact h3.grown HG3.out h3.size (fun k hk => (HRW.out.lt k hk).1)
end Go.Proofs.YtflomcbclofbaaaDoor
