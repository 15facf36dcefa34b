/- TRIE: the library's BinarySearch, Insert and Delete at a rising row of the call's own. TRIE: no, newNode, New; a place's put. -/
import Derived.Shelf.Slices.Empties
import Derived.Sort.OwnSortedInts
import Derived.Test.YtincmegllckcjaaGreatDoorMRead
import Derived.Test.YtincmegllckcjaaGreatDoorTrieShelf
namespace Go.Proofs.YtincmegllckcjaaGreatDoor
section
open Go Go.RowKit

def ints (zs : List Int) : List Value := zs.map (Value.int .i64)
theorem ints_len (zs : List Int) : (ints zs).length = zs.length := by simp [ints]
theorem ints_one (zs : List Int) : ∀ u ∈ ints zs, u.oneCell' = true := fun u hu => by
  obtain ⟨z, -, rfl⟩ := List.mem_map.1 hu
  rfl
/-- a row of numbers of the call's own -/
abbrev IRow (W : World) (base : Nat) (v : Value) (zs : List Int) : Prop := W.ownsRow base 3 1 v zs.length (ints zs)
theorem IRow.nil (W : World) (base : Nat) : IRow W base (.slice none 0 0) [] := World.ownsRow_nil _ _ _ _
theorem IRow.form {W : World} {base : Nat} {v : Value} {zs : List Int} (h : IRow W base v zs) : (v = .slice none 0 0 ∧ zs = []) ∨ ∃ (g cap : Nat) (cur : Array Value), v = .slice (some ⟨g, 0, none⟩) zs.length cap ∧ base ≤ g ∧ g < W.heap.size ∧ W.heap[g]? = some (.cells cur 3 (0, 0)) ∧ zs.length ≤ cap ∧ cap ≤ maxLen ∧ cur.size = cap ∧ cur.toList.take zs.length = ints zs ∧ ∀ j, j < zs.length → W.cell? ⟨g, j, none⟩ = some (.int .i64 (zs.getD j 0)) := by
  rcases h.2 with ⟨h1, h2⟩ | ⟨g, cap, cur, rfl, hb, hg, h3, h4, h5, h6⟩
  · exact .inl ⟨h1, List.eq_nil_of_length_eq_zero h2⟩
  · refine .inr ⟨g, cap, cur, rfl, hb, (Array.getElem?_eq_some_iff.1 hg).1, hg, h3, h4, by omega, by rw [Nat.mul_one] at h6; exact h6, fun j hj => ?_⟩
    rw [h.cellAt j (by omega)]
    unfold ints
    rw [List.getElem?_map, List.getElem?_eq_getElem hj]
    simp [List.getD, List.getElem?_eq_getElem hj]
theorem search_any (v : Value) (zs : List Int) (x : Int) (base : Nat) (w : World) (h : IRow w base v zs) (hs : zs.Pairwise (· < ·)) (hn : zs.length ≤ 1000000000) :
    Calls Tryz.prog 88 #[v, .int .i64 x] w fun e w' => e = .returned (.tuple #[.int .i64 (cntL (· < ·) zs x : Nat), .bool (decide (x ∈ zs))]) ∧ ∃ q, w' = w.drewN q := by
  rcases h.form with ⟨rfl, rfl⟩ | ⟨g, cap, cur, rfl, -, -, -, h3, h4, -, -, hc⟩
  · refine (Any.slices_BinarySearch_int_empty Tryz.laysn25 none 0 x w).mono ?_
    rintro e w' ⟨rfl, rfl⟩
    exact ⟨by simp [cntL], 0, rfl⟩
  · refine (Any.slices_BinarySearch_int Tryz.laysn25 g 0 zs.length cap zs x w (Nat.le_refl _) (by omega) (fun j hj => by rw [Nat.zero_add]; exact hc j hj) (by rw [List.take_length]; exact hs.imp fun h => Int.le_of_lt h)).mono ?_
    rintro e w' ⟨rfl, hq⟩
    refine ⟨?_, hq⟩
    rw [List.take_length]
    unfold cntL
    have e : zs.contains x = decide (x ∈ zs) := by rw [Bool.eq_iff_iff, List.contains_iff_mem, decide_eq_true_eq]
    rw [e]
/-- cells laid one behind the other -/
def sets (cur : Array Value) : Nat → List Value → Array Value
  | _, [] => cur
  | o, v :: r => sets (cur.set! o v) (o + 1) r
theorem heap_sets {t : TypeId} (b : Nat) : ∀ (vs : List Value) (o : Nat) (w : World) (cur : Array Value), w.heap[b]? = some (.cells cur t (0, 0)) → (w.setCells b o vs).heap[b]? = some (.cells (sets cur o vs) t (0, 0))
  | [], _, _, _, h => h
  | v :: r, o, w, _, h => heap_sets b r (o + 1) _ _ (heap_setCell_same w b o _ _ v h)

theorem sets_list : ∀ (vs : List Value) (cur : Array Value) (o : Nat), o + vs.length ≤ cur.size → (sets cur o vs).size = cur.size ∧ (sets cur o vs).toList = cur.toList.take o ++ vs ++ cur.toList.drop (o + vs.length)
  | [], _, _, _ => by simp [sets]
  | v :: r, cur, o, h => by
    rw [List.length_cons] at h
    obtain ⟨h1, h2⟩ := sets_list r (cur.set! o v) (o + 1) (by simp; omega)
    refine ⟨by show (sets (cur.set! o v) (o + 1) r).size = _; rw [h1]; simp, ?_⟩
    show (sets (cur.set! o v) (o + 1) r).toList = _
    rw [h2, Array.set!_eq_setIfInBounds, Array.toList_setIfInBounds, List.set_eq_take_append_cons_drop, if_pos (by rw [Array.length_toList]; omega)]
    have hl : (cur.toList.take o).length = o := by rw [List.length_take, Array.length_toList]; omega
    have e1 : (cur.toList.take o ++ v :: cur.toList.drop (o + 1)).take (o + 1) = cur.toList.take o ++ [v] := by
      rw [List.take_append, hl, List.take_of_length_le (by omega), show o + 1 - o = 1 by omega]; rfl
    have e2 : (cur.toList.take o ++ v :: cur.toList.drop (o + 1)).drop (o + 1 + r.length) = cur.toList.drop (o + 1 + r.length) := by
      rw [List.drop_append, hl, List.drop_of_length_le (by omega), show o + 1 + r.length - o = r.length + 1 by omega, List.drop_succ_cons, List.drop_drop]
      rfl
    rw [e1, e2, List.length_cons, show o + (r.length + 1) = o + 1 + r.length by omega]
    simp
theorem irow_of_block {W : World} {base g cap : Nat} {cur : Array Value} {zs : List Int} (hg : W.heap[g]? = some (.cells cur 3 (0, 0))) (hb : base ≤ g) (hn : zs.length ≤ cap) (hm : cap ≤ maxLen) (hs : cur.size = cap) (ht : cur.toList.take zs.length = ints zs) : IRow W base (.slice (some ⟨g, 0, none⟩) zs.length cap) zs :=
  ⟨by rw [ints_len, Nat.mul_one], .inr ⟨g, cap, cur, rfl, hb, hg, hn, hm, by omega, by rw [Nat.mul_one]; exact ht⟩⟩
theorem grown_sets {w : World} {g : Nat} : ∀ (vs : List Value) (o : Nat) {W : World}, w.grownBy W (some g) → w.grownBy (W.setCells g o vs) (some g)
  | [], _, _, h => h
  | v :: r, o, W, h => grown_sets r (o + 1) ⟨h.os, h.tape, h.output, by simpa [World.setCell] using h.size, fun k hk hne => (Below.heap_setCell W ⟨g, o, none⟩ v k (fun e => hne (by rw [e]))).trans (h.block k hk hne)⟩
theorem take_pre {a b : Array Value} {l : List Value} {n : Nat} (h : a.toList = l) (hn : l.length = n) : (a ++ b).toList.take n = l := by
  rw [Array.toList_append, h, List.take_left' hn]
theorem grownBy_refl (w : World) (row : Option Nat) : w.grownBy w row := ⟨rfl, rfl, rfl, Nat.le_refl _, fun _ _ _ => rfl⟩
theorem insert_any (w : World) (base : Nat) (v : Value) (zs : List Int) (i : Nat) (x : Int) (vb : Nat) (h : IRow w base v zs) (hi : i ≤ zs.length) (hn : zs.length ≤ 1000000000) (hvb : w.heap[vb]? = some (.cells #[.int .i64 x] 3 (0, 0))) (hne : v.ownBlock ≠ some vb) (hb : base ≤ w.heap.size) :
    Calls Tryz.prog 89 #[v, .int .i64 (i : Nat), .slice (some ⟨vb, 0, none⟩) 1 1] w fun e w' => ∃ v', e = .returned v' ∧ IRow w' base v' (zs.take i ++ x :: zs.drop i) ∧ w.grownBy w' v.ownBlock ∧ (v'.ownBlock = v.ownBlock ∨ ∃ g, v'.ownBlock = some g ∧ w.heap.size ≤ g) := by
  have hlen : (zs.take i ++ x :: zs.drop i).length = zs.length + 1 := by rw [List.length_append, List.length_cons, List.length_take, List.length_drop]; omega
  have hints : ints (zs.take i ++ x :: zs.drop i) = (ints zs).take i ++ .int .i64 x :: (ints zs).drop i := by simp [ints]
  have hvs : ∀ j u, ([.int .i64 x] : List Value)[j]? = some u → w.cell? ⟨vb, 0 + j, none⟩ = some u := fun j u hj => by
    rw [Nat.zero_add, cell_of_row w vb j _ _ _ hvb]
    simpa using hj
  have hv1 : ∀ u ∈ ([.int .i64 x] : List Value), u.oneCell' = true := fun u hu => by simp at hu; subst hu; rfl
  have hm47 : zs.length + 1 ≤ maxLen := by unfold maxLen; omega
  have mkNew : ∀ (W : World) (cap : Nat) (cur : Array Value), W.heap[w.heap.size]? = some (.cells cur 3 (0, 0)) → zs.length + 1 ≤ cap → cap ≤ maxLen → cur.size = cap → cur.toList.take (zs.length + 1) = (ints zs).take i ++ .int .i64 x :: (ints zs).drop i → IRow W base (.slice (some ⟨w.heap.size, 0, none⟩) (zs.length + 1) cap) (zs.take i ++ x :: zs.drop i) := fun W cap cur h1 h2 h3 h4 h5 => by
    have := irow_of_block (zs := zs.take i ++ x :: zs.drop i) h1 hb (by rw [hlen]; exact h2) h3 h4 (by rw [hlen, hints]; exact h5)
    rw [hlen] at this
    exact this
  rcases h.form with ⟨rfl, rfl⟩ | ⟨g, cap, cur, rfl, hbg, hgl, hg, h3, h4, h5, h6, hc⟩
  · obtain rfl : i = 0 := by simpa using hi
    refine (Any2.slices_Insert_int_end_grow Tryz.laysn21 none 0 0 vb 0 1 1 [] [.int .i64 x] w (by omega) (Nat.le_refl _) (by omega) (by omega) rfl rfl (fun _ => rfl) (fun a ha => by cases ha) hvs hv1).mono ?_
    rintro e w' ⟨rfl, rfl⟩
    rw [show Tryz.laysn21_ren.t 3 = 3 from rfl]
    have hcap := grownCap_ge w (0 + 1) 0 3
    have hcm := grownCap_le_maxLen w (0 + 1) 0 3 (by unfold maxLen; omega)
    refine ⟨_, rfl, mkNew _ _ _ (heap_alloc_new w.drew _) hcap hcm ?_ ?_, ?_, .inr ⟨_, rfl, Nat.le_refl _⟩⟩
    · rw [Array.size_append, size_zeroCells]
      show 1 + (grownCap w (0 + 1) 0 3 - (0 + 1)) * 1 = _
      omega
    · exact take_pre (l := [.int .i64 x]) rfl rfl
    · exact ⟨rfl, rfl, rfl, by simp, fun k hk _ => Below.heap_alloc w.drew _ k hk⟩
  · have hcs : ∀ j u, (ints zs)[j]? = some u → w.cell? ⟨g, 0 + j, none⟩ = some u := fun j u hj => by
      have hjl := (List.getElem?_eq_some_iff.1 hj).1
      rw [ints_len] at hjl
      rw [Nat.zero_add, cell_of_row w g j _ _ _ hg, ← hj, ← h6, List.getElem?_take, if_pos hjl]
      simp
    have hil : (ints zs).length = zs.length := ints_len zs
    by_cases hroom : zs.length + 1 ≤ cap
    · -- in place
      have hsome : ∀ j, j < zs.length + 1 → (w.cell? ⟨g, 0 + j, none⟩).isSome = true := fun j hj => by
        rw [Nat.zero_add, cell_of_row w g j _ _ _ hg]
        simp; omega
      have hfz : ∀ j, w.frozen? ⟨g, 0 + j, none⟩ = false := fun j => frozen_of_row w g (0 + j) _ _ hg
      have done : ∀ W : World, W.heap[g]? = some (.cells (sets (sets cur (i + 1) ((ints zs).drop i)) i [.int .i64 x]) 3 (0, 0)) → IRow W base (.slice (some ⟨g, 0, none⟩) (zs.length + 1) cap) (zs.take i ++ x :: zs.drop i) := fun W hW => by
        obtain ⟨s1, s2⟩ := sets_list ((ints zs).drop i) cur (i + 1) (by rw [List.length_drop]; omega)
        obtain ⟨s3, s4⟩ := sets_list [.int .i64 x] (sets cur (i + 1) ((ints zs).drop i)) i (by rw [s1, List.length_singleton]; omega)
        have := irow_of_block (zs := zs.take i ++ x :: zs.drop i) hW hbg (by rw [hlen]; exact hroom) h4 (by rw [s3, s1]; exact h5) (by
          rw [s4, s2, hlen, hints]
          have e0 : cur.toList.take i = (ints zs).take i := by rw [← h6, List.take_take, Nat.min_eq_left hi]
          have hl1 : (cur.toList.take (i + 1)).length = i + 1 := by rw [List.length_take, Array.length_toList]; omega
          have e1 : (cur.toList.take (i + 1) ++ (ints zs).drop i ++ cur.toList.drop (i + 1 + ((ints zs).drop i).length)).take i = (ints zs).take i := by
            rw [List.append_assoc, List.take_append_of_le_length (by omega), List.take_take, Nat.min_eq_left (by omega), e0]
          have e2 : (cur.toList.take (i + 1) ++ (ints zs).drop i ++ cur.toList.drop (i + 1 + ((ints zs).drop i).length)).drop (i + [Value.int .i64 x].length) = (ints zs).drop i ++ cur.toList.drop (i + 1 + ((ints zs).drop i).length) := by
            rw [List.append_assoc, List.length_singleton]; exact List.drop_left' hl1
          rw [e1, e2, ← List.append_assoc]
          have e3 : ((ints zs).take i ++ [Value.int .i64 x] ++ (ints zs).drop i).length = zs.length + 1 := by
            rw [List.length_append, List.length_append, List.length_take, List.length_drop, List.length_singleton]; omega
          rw [List.take_left' e3]
          simp)
        rw [hlen] at this
        exact this
      by_cases hlt : i < zs.length
      · refine (Any2.slices_Insert_int_shift Tryz.laysn21 g 0 zs.length cap i vb 0 1 1 (ints zs) [.int .i64 x] w hlt (by omega) hroom (by unfold maxLen at h4; omega) (fun e => hne (by show some g = some vb; rw [e])) hil rfl hcs hsome (fun j _ => hfz j) hvs (ints_one zs) hv1 3 3 1 cap (by unfold World.shape?; rw [hvb]; rfl) (by unfold World.shape?; rw [hg]; simp [h5]) (by omega) (frozen_of_row w vb 0 _ _ hvb) (frozen_of_row w vb 1 _ _ hvb)).mono ?_
        rintro e w' ⟨rfl, rfl⟩
        refine ⟨_, rfl, done _ ?_, ?_, .inl rfl⟩
        · have q1 := heap_sets g ((ints zs).drop i) (0 + (i + 1)) w.drew cur hg
          have q2 := heap_sets g [.int .i64 x] (0 + i) _ _ q1
          rw [Nat.zero_add, Nat.zero_add] at q2 ⊢
          exact q2
        · exact grown_sets _ _ (grown_sets _ _ ⟨rfl, rfl, rfl, Nat.le_refl _, fun _ _ _ => rfl⟩)
      · obtain rfl : i = zs.length := by omega
        refine (Any2.slices_Insert_int_end_room Tryz.laysn21 g 0 zs.length cap vb 0 1 1 [.int .i64 x] w (by omega) hroom (by unfold maxLen at h4; omega) rfl (fun j hj => by have := hsome (zs.length + j) (by omega); rw [Nat.add_assoc]; exact this) (fun j hj => by rw [Nat.add_assoc]; exact hfz _) hvs hv1).mono ?_
        rintro e w' ⟨rfl, rfl⟩
        refine ⟨_, rfl, done _ ?_, ?_, .inl rfl⟩
        · have q2 := heap_sets g [.int .i64 x] (0 + zs.length) w cur hg
          have e0 : (ints zs).drop zs.length = [] := List.drop_eq_nil_of_le (by omega)
          rw [e0, Nat.zero_add] at *
          exact q2
        · exact grown_sets _ _ (grownBy_refl _ _)
    · have hfull : cap = zs.length := by omega
      have hcap := grownCap_ge w (zs.length + 1) cap 3
      have hcm := grownCap_le_maxLen w (zs.length + 1) cap 3 hm47
      by_cases hlt : i < zs.length
      · refine (Any2.slices_Insert_int_grow Tryz.laysn21 g 0 zs.length cap i vb 0 1 1 (ints zs) [.int .i64 x] w hlt (by omega) h3 (by omega) (by omega) hil rfl hcs hvs (ints_one zs) hv1).mono ?_
        rintro e w' ⟨rfl, rfl⟩
        rw [show Tryz.laysn21_ren.t 3 = 3 from rfl]
        obtain ⟨c0, hc0⟩ : ∃ c0, ((ints zs).take i).toArray ++ Builtin.zeroCells (Value.int .i64 0).cells (zs.length + 1 - i) ++ Builtin.zeroCells (Value.int .i64 0).cells (grownCap w (zs.length + 1) cap 3 - (zs.length + 1)) = c0 := ⟨_, rfl⟩
        have hz : (Value.int .i64 0).cells.size = 1 := rfl
        have hc0s : c0.size = grownCap w (zs.length + 1) cap 3 := by
          rw [← hc0, Array.size_append, Array.size_append, size_zeroCells, size_zeroCells, hz, List.size_toArray, List.length_take]
          omega
        have hc0t : c0.toList.take i = (ints zs).take i := by
          rw [← hc0, Array.append_assoc]
          exact take_pre (by simp) (by rw [List.length_take]; omega)
        obtain ⟨s1, s2⟩ := sets_list [.int .i64 x] c0 i (by rw [List.length_singleton]; omega)
        obtain ⟨s3, s4⟩ := sets_list ((ints zs).drop i) (sets c0 i [.int .i64 x]) (i + 1) (by rw [s1, List.length_drop]; omega)
        refine ⟨_, rfl, mkNew _ _ (sets (sets c0 i [.int .i64 x]) (i + 1) ((ints zs).drop i)) ?_ hcap hcm (by rw [s3, s1, hc0s]) ?_, ?_, .inr ⟨_, rfl, Nat.le_refl _⟩⟩
        · have q0 : (w.alloc (.cells c0 3)).drew.heap[w.heap.size]? = some (.cells c0 3 (0, 0)) := heap_alloc_new w _
          have q1 := heap_sets w.heap.size [.int .i64 x] i _ _ q0
          have q2 := heap_sets w.heap.size ((ints zs).drop i) (i + 1) _ _ (show (((w.alloc (.cells c0 3)).drew.setCells w.heap.size i [.int .i64 x]).drew).heap[w.heap.size]? = _ from q1)
          rw [hc0]
          exact q2
        · rw [s4, s2]
          have hl1 : (c0.toList.take i).length = i := by rw [List.length_take, Array.length_toList]; omega
          have e1 : (c0.toList.take i ++ [Value.int .i64 x] ++ c0.toList.drop (i + [Value.int .i64 x].length)).take (i + 1) = (ints zs).take i ++ [.int .i64 x] := by
            rw [List.take_left' (by rw [List.length_append, hl1]; rfl), hc0t]
          rw [e1]
          have e3 : ((ints zs).take i ++ [Value.int .i64 x] ++ (ints zs).drop i).length = zs.length + 1 := by
            rw [List.length_append, List.length_append, List.length_take, List.length_drop, List.length_singleton]; omega
          rw [List.take_left' e3]
          simp
        · rw [hc0]
          have a0 : w.grownBy (w.alloc (.cells c0 3)).drew (some w.heap.size) := ⟨rfl, rfl, rfl, by simp, fun k hk _ => Below.heap_alloc w _ k hk⟩
          have a1 := grown_sets [.int .i64 x] i a0
          have a2 : w.grownBy (((w.alloc (.cells c0 3)).drew.setCells w.heap.size i [.int .i64 x]).drew) (some w.heap.size) := ⟨a1.os, a1.tape, a1.output, a1.size, a1.block⟩
          have a3 := grown_sets ((ints zs).drop i) (i + 1) a2
          exact ⟨a3.os, a3.tape, a3.output, a3.size, fun k hk _ => a3.block k hk (fun e => by injection e with e; omega)⟩
      · obtain rfl : i = zs.length := by omega
        refine (Any2.slices_Insert_int_end_grow Tryz.laysn21 (some ⟨g, 0, none⟩) zs.length cap vb 0 1 1 (ints zs) [.int .i64 x] w (by omega) h3 (by omega) (by omega) hil rfl (fun h => by cases h) (fun a ha j u hj => by injection ha with ha; subst ha; rw [Addr.add_lit]; exact hcs j u hj) hvs hv1).mono ?_
        rintro e w' ⟨rfl, rfl⟩
        rw [show Tryz.laysn21_ren.t 3 = 3 from rfl]
        have e0 : (ints zs).drop zs.length = [] := List.drop_eq_nil_of_le (by omega)
        have e1 : (ints zs).take zs.length = ints zs := List.take_of_length_le (by omega)
        refine ⟨_, rfl, mkNew _ _ _ (heap_alloc_new w.drew _) hcap hcm ?_ ?_, ?_, .inr ⟨_, rfl, Nat.le_refl _⟩⟩
        · rw [Array.size_append, size_zeroCells, List.size_toArray, List.length_append, hil]
          show zs.length + 1 + (grownCap w (zs.length + 1) cap 3 - (zs.length + 1)) * 1 = _
          omega
        · rw [e0, e1]
          exact take_pre (by simp) (by simp [ints_len])
        · exact ⟨rfl, rfl, rfl, by simp, fun k hk _ => Below.heap_alloc w.drew _ k hk⟩
theorem delete_any (w : World) (base : Nat) (v : Value) (zs : List Int) (i : Nat) (h : IRow w base v zs) (hi : i < zs.length) :
    Calls Tryz.prog 154 #[v, .int .i64 (i : Nat), .int .i64 ((i + 1 : Nat) : Int)] w fun e w' => ∃ v', e = .returned v' ∧ IRow w' base v' (zs.take i ++ zs.drop (i + 1)) ∧ w.grownBy w' v.ownBlock ∧ v'.ownBlock = v.ownBlock := by
  have hlen : (zs.take i ++ zs.drop (i + 1)).length = zs.length - 1 := by rw [List.length_append, List.length_take, List.length_drop]; omega
  rcases h.form with ⟨rfl, rfl⟩ | ⟨g, cap, cur, rfl, hbg, hgl, hg, h3, h4, h5, h6, hc⟩
  · simp at hi
  · refine (Any.slices_Delete_int Tryz.laysn23 g 0 cap i (i + 1) zs w (holds_of_blockI hg h6) h3 (by unfold maxLen at h4; omega) (by omega) (by omega)).mono ?_
    rintro e w' ⟨rfl, q, rfl⟩
    have hts : (zs.take i ++ zs.drop (i + 1) ++ List.replicate (i + 1 - i) 0).length = zs.length := by rw [List.length_append, hlen, List.length_replicate]; omega
    have hb := heap_sortedI (n := q) (os := #[]) (zs.take i ++ zs.drop (i + 1) ++ List.replicate (i + 1 - i) 0).toArray hg
    have hgr := grownBy_sortedI (w := w) (g := g) (n := q) (os := #[]) (zs.take i ++ zs.drop (i + 1) ++ List.replicate (i + 1 - i) 0).toArray
    rw [Sort.grow_empty] at hb hgr
    have htk := take_putCellsI cur (zs.take i ++ zs.drop (i + 1) ++ List.replicate (i + 1 - i) 0) (by rw [hts]; omega)
    rw [hts] at htk
    refine ⟨_, rfl, ?_, hgr, rfl⟩
    have := irow_of_block (zs := zs.take i ++ zs.drop (i + 1)) hb hbg (by rw [hlen]; omega) h4 (by unfold Sort.putCells; simp [h5]) (by
      rw [hlen]
      have h7 := congrArg (List.take (zs.length - 1)) htk
      rw [List.take_take, Nat.min_eq_left (by omega)] at h7
      rw [h7, List.map_append]
      exact List.take_left' (by rw [List.length_map, hlen]))
    rw [hlen, show zs.length - 1 = zs.length - (i + 1 - i) by omega] at this
    exact this
end
section
open Go Go.RowKit

theorem k_world {K : Act → World → Prop} {a : Act} {W : World} (R : World → Prop) (h : R W) (H : ∀ W, R W → K a W) : K a W := H W h
theorem wp_world {P : Program} {c : Code} {Q : Exit → Act → World → Prop} {a : Act} {W : World} (R : World → Prop) (h : R W) (H : ∀ W, R W → Code.wp P c Q a W) : Code.wp P c Q a W := H W h
/-- all blocks but some are as they were -/
structure Frame (F : Nat → Prop) (W W' : World) : Prop where
  os : W'.os = W.os
  tape : W'.tape = W.tape
  output : W'.output = W.output
  size : W.heap.size ≤ W'.heap.size
  block : ∀ b, b < W.heap.size → ¬ F b → W'.heap[b]? = W.heap[b]?
theorem Frame.of_grown {F : Nat → Prop} {W W' : World} {row : Option Nat} (h : W.grownBy W' row) (hr : ∀ b, row = some b → F b) : Frame F W W' :=
  ⟨h.os, h.tape, h.output, h.size, fun b hb hF => h.block b hb (fun e => hF (hr b e.symm))⟩
theorem Frame.of_below {F : Nat → Prop} {W W' : World} (h : Below W.heap.size W W') : Frame F W W' := ⟨h.os, h.tape, h.output, h.size, fun b hb _ => h.block b hb⟩
theorem Frame.below {W W' : World} (h : Frame (fun _ => False) W W') : Below W.heap.size W W' := ⟨h.os, h.tape, h.output, h.size, fun b hb => h.block b hb (fun e => e)⟩
theorem Frame.trans {F : Nat → Prop} {W W1 W2 : World} (h : Frame F W W1) (k : Frame (fun b => F b ∨ W.heap.size ≤ b) W1 W2) : Frame F W W2 :=
  ⟨k.os.trans h.os, k.tape.trans h.tape, k.output.trans h.output, Nat.le_trans h.size k.size, fun b hb hF => (k.block b (Nat.lt_of_lt_of_le hb h.size) (fun e => by rcases e with e | e; exact hF e; omega)).trans (h.block b hb hF)⟩
theorem Frame.mono {F G : Nat → Prop} {W W' : World} (h : Frame F W W') (hs : ∀ b, F b → G b) : Frame G W W' := ⟨h.os, h.tape, h.output, h.size, fun b hb hG => h.block b hb (fun e => hG (hs b e))⟩
theorem no_any (p : Option Addr) (w : World) (c : Bool) (hc : (p = none ∧ c = true) ∨ ∃ a r n, p = some ⟨a, 0, none⟩ ∧ w.heap[a]? = some (.cells #[.pointer r, .int .i64 n] 96 (0, 0)) ∧ c = r.isNone) :
    Calls Tryz.prog 58 #[.pointer p] w fun e w' => e = .returned (.bool c) ∧ w' = w := by
  obtain ⟨PP, hPP⟩ : ∃ PP : Ending → World → Prop, (fun e w' => e = .returned (.bool c) ∧ w' = w) = PP := ⟨_, rfl⟩
  rw [hPP]
  have HPP := Lib.hid hPP
  clear hPP
  rcases hc with ⟨rfl, rfl⟩ | ⟨a, r, n, rfl, hb, rfl⟩
  · go_enter Tryz.func58, Tryz.ntmps58
    go_wp2_with fail
    rw [← HPP.out]
    exact ⟨rfl, rfl⟩
  · have c0 : w.cell? ⟨a, 0, none⟩ = some (.pointer r) := by rw [cell_of_row w a 0 _ _ _ hb]; rfl
    have hl := (Array.getElem?_eq_some_iff.1 hb).1
    cases r with
    | none =>
      go_enter Tryz.func58, Tryz.ntmps58
      go_wp2_with fail
      rw [← HPP.out]
      exact ⟨rfl, rfl⟩
    | some r =>
      go_enter Tryz.func58, Tryz.ntmps58
      go_wp2_with fail
      rw [← HPP.out]
      exact ⟨rfl, rfl⟩
/-- a new node lies in two new blocks -/
def newW (w : World) : World := (w.alloc (.map #[] 0)).alloc (.cells #[.slice none 0 0, .map (some w.heap.size)] 101)
theorem newNode_any (w : World) : Calls Tryz.prog 57 #[] w fun e w' => e = .returned (.pointer (some ⟨w.heap.size + 1, 0, none⟩)) ∧ w' = newW w := by
  obtain ⟨PP, hPP⟩ : ∃ PP : Ending → World → Prop, (fun e w' => e = .returned (.pointer (some ⟨w.heap.size + 1, 0, none⟩)) ∧ w' = newW w) = PP := ⟨_, rfl⟩
  rw [hPP]
  have HPP := Lib.hid hPP
  clear hPP
  have mk : ∀ w, (Instr.makeMap 99 none).run Tryz.prog w = .ok (.map (some w.heap.size)) (w.alloc (.map #[] 0)) := fun _ => rfl
  go_enter Tryz.func57, Tryz.ntmps57
  go_wp2_with fail
  rw [← HPP.out]
  exact ⟨rfl, rfl⟩
def newNd (w : World) (p : List ByteArray) : Nd := ⟨p, w.heap.size + 1, w.heap.size, .slice none 0 0, [], .map []⟩
theorem newNd_is (w : World) (p : List ByteArray) (base sz : Nat) (hb : base ≤ w.heap.size) : NdIs (newW w) base sz (newNd w p) := by
  refine ⟨?_, ?_, IRow.nil _ _, by show base ≤ w.heap.size + 1; omega, hb⟩
  · have h := heap_alloc_new (w.alloc (.map #[] 0)) (.cells #[.slice none 0 0, .map (some w.heap.size)] 101)
    rw [World.size_alloc] at h
    exact h
  · have h := ((World.ownsMap_made w Tryz.prog 9 ptrR).alloc (.cells #[.slice none 0 0, .map (some w.heap.size)] 101)).mono (Nat.zero_le sz)
    exact h
theorem newW_below (w : World) : Below w.heap.size w (newW w) := ((Below.refl _ _).alloc (Nat.le_refl _) _).alloc (by simp) _
def PutPost (w : World) (base sz : Nat) (x : Nd) (id : Int) (r : Ending) (w' : World) : Prop :=
  ∃ v', r = .returned (.bool (decide (id ∉ x.ids))) ∧ NdIs w' base sz { x with v := v', ids := putL (· < ·) x.ids id } ∧ Frame (fun b => b = x.a ∨ x.v.ownBlock = some b) w w' ∧ (v'.ownBlock = x.v.ownBlock ∨ ∃ g, v'.ownBlock = some g ∧ w.heap.size ≤ g)
theorem row_node {W : World} {base a : Nat} {v : Value} {zs : List Int} {cs : Array Value} (h : IRow W base v zs) (hb : W.heap[a]? = some (.cells cs 101 (0, 0))) : v.ownBlock ≠ some a := by
  rcases h.form with ⟨rfl, -⟩ | ⟨g, cap, cur, rfl, -, -, hg, -⟩
  · intro e; cases e
  · intro e
    injection e with e
    subst e
    rw [hb] at hg
    injection hg with hg
    injection hg with _ h2
    exact absurd h2 (by decide)
theorem map_node {W : World} {a m sz : Nat} {D : DataW Unit} {cs : Array Value} (h : W.ownsMap Tryz.prog 9 ptrR m sz D) (hb : W.heap[a]? = some (.cells cs 101 (0, 0))) : m ≠ a := by
  obtain ⟨es, clock, h1, -⟩ := h
  rintro rfl
  rw [hb] at h1
  cases h1
theorem map_row {W : World} {base m sz : Nat} {D : DataW Unit} {v : Value} {zs : List Int} (h : W.ownsMap Tryz.prog 9 ptrR m sz D) (hr : IRow W base v zs) : v.ownBlock ≠ some m := by
  obtain ⟨es, clock, h1, -⟩ := h
  rcases hr.form with ⟨rfl, -⟩ | ⟨g, cap, cur, rfl, -, -, hg, -⟩
  · intro e; cases e
  · intro e
    injection e with e
    subst e
    rw [hg] at h1
    cases h1
theorem put_any (w : World) (base sz : Nat) (x : Nd) (id : Int) (h : NdIs w base sz x) (hs : x.ids.Pairwise (· < ·)) (hn : x.ids.length ≤ 100000000) (hb : base ≤ w.heap.size) :
    Calls Tryz.prog 59 #[.pointer (some ⟨x.a, 0, none⟩), .int .i64 id] w (PutPost w base sz x id) := by
  obtain ⟨PP, hPP⟩ : ∃ PP, PutPost w base sz x id = PP := ⟨_, rfl⟩
  rw [hPP]
  have HPP := Lib.hid hPP
  obtain ⟨path, a, m, v, ids, D⟩ := x
  have HX := Lib.hid h
  have HR : Hid (IRow w base v ids) := h.row
  have hbox : w.heap[a]? = some (.cells #[v, .map (some m)] 101 (0, 0)) := h.box
  have hna := row_node HR.out hbox
  have c0 : w.cell? ⟨a, 0, none⟩ = some v := by rw [cell_of_row w a 0 _ _ _ hbox]; rfl
  have hf := frozen_of_row w a 0 _ _ hbox
  have hl := (Array.getElem?_eq_some_iff.1 hbox).1
  have SC := Lib.hid (search_any v ids id base w HR.out hs (by simp only at hn; omega))
  obtain ⟨q, n, c, rfl⟩ : ∃ q n c, v = .slice q n c := by
    rcases HR.out.form with ⟨rfl, -⟩ | ⟨g, cap, cur, rfl, -⟩
    · exact ⟨_, _, _, rfl⟩
    · exact ⟨_, _, _, rfl⟩
  have HNA := Lib.hid hna
  have HBX := Lib.hid hbox
  have HS := Lib.hid hs
  have HN := Lib.hid hn
  clear hPP h hbox hna hs hn
  by_cases hm : id ∈ ids
  · have hd : decide (id ∈ ids) = true := decide_eq_true hm
    rw [hd] at SC
    have HM := Lib.hid hm
    clear hm hd
    go_enter Tryz.func59, Tryz.ntmps59
    go_wp2_with fail
    refine SC.out.mono ?_
    rintro e w1 ⟨rfl, q1, rfl⟩
    go_wp2_with fail
    rw [← HPP.out]
    refine ⟨.slice q n c, ?_, ?_, Frame.of_grown (row := none) ⟨rfl, rfl, rfl, Nat.le_refl _, fun _ _ _ => rfl⟩ (fun b e => by cases e), .inl rfl⟩
    · rw [decide_eq_false (fun h => h HM.out)]; rfl
    · have e : putL (· < ·) ids id = ids := by unfold putL; rw [if_pos HM.out]
      simp only [e]
      exact HX.out.kept fun _ _ => rfl
  · have hd : decide (id ∈ ids) = false := decide_eq_false hm
    rw [hd] at SC
    have HM := Lib.hid hm
    clear hm hd
    go_enter Tryz.func59, Tryz.ntmps59
    go_wp2_with fail
    refine SC.out.mono ?_
    rintro e w1 ⟨rfl, q1, rfl⟩
    have CI : Hid (Calls Tryz.prog 89 #[.slice q n c, .int .i64 (cntL (· < ·) ids id : Nat), .slice (some ⟨w.heap.size, 0, none⟩) 1 1] ((w.drewN q1).alloc (.cells #[.int .i64 id] 3)) fun e w' => ∃ v', e = .returned v' ∧ IRow w' base v' (ids.take (cntL (· < ·) ids id) ++ id :: ids.drop (cntL (· < ·) ids id)) ∧ ((w.drewN q1).alloc (.cells #[.int .i64 id] 3)).grownBy w' (Value.slice q n c).ownBlock ∧ (v'.ownBlock = (Value.slice q n c).ownBlock ∨ ∃ g, v'.ownBlock = some g ∧ ((w.drewN q1).alloc (.cells #[.int .i64 id] 3)).heap.size ≤ g)) :=
      insert_any _ base _ ids (cntL (· < ·) ids id) id w.heap.size (World.ownsRow.alloc HR.out _) (cntL_le _ _) (by have h9 : ids.length ≤ 100000000 := HN.out; omega) (heap_alloc_new (w.drewN q1) _) (fun e => by have := (HR.out.lt _ e).2; omega) (by rw [World.size_alloc]; exact Nat.le_succ_of_le hb)
    go_wp2_with fail
    refine CI.out.mono ?_
    rintro e w2 ⟨v', rfl, hr2, hg2, hv2⟩
    obtain ⟨q2, n2, c2, rfl⟩ : ∃ q n c, v' = .slice q n c := by
      rcases hr2.form with ⟨rfl, -⟩ | ⟨g, cap, cur, rfl, -⟩
      · exact ⟨_, _, _, rfl⟩
      · exact ⟨_, _, _, rfl⟩
    have HR2 := Lib.hid hr2
    have HG2 := Lib.hid hg2
    have HV2 := Lib.hid hv2
    have hb2 : w2.heap[a]? = some (.cells #[.slice q n c, .map (some m)] 101 (0, 0)) := (hg2.block a (by rw [World.size_alloc]; exact Nat.lt_succ_of_lt hl) (fun e => HNA.out e.symm)).trans ((Below.heap_alloc (w.drewN q1) _ a hl).trans HBX.out)
    have hf2 := frozen_of_row w2 a 0 _ _ hb2
    have k2 : w2.cell? ⟨a, 0, none⟩ = some (.slice q n c) := by rw [cell_of_row w2 a 0 _ _ _ hb2]; rfl
    have hl2 := (Array.getElem?_eq_some_iff.1 hb2).1
    have HB2 := Lib.hid hb2
    clear hr2 hg2 hv2 hb2
    go_wp2_with fail
    rw [← HPP.out]
    have e : putL (· < ·) ids id = ids.take (cntL (· < ·) ids id) ++ id :: ids.drop (cntL (· < ·) ids id) := by unfold putL; rw [if_neg HM.out]; rfl
    have hvn : (Value.slice q2 n2 c2).ownBlock ≠ some a := by
      rcases HV2.out with h1 | ⟨g, h1, h2⟩
      · rw [h1]; exact HNA.out
      · rw [h1]; intro e; injection e with e; simp at h2; omega
    refine ⟨.slice q2 n2 c2, by rw [decide_eq_true HM.out]; rfl, ⟨?_, ?_, ?_, HX.out.ba, HX.out.bm⟩, ?_, ?_⟩
    · exact heap_setCell_same w2 a 0 _ _ _ HB2.out
    · have h1 := HX.out.map
      have hma := map_node h1 HBX.out
      obtain ⟨es, clock, h2, h3⟩ := h1
      refine ⟨es, clock, ?_, h3⟩
      have hml : m < w.heap.size := (Array.getElem?_eq_some_iff.1 h2).1
      exact (Below.heap_setCell w2 ⟨a, 0, none⟩ _ m hma).trans ((HG2.out.block m (by rw [World.size_alloc]; exact Nat.lt_succ_of_lt hml) (fun e => map_row ⟨es, clock, h2, h3⟩ HR.out e.symm)).trans ((Below.heap_alloc (w.drewN q1) _ m hml).trans h2))
    · simp only [e]
      exact ownsRow_setCell_other HR2.out hvn _
    · refine ⟨HG2.out.os, HG2.out.tape, HG2.out.output, ?_, fun b hb1 hF => ?_⟩
      · have h1 := HG2.out.size
        simp [World.setCell] at h1 ⊢
        omega
      · exact (Below.heap_setCell w2 ⟨a, 0, none⟩ _ b (fun e => hF (.inl e))).trans ((HG2.out.block b (by rw [World.size_alloc]; exact Nat.lt_succ_of_lt hb1) (fun e => hF (.inr e.symm))).trans (Below.heap_alloc (w.drewN q1) _ b hb1))
    · rcases HV2.out with h1 | ⟨g, h1, h2⟩
      · exact .inl h1
      · exact .inr ⟨g, h1, by simp at h2; omega⟩
end
end Go.Proofs.YtincmegllckcjaaGreatDoor
