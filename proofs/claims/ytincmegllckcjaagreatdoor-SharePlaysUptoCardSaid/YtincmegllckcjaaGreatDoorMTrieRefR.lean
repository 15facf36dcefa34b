/- TRIE: the reference's list: Remove. TRIE: slices of numbers, of texts. TRIE: the reference's Put: into a rising list, once. -/
import Derived.Test.YtincmegllckcjaaGreatDoorMFlat
import Derived.Deep.QuietTactic
import Derived.BigQuiet
import Derived.WalkLawsBesides
import Derived.Sort.Walk0
namespace Go.Proofs.YtincmegllckcjaaGreatDoor
section
open Go Go.RowKit
attribute [local go_sem ↓] Go.wp_at_zero Go.wp_at_succ

theorem subCells_take : ∀ (l : Subs) (i : Nat), subCells (l.take i) = (subCells l).take (i * 2)
  | [], i => by simp [subCells]
  | x :: l, 0 => by simp [subCells]
  | x :: l, i + 1 => by
    have := subCells_take l i
    rw [show (i + 1) * 2 = i * 2 + 2 by omega]
    show [Value.string x.1, Value.int .i64 x.2] ++ subCells (l.take i) = _
    rw [this]; rfl
theorem subCells_drop : ∀ (l : Subs) (i : Nat), subCells (l.drop i) = (subCells l).drop (i * 2)
  | [], i => by simp [subCells]
  | x :: l, 0 => by simp
  | x :: l, i + 1 => by
    have := subCells_drop l i
    rw [show (i + 1) * 2 = i * 2 + 2 by omega]
    show subCells (l.drop i) = _
    rw [this]; rfl
theorem subCells_one (l : Subs) : ∀ u ∈ subCells l, u.oneCell' = true := by
  intro u hu
  unfold subCells at hu
  obtain ⟨x, -, hx⟩ := List.mem_flatMap.1 hu
  simp only [List.mem_cons, List.not_mem_nil, or_false] at hx
  rcases hx with rfl | rfl <;> rfl
theorem subCells_len (l : Subs) : (subCells l).length = l.length * 2 := by
  unfold subCells
  rw [List.length_flatMap]
  induction l with
  | nil => rfl
  | cons x l ih => simp only [List.map_cons, List.sum_cons, List.length_cons, List.length_nil] at *; omega
theorem subS_cut {l : Subs} {f : ByteArray} {z : Int} {i : Nat} (hnd : l.Nodup) (h : l[i]? = some (f, z)) : subS l f z = l.take i ++ l.drop (i + 1) := by
  obtain ⟨hi, e⟩ := List.getElem?_eq_some_iff.1 h
  have hl : l = l.take i ++ (f, z) :: l.drop (i + 1) := by
    rw [← e, ← List.drop_eq_getElem_cons hi, List.take_append_drop]
  have hnd' := hnd
  rw [hl, List.nodup_append] at hnd'
  obtain ⟨-, h2, h3⟩ := hnd'
  rw [List.nodup_cons] at h2
  have h4 : (f, z) ∉ l.take i := fun hm => h3 _ hm _ (List.mem_cons_self ..) rfl
  conv => lhs; rw [hl]
  unfold subS
  rw [List.filter_append, List.filter_cons_of_neg (by simp)]
  congr 1
  · exact subS_not h4
  · exact subS_not h2.1
set_option maxRecDepth 100000 in
set_option maxHeartbeats 4000000 in
theorem refRemove_any (w : World) (base rb : Nat) (x1 x2 v : Value) (l : Subs) (f : ByteArray) (z : Int) (h : RL w base rb x1 x2 v l) (hnd : l.Nodup) (hl : l.length ≤ 100000000) :
    Calls Tryz.prog 80 #[.pointer (some ⟨rb, 0, none⟩), .string f, .int .i64 z] w fun e w' => ∃ (ok : Bool) (v' : Value), e = .returned (.bool ok) ∧ (ok = true ↔ (f, z) ∈ l) ∧ RLTo w base rb x1 x2 v (subS l f z) w' v' := by
  obtain ⟨PP, hPP⟩ : ∃ PP : Ending → World → Prop, (fun e w' => ∃ (ok : Bool) (v' : Value), e = .returned (.bool ok) ∧ (ok = true ↔ (f, z) ∈ l) ∧ RLTo w base rb x1 x2 v (subS l f z) w' v') = PP := ⟨_, rfl⟩
  rw [hPP]
  have HPP := Lib.hid hPP
  have HR := Lib.hid h
  have HND := Lib.hid hnd
  have HPL := Lib.hid (place_any w base rb x1 x2 v l f z h hl)
  clear hPP h hnd
  obtain ⟨i0, hi, hz0, hz1, hz2⟩ := info_parts info_sub
  go_enter Tryz.func80, Tryz.ntmps80
  go_wp2_with fail
  refine HPL.out.mono ?_
  rintro e w2 ⟨⟨r, rfl, hr⟩, hb2⟩
  have HB2 := Lib.hid hb2
  have HR2 := Lib.hid (HR.out.below hb2)
  clear hb2
  rcases hr with ⟨rfl, hr⟩ | ⟨i, rfl, hr⟩
  · have HM := Lib.hid hr
    clear hr
    go_wp2_with fail
    rw [← HPP.out]
    exact ⟨false, v, rfl, Iff.intro (fun h => by cases h) (fun h => absurd h HM.out), by rw [subS_not HM.out]; exact HR2.out, Frame.of_below HB2.out, fun _ hb => .inl hb⟩
  · have hil := (List.getElem?_eq_some_iff.1 hr).1
    have HM := Lib.hid hr
    have HCUT := Lib.hid (subS_cut HND.out hr)
    have hi0 : (0 : Int) ≤ (i : Int) := by omega
    have c2 : w2.cell? ⟨rb, 0, none⟩ = some v := by rw [cell_of_row w2 rb 0 _ _ _ HR2.out.box]; rfl
    have f2 := frozen_of_row w2 rb 0 _ _ HR2.out.box
    have hlb := (Array.getElem?_eq_some_iff.1 HR2.out.box).1
    have hbase : base ≤ w2.heap.size := Nat.le_trans HR2.out.lo (Nat.le_of_lt hlb)
    obtain ⟨q1, cq1, hrun1, hf1⟩ := (Fl.of_own HR2.out.row).cut (P := Tryz.prog) 45 157 i0 Tryz.underlying45 hi (i := i) (by omega)
    obtain ⟨q2, cq2, hrun2, hf2⟩ := (Fl.of_own HR2.out.row).rest (P := Tryz.prog) 45 157 i0 Tryz.underlying45 hi hz1 (i := i + 1) (by omega)
    rw [show ((i + 1 : Nat) : Int) = (i : Int) + 1 by omega] at hrun2
    rw [← subCells_take] at hf1
    rw [← subCells_drop] at hf2
    have HF1 := Lib.hid hf1
    have HF2 := Lib.hid hf2
    clear hr hf1 hf2
    go_wp2_with (first
      | (at_builtin; refine wpList_append_fl _ rfl (.tmp 15) (.tmp 21) 45 157 rfl base 2 24 i0 (.agg #[.string ByteArray.empty, .int .i64 0]) Tryz.underlying45 hi hz0 hz1 hz2 rfl (by decide) _ 0 [] rfl (World.ownsRow_nil _ _ _ _) _ rfl i (subCells (l.take i)) HF1.out (subCells_one _) (by unfold maxLen; omega) (by omega) hbase ?_; intro v3 w3 hown3 hg3 hloc3; rw [Nat.zero_add, List.nil_append] at hown3; have HB3 := Lib.hid ((Below.refl w2.heap.size w2).grown hg3 (Nat.le_refl _) (fun k hk => by cases hk)); have hs3 := HB3.out.size; have c3 := (HB3.out.cell (p := ⟨rb, 0, none⟩) hlb).trans c2; have HO3 := Lib.hid hown3; have HL3 := Lib.hid hloc3; clear hg3 hown3 hloc3)
      | (at_builtin; refine wpList_append_fl _ rfl (.tmp 24) (.tmp 31) 45 157 rfl base 2 24 i0 (.agg #[.string ByteArray.empty, .int .i64 0]) Tryz.underlying45 hi hz0 hz1 hz2 rfl (by decide) _ i _ rfl HO3.out _ rfl (l.length - (i + 1)) (subCells (l.drop (i + 1))) (HF2.out.below HB3.out) (subCells_one _) (by unfold maxLen; omega) (by omega) (by omega) ?_; intro v4 w4 hown4 hg4 hloc4; obtain ⟨q4, cap4, rfl⟩ := (Fl.of_own hown4).form; have HG4 := Lib.hid hg4; have HO4 := Lib.hid hown4; have HL4 := Lib.hid hloc4; have hbx4 : w4.heap[rb]? = some (.cells #[v, x1, x2] 50 (0, 0)) := (HG4.out.block rb (by omega) (fun e => row_ne ((HB3.out.block rb hlb).trans HR2.out.box) HO3.out e.symm)).trans ((HB3.out.block rb hlb).trans HR2.out.box); have HBX4 := Lib.hid hbx4; have f4 := frozen_of_row w4 rb 0 _ _ hbx4; have hlb4 := (Array.getElem?_eq_some_iff.1 hbx4).1; have c4 : w4.cell? ⟨rb, 0, none⟩ = some v := (by rw [cell_of_row w4 rb 0 _ _ _ hbx4]; rfl); clear hg4 hown4 hloc4 hbx4))
    rw [← HPP.out]
    refine ⟨true, .slice q4 (i + (l.length - (i + 1))) cap4, rfl, Iff.intro (fun _ => List.mem_of_getElem? HM.out) (fun _ => rfl), ?_⟩
    rw [HCUT.out]
    have hlen : (l.take i ++ l.drop (i + 1)).length = i + (l.length - (i + 1)) := by rw [List.length_append, List.length_take, List.length_drop]; omega
    have hcs : subCells (l.take i ++ l.drop (i + 1)) = subCells (l.take i) ++ subCells (l.drop (i + 1)) := by unfold subCells; rw [List.flatMap_append]
    have hrow5 : w4.ownsRow base 157 2 (.slice q4 (i + (l.length - (i + 1))) cap4) (l.take i ++ l.drop (i + 1)).length (subCells (l.take i ++ l.drop (i + 1))) := by
      rw [hlen, hcs]; exact HO4.out
    have hv3 : ∀ b, v3.ownBlock = some b → w2.heap.size ≤ b := fun b hb => by
      rcases HL3.out with h | h
      · rw [h] at hb; cases hb
      · rw [h] at hb; injection hb with hb; omega
    refine ⟨⟨heap_setCell_same w4 rb 0 _ _ _ HBX4.out, row_of_heap hrow5 fun b hb => Below.heap_setCell _ _ _ _ (fun e => row_ne HBX4.out hrow5 (by rw [hb, e])), HR2.out.lo⟩, ?_, ?_⟩
    · refine Frame.trans (Frame.trans (Frame.of_below (HB2.out.trans (HB3.out.mono HB2.out.size))) (Frame.of_grown HG4.out (fun b hb => .inr ?_))) ((frame_set (F := fun b => b = rb) w4 rb 0 _ rfl).mono fun b hb => .inl (.inl hb))
      have h1 := hv3 b hb
      have h2 := HB2.out.size
      omega
    · intro b hb
      refine .inr ?_
      rcases HL4.out with h | h
      · have := hv3 b (h.symm.trans hb)
        have h2 := HB2.out.size
        omega
      · have h9 := hb.symm.trans h
        injection h9 with h9
        have h2 := HB2.out.size
        omega
end
section
open Go Go.RowKit

theorem IS_fl {w : World} {v : Value} {l : List Int} (h : IS w v l) : Fl w 1 v l.length (l.map (Value.int .i64)) := by
  obtain ⟨p, cap, rfl, h1, h2, h3⟩ := h
  refine ⟨by simp, p, cap, rfl, h1, h2, ?_⟩
  rcases h3 with rfl | ⟨b, o, rfl, h3⟩
  · exact .inl rfl
  · refine .inr ⟨b, o, rfl, fun j u hj => ?_⟩
    rw [List.getElem?_map] at hj
    obtain ⟨x, hx, rfl⟩ := Option.map_eq_some_iff.1 hj
    exact h3 j x hx
theorem IS_of {w : World} {v : Value} {n : Nat} {l : List Int} (h : Fl w 1 v n (l.map (Value.int .i64))) (hn : n = l.length) : IS w v l := by
  subst hn
  obtain ⟨-, p, cap, rfl, h1, h2, h3⟩ := h
  refine ⟨p, cap, rfl, h1, h2, ?_⟩
  rcases h3 with h3 | ⟨b, o, rfl, h3⟩
  · exact .inl (List.eq_nil_of_length_eq_zero h3)
  · refine .inr ⟨b, o, rfl, fun j x hj => h3 j _ ?_⟩
    rw [List.getElem?_map, hj]; rfl
theorem IS_cell {w : World} {p : Option Addr} {n c : Nat} {l : List Int} (h : IS w (.slice p n c) l) {j : Nat} {x : Int} (hj : l[j]? = some x) : ∃ b o, p = some ⟨b, o, none⟩ ∧ w.cell? ⟨b, o + j, none⟩ = some ((Value.int .i64) x) := by
  obtain ⟨q, cap, e, -, -, h3⟩ := h
  injection e with e1 e2 e3
  subst e1
  rcases h3 with rfl | ⟨b, o, rfl, h3⟩
  · cases hj
  · exact ⟨b, o, rfl, h3 j x hj⟩
theorem Sl_fl {w : World} {v : Value} {l : List ByteArray} (h : Sl w v l) : Fl w 1 v l.length (l.map Value.string) := by
  obtain ⟨p, cap, rfl, h1, h2, h3⟩ := h
  refine ⟨by simp, p, cap, rfl, h1, h2, ?_⟩
  rcases h3 with rfl | ⟨b, o, rfl, h3⟩
  · exact .inl rfl
  · refine .inr ⟨b, o, rfl, fun j u hj => ?_⟩
    rw [List.getElem?_map] at hj
    obtain ⟨x, hx, rfl⟩ := Option.map_eq_some_iff.1 hj
    exact h3 j x hx
theorem Sl_of {w : World} {v : Value} {n : Nat} {l : List ByteArray} (h : Fl w 1 v n (l.map Value.string)) (hn : n = l.length) : Sl w v l := by
  subst hn
  obtain ⟨-, p, cap, rfl, h1, h2, h3⟩ := h
  refine ⟨p, cap, rfl, h1, h2, ?_⟩
  rcases h3 with h3 | ⟨b, o, rfl, h3⟩
  · exact .inl (List.eq_nil_of_length_eq_zero h3)
  · refine .inr ⟨b, o, rfl, fun j x hj => h3 j _ ?_⟩
    rw [List.getElem?_map, hj]; rfl
theorem Sl_cell {w : World} {p : Option Addr} {n c : Nat} {l : List ByteArray} (h : Sl w (.slice p n c) l) {j : Nat} {x : ByteArray} (hj : l[j]? = some x) : ∃ b o, p = some ⟨b, o, none⟩ ∧ w.cell? ⟨b, o + j, none⟩ = some (Value.string x) := by
  obtain ⟨q, cap, e, -, -, h3⟩ := h
  injection e with e1 e2 e3
  subst e1
  rcases h3 with rfl | ⟨b, o, rfl, h3⟩
  · cases hj
  · exact ⟨b, o, rfl, h3 j x hj⟩
theorem own_type {W : World} {B k n : Nat} {e : TypeId} {v : Value} {cs : List Value} (h : W.ownsRow B e k v n cs) {b : Nat} (hb : v.ownBlock = some b) : ∃ cur, W.heap[b]? = some (.cells cur e (0, 0)) := by
  rcases h.2 with ⟨rfl, -⟩ | ⟨g, cap, cur, rfl, -, hg, -⟩
  · cases hb
  · injection hb with hb; subst hb; exact ⟨cur, hg⟩
end
section
open Go Go.RowKit
attribute [local go_sem ↓] Go.wp_at_zero Go.wp_at_succ

set_option maxRecDepth 100000 in
set_option maxHeartbeats 8000000 in
theorem refPut_any (w : World) (v : Value) (l : List Int) (x : Int) (h : IS w v l) (hs : l.Pairwise (fun a b : Int => a < b)) (hl : l.length ≤ 100000000) :
    Calls Tryz.prog 121 #[v, (Value.int .i64) x] w fun e w' => (∃ v', e = .returned v' ∧ IS w' v' (putL (fun a b : Int => a < b) l x)) ∧ Below w.heap.size w w' := by
  obtain ⟨PP, hPP⟩ : ∃ PP : Ending → World → Prop, (fun e w' => (∃ v', e = .returned v' ∧ IS w' v' (putL (fun a b : Int => a < b) l x)) ∧ Below w.heap.size w w') = PP := ⟨_, rfl⟩
  rw [hPP]
  have HPP := Lib.hid hPP
  have HIS := Lib.hid h
  obtain ⟨p, cap, rfl, ha1, ha2, -⟩ := h
  obtain ⟨i0, hi, hz0, hz1, hz2⟩ := info_parts info_int
  have HS := Lib.hid hs
  have hcl := cntL_le (lt := (fun a b : Int => a < b)) l x
  have HPT : Hid (x ∈ l → putL (fun a b : Int => a < b) l x = l) := fun h => if_pos h
  have HPF : Hid (x ∉ l → putL (fun a b : Int => a < b) l x = l.take (cntL (fun a b : Int => a < b) l x) ++ x :: l.drop (cntL (fun a b : Int => a < b) l x)) := fun h => if_neg h
  have HG := Lib.hid (cntL_get ord_int (x := x) hs)
  have HB : Hid (∀ {j : Nat} {y : Int}, l[j]? = some y → (y < x ↔ j < cntL (fun a b : Int => a < b) l x)) := Lib.hid (cntL_before ord_int hs)
  obtain ⟨c, hc⟩ : ∃ c, cntL (fun a b : Int => a < b) l x = c := ⟨_, rfl⟩
  rw [hc] at hcl HPF HG HB
  clear hPP hs hc
  go_enter Tryz.func121, Tryz.ntmps121
  go_wp2_with fail
  go_loop [5] (fun s5 => ∃ k : Nat, s5 = .int .i64 (k : Nat) ∧ k ≤ c) (fun s5 => c - (intOf s5).toNat)
  case atStart => exact ⟨0, rfl, Nat.zero_le _⟩
  case round =>
    obtain ⟨k, rfl, hk⟩ := hrel
    have hk0 : (0 : Int) ≤ (k : Int) := by omega
    by_cases hkc : k < c
    · obtain ⟨y, hy⟩ : ∃ y, l[k]? = some y := ⟨_, List.getElem?_eq_getElem (by omega)⟩
      obtain ⟨b, o, rfl, k1⟩ := IS_cell HIS.out hy
      have g1 : b < w.heap.size := World.block_lt_of_cell? w _ k1
      have hltI : (k : Int) < (l.length : Int) := by omega
      have hltD : decide (k < l.length) = true := decide_eq_true (by omega)
      have hyx := (HB.out hy).2 hkc
      clear hy
      go_wp2_with fail
      go_round
      case rel => exact ⟨k + 1, by go_num, by omega⟩
      case measure => simp [intOf]; omega
    · obtain rfl : k = c := by omega
      by_cases hkl : k < l.length
      · obtain ⟨y, hy⟩ : ∃ y, l[k]? = some y := ⟨_, List.getElem?_eq_getElem (by omega)⟩
        obtain ⟨b, o, rfl, k1⟩ := IS_cell HIS.out hy
        have g1 : b < w.heap.size := World.block_lt_of_cell? w _ k1
        have hltI : (k : Int) < (l.length : Int) := by omega
        have hltD : decide (k < l.length) = true := decide_eq_true (by omega)
        have hyx : ¬ (y < x) := fun e => hkc ((HB.out hy).1 e)
        have hyx' : x ≤ y := by omega
        by_cases hyeq : y = x
        · have HM : Hid (x ∈ l) := HG.out.2 (by rw [hy, hyeq])
          have t2 : (y == x) = true := by simp [hyeq]
          clear hy hyeq
          go_wp2_with fail
          rw [← HPP.out]
          refine ⟨⟨_, rfl, ?_⟩, Below.refl _ _⟩
          rw [HPT.out HM.out]; exact HIS.out
        · have HM : Hid (x ∉ l) := fun hm => hyeq (by have h1 := HG.out.1 hm; rw [hy] at h1; injection h1)
          have t2 : (y == x) = false := by simp [hyeq]
          clear hy hyeq
          obtain ⟨q1, cq1, hrun1, hf1⟩ := (IS_fl HIS.out).cut (P := Tryz.prog) 26 3 i0 Tryz.underlying26 hi (i := k) hcl
          obtain ⟨q2, cq2, hrun2, hf2⟩ := (IS_fl HIS.out).rest (P := Tryz.prog) 26 3 i0 Tryz.underlying26 hi hz1 (i := k) hcl
          rw [Nat.mul_one, ← List.map_take] at hf1
          rw [Nat.mul_one, ← List.map_drop] at hf2
          have HF1 := Lib.hid hf1
          have HF2 := Lib.hid hf2
          clear hf1 hf2
          go_wp2_with (first
            | (at_builtin; refine wpList_append_fl _ rfl (.tmp 34) (.tmp 37) 26 3 rfl w.heap.size 1 8 i0 (.int .i64 0) Tryz.underlying26 hi hz0 hz1 hz2 rfl (by decide) _ 0 [] rfl (World.ownsRow_nil _ _ _ _) _ rfl k _ HF1.out (by intro u hu; obtain ⟨y, -, rfl⟩ := List.mem_map.1 hu; rfl) (by unfold maxLen; omega) (by omega) (Nat.le_refl _) ?_; intro v3 w3 hown3 hg3 hloc3; rw [Nat.zero_add, List.nil_append] at hown3; have HB3 := Lib.hid ((Below.refl w.heap.size w).grown hg3 (Nat.le_refl _) (fun k hk => by cases hk)); have hs3 := HB3.out.size; have HO3 := Lib.hid hown3; clear hg3 hown3 hloc3)
            | (at_builtin; refine wpList_append_own _ rfl (.tmp 39) (.tmp 41) 26 rfl w.heap.size 3 i0 (.int .i64 0) 1 8 Tryz.underlying26 hi hz0 hz1 hz2 rfl (by decide) _ _ _ rfl (HO3.out.alloc _) ⟨w3.heap.size, 0, none⟩ 1 1 [(Value.int .i64) x] rfl rfl (cell_one_new _ _ _) (by intro u hu; simp at hu; subst hu; rfl) (by unfold maxLen; omega) (by omega) (by simp; omega) ?_; intro v4 w4 hown4 hg4 hnil4; have HB4 := Lib.hid ((HB3.out.alloc hs3 _).grown hg4 (by simp; omega) (fun k hk => (HO3.out.lt k hk).1)); have hs4 := HB4.out.size; have HO4 := Lib.hid hown4; clear hg4 hown4 hnil4)
            | (at_builtin; refine wpList_append_fl _ rfl (.tmp 43) (.tmp 46) 26 3 rfl w.heap.size 1 8 i0 (.int .i64 0) Tryz.underlying26 hi hz0 hz1 hz2 rfl (by decide) _ _ _ rfl HO4.out _ rfl (l.length - k) _ (HF2.out.below HB4.out) (by intro u hu; obtain ⟨y, -, rfl⟩ := List.mem_map.1 hu; rfl) (by unfold maxLen; omega) (by omega) hs4 ?_; intro v5 w5 hown5 hg5 hloc5; have HB5 := Lib.hid (HB4.out.grown hg5 hs4 (fun k hk => (HO4.out.lt k hk).1)); have HO5 := Lib.hid hown5; clear hg5 hown5 hloc5))
          rw [← HPP.out]
          refine ⟨⟨_, rfl, IS_of (n := k + 1 + (l.length - k)) ?_ ?_⟩, HB5.out⟩
          · rw [HPF.out HM.out, List.map_append, List.map_cons]
            have h5 := Fl.of_own HO5.out
            rw [List.append_assoc] at h5
            exact h5
          · rw [HPF.out HM.out, List.length_append, List.length_cons, List.length_take, List.length_drop]; omega
      · have HM : Hid (x ∉ l) := fun hm => hkl (List.getElem?_eq_some_iff.1 (HG.out.1 hm)).1
        have hltI : ¬ ((k : Int) < (l.length : Int)) := by omega
        have hltD : decide (k < l.length) = false := decide_eq_false (by omega)
        obtain ⟨q1, cq1, hrun1, hf1⟩ := (IS_fl HIS.out).cut (P := Tryz.prog) 26 3 i0 Tryz.underlying26 hi (i := k) hcl
        obtain ⟨q2, cq2, hrun2, hf2⟩ := (IS_fl HIS.out).rest (P := Tryz.prog) 26 3 i0 Tryz.underlying26 hi hz1 (i := k) hcl
        rw [Nat.mul_one, ← List.map_take] at hf1
        rw [Nat.mul_one, ← List.map_drop] at hf2
        have HF1 := Lib.hid hf1
        have HF2 := Lib.hid hf2
        clear hf1 hf2
        go_wp2_with (first
          | (at_builtin; refine wpList_append_fl _ rfl (.tmp 34) (.tmp 37) 26 3 rfl w.heap.size 1 8 i0 (.int .i64 0) Tryz.underlying26 hi hz0 hz1 hz2 rfl (by decide) _ 0 [] rfl (World.ownsRow_nil _ _ _ _) _ rfl k _ HF1.out (by intro u hu; obtain ⟨y, -, rfl⟩ := List.mem_map.1 hu; rfl) (by unfold maxLen; omega) (by omega) (Nat.le_refl _) ?_; intro v3 w3 hown3 hg3 hloc3; rw [Nat.zero_add, List.nil_append] at hown3; have HB3 := Lib.hid ((Below.refl w.heap.size w).grown hg3 (Nat.le_refl _) (fun k hk => by cases hk)); have hs3 := HB3.out.size; have HO3 := Lib.hid hown3; clear hg3 hown3 hloc3)
          | (at_builtin; refine wpList_append_own _ rfl (.tmp 39) (.tmp 41) 26 rfl w.heap.size 3 i0 (.int .i64 0) 1 8 Tryz.underlying26 hi hz0 hz1 hz2 rfl (by decide) _ _ _ rfl (HO3.out.alloc _) ⟨w3.heap.size, 0, none⟩ 1 1 [(Value.int .i64) x] rfl rfl (cell_one_new _ _ _) (by intro u hu; simp at hu; subst hu; rfl) (by unfold maxLen; omega) (by omega) (by simp; omega) ?_; intro v4 w4 hown4 hg4 hnil4; have HB4 := Lib.hid ((HB3.out.alloc hs3 _).grown hg4 (by simp; omega) (fun k hk => (HO3.out.lt k hk).1)); have hs4 := HB4.out.size; have HO4 := Lib.hid hown4; clear hg4 hown4 hnil4)
          | (at_builtin; refine wpList_append_fl _ rfl (.tmp 43) (.tmp 46) 26 3 rfl w.heap.size 1 8 i0 (.int .i64 0) Tryz.underlying26 hi hz0 hz1 hz2 rfl (by decide) _ _ _ rfl HO4.out _ rfl (l.length - k) _ (HF2.out.below HB4.out) (by intro u hu; obtain ⟨y, -, rfl⟩ := List.mem_map.1 hu; rfl) (by unfold maxLen; omega) (by omega) hs4 ?_; intro v5 w5 hown5 hg5 hloc5; have HB5 := Lib.hid (HB4.out.grown hg5 hs4 (fun k hk => (HO4.out.lt k hk).1)); have HO5 := Lib.hid hown5; clear hg5 hown5 hloc5))
        rw [← HPP.out]
        refine ⟨⟨_, rfl, IS_of (n := k + 1 + (l.length - k)) ?_ ?_⟩, HB5.out⟩
        · rw [HPF.out HM.out, List.map_append, List.map_cons]
          have h5 := Fl.of_own HO5.out
          rw [List.append_assoc] at h5
          exact h5
        · rw [HPF.out HM.out, List.length_append, List.length_cons, List.length_take, List.length_drop]; omega
end
end Go.Proofs.YtincmegllckcjaaGreatDoor
