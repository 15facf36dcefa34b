/- TRIE: rising texts; the list's own words. TRIE: the reference's list: place. TRIE: the reference's list: Add. TRIE: the reference's list: Remove. TRIE: slices of numbers, of texts. -/
import Derived.Test.YtflomcbclofbaaaDoorTrieCount
import Derived.Deep.QuietTactic
import Derived.BigQuiet
import Derived.Test.YtflomcbclofbaaaDoorTrieAwake
import Derived.Maps.AppendAt
import Derived.WalkSmall
import Derived.Test.YtflomcbclofbaaaDoorFlat
namespace Go.Proofs.YtflomcbclofbaaaDoor
open Go Go.RowKit
attribute [local go_sem ↓] Go.wp_at_zero Go.wp_at_succ

theorem list_tri (a b : List UInt8) : a < b ∨ a = b ∨ b < a := by
  rcases List.le_total a b with h | h
  · by_cases h1 : b < a
    · exact .inr (.inr h1)
    · by_cases h2 : a < b
      · exact .inl h2
      · exact .inr (.inl (List.le_antisymm h (List.not_lt.1 h2)))
  · by_cases h1 : a < b
    · exact .inl h1
    · by_cases h2 : b < a
      · exact .inr (.inr h2)
      · exact .inr (.inl (List.le_antisymm (List.not_lt.1 h2) h))
def ltB (s t : ByteArray) : Prop := s.data.toList < t.data.toList
instance : DecidableRel ltB := fun s t => inferInstanceAs (Decidable (s.data.toList < t.data.toList))
theorem ord_text : Ord3 ltB :=
  ⟨fun _ _ _ h k => List.lt_trans h k, fun _ h => List.lt_irrefl _ h, fun a b => by
    rcases list_tri a.data.toList b.data.toList with h | h | h
    · exact .inl h
    · exact .inr (.inl (bytes_inj h))
    · exact .inr (.inr h)⟩
theorem sortS_rising {ss : List ByteArray} (h : ss.Nodup) : (sortS ss).Pairwise ltB := by
  have h1 : ((lists ss).mergeSort fun x y => decide (x ≤ y)).Pairwise fun x y => decide (x ≤ y) = true := List.pairwise_mergeSort (fun a b c h k => by simp only [decide_eq_true_eq] at *; exact List.le_trans h k) (fun a b => by simp only [Bool.or_eq_true, decide_eq_true_eq]; exact List.le_total a b) _
  have hn : (lists ss).Nodup := by
    unfold lists
    exact List.pairwise_map.2 (h.imp fun h e => h (bytes_inj e))
  have h2 : ((lists ss).mergeSort fun x y => decide (x ≤ y)).Nodup := (List.mergeSort_perm _ _).nodup_iff.2 hn
  unfold sortS
  refine List.pairwise_map.2 ((List.pairwise_and_iff.2 ⟨h1, h2⟩).imp fun {a b} h => ?_)
  show (⟨a.toArray⟩ : ByteArray).data.toList < (⟨b.toArray⟩ : ByteArray).data.toList
  simp only [decide_eq_true_eq] at h
  rcases list_tri a b with h3 | h3 | h3
  · exact h3
  · exact absurd h3 h.2
  · exact absurd h3 (List.not_lt.2 h.1)

def subCells (l : Subs) : List Value := l.flatMap fun x => [Value.string x.1, Value.int .i64 x.2]
theorem subCells_get : ∀ (l : Subs) (i : Nat) (x : ByteArray × Int), l[i]? = some x → (subCells l)[i * 2]? = some (.string x.1) ∧ (subCells l)[i * 2 + 1]? = some (.int .i64 x.2)
  | [], _, _, h => by cases h
  | y :: l, 0, x, h => by injection h with h; subst h; exact ⟨rfl, rfl⟩
  | y :: l, i + 1, x, h => by
    have := subCells_get l i x h
    rw [show (i + 1) * 2 = i * 2 + 2 by omega]
    exact this
/-- the list in memory: a box that holds an own row of pairs -/
structure RL (W : World) (base rb : Nat) (v : Value) (l : Subs) : Prop where
  box : W.heap[rb]? = some (.cells #[v] 47 (0, 0))
  row : W.ownsRow base 68 2 v l.length (subCells l)
  lo : base ≤ rb
def PlaceR (l : Subs) (f : ByteArray) (z : Int) (r : Int) : Prop := (r = -1 ∧ (f, z) ∉ l) ∨ ∃ i : Nat, r = (i : Nat) ∧ l[i]? = some (f, z)
set_option maxRecDepth 100000 in
set_option maxHeartbeats 4000000 in
theorem place_any (w : World) (base rb : Nat) (v : Value) (l : Subs) (f : ByteArray) (z : Int) (h : RL w base rb v l) (hl : l.length ≤ 100000000) :
    Calls Tryd.prog 36 #[.pointer (some ⟨rb, 0, none⟩), .string f, .int .i64 z] w fun e w' => (∃ r, e = .returned (.int .i64 r) ∧ PlaceR l f z r) ∧ Below w.heap.size w w' := by
  obtain ⟨PP, hPP⟩ : ∃ PP : Ending → World → Prop, (fun e w' => (∃ r, e = .returned (.int .i64 r) ∧ PlaceR l f z r) ∧ Below w.heap.size w w') = PP := ⟨_, rfl⟩
  rw [hPP]
  have HPP := Lib.hid hPP
  have HR := Lib.hid h
  have c0 : w.cell? ⟨rb, 0, none⟩ = some v := by rw [cell_of_row w rb 0 _ _ _ h.box]; rfl
  have hb := (Array.getElem?_eq_some_iff.1 h.box).1
  obtain ⟨q, c, hv⟩ : ∃ q c, v = .slice q l.length c := by
    rcases h.row.2 with ⟨rfl, h2⟩ | ⟨g, cap, cur, rfl, -⟩
    · exact ⟨_, _, by rw [h2]⟩
    · exact ⟨_, _, rfl⟩
  subst hv
  clear hPP h
  go_enter Tryd.func36, Tryd.ntmps36
  go_wp2_with fail
  go_loopw [7] (fun s7 wr => ∃ i : Nat, s7 = .int .i64 (i : Nat) ∧ i ≤ l.length ∧ Hid (∀ j, j < i → l[j]? ≠ some (f, z)) ∧ Hid (Below w.heap.size w wr)) (fun s7 _ => l.length - (intOf s7).toNat)
  case atStart => exact ⟨0, rfl, Nat.zero_le _, fun j hj => by omega, Below.refl _ _⟩
  case round =>
    obtain ⟨i, rfl, hi, hN, hB⟩ := hrel
    have k0 := (hB.out.cell (p := ⟨rb, 0, none⟩) hb).trans c0
    have kb : rb < wr.heap.size := World.block_lt_of_cell? wr _ k0
    by_cases hlt : i < l.length
    · obtain ⟨x, hx⟩ : ∃ x, l[i]? = some x := ⟨_, List.getElem?_eq_getElem hlt⟩
      obtain ⟨g, rfl⟩ : ∃ g, q = some ⟨g, 0, none⟩ := by
        rcases HR.out.row.2 with ⟨h1, h2⟩ | ⟨g, cap, cur, h1, -⟩
        · omega
        · injection h1 with h1; exact ⟨g, h1⟩
      obtain ⟨g1, g2⟩ := subCells_get l i x hx
      have hg1 := HR.out.row.cellAt (i * 2) (by omega)
      have hg2 := HR.out.row.cellAt (i * 2 + 1) (by omega)
      rw [g1] at hg1
      rw [g2] at hg2
      have e1 := (hB.out.cell (World.block_lt_of_cell? w _ hg1)).trans hg1
      have e2 := (hB.out.cell (World.block_lt_of_cell? w _ hg2)).trans hg2
      have hgl : g < wr.heap.size := World.block_lt_of_cell? wr _ e1
      have hltI : (i : Int) < (l.length : Int) := by omega
      have hi0 : (0 : Int) ≤ (i : Int) := by omega
      have HX := Lib.hid hx
      clear hx g1 g2 hg1 hg2
      by_cases hf : x.1 = f
      · have t1 : (x.1.toList == f.toList) = true := is_same.2 hf
        by_cases hz : x.2 = z
        · have t2 : (x.2 == z) = true := by simp [hz]
          have HXE : Hid (x = (f, z)) := Prod.ext hf hz
          clear hf hz
          go_wp2_with fail
          rw [← HPP.out]
          exact ⟨⟨i, rfl, .inr ⟨i, rfl, by rw [HX.out, HXE.out]⟩⟩, hB.out⟩
        · have t2 : (x.2 == z) = false := by simp [hz]
          have HNE : Hid (x ≠ (f, z)) := fun e => hz (by rw [e])
          clear hf hz
          go_wp2_with fail
          go_roundw
          case rel =>
            refine ⟨i + 1, by go_num, by omega, fun j hj e => ?_, hB.out⟩
            rcases Nat.lt_or_ge j i with h | h
            · exact hN.out j h e
            · have : j = i := by omega
              subst this
              rw [HX.out] at e
              injection e with e
              rw [e] at HNE
              exact HNE.out rfl
          case measure => simp [intOf]; omega
      · have t1 : (x.1.toList == f.toList) = false := by
          cases h : (x.1.toList == f.toList)
          · rfl
          · exact absurd (is_same.1 h) hf
        have HNE : Hid (x ≠ (f, z)) := fun e => hf (by rw [e])
        clear hf
        go_wp2_with fail
        go_roundw
        case rel =>
          refine ⟨i + 1, by go_num, by omega, fun j hj e => ?_, hB.out⟩
          rcases Nat.lt_or_ge j i with h | h
          · exact hN.out j h e
          · have : j = i := by omega
            subst this
            rw [HX.out] at e
            injection e with e
            rw [e] at HNE
            exact HNE.out rfl
        case measure => simp [intOf]; omega
    · have hltI : ¬ ((i : Int) < (l.length : Int)) := by omega
      go_wp2_with fail
      rw [← HPP.out]
      refine ⟨⟨-1, rfl, .inl ⟨rfl, fun hm => ?_⟩⟩, hB.out⟩
      obtain ⟨j, hj, e⟩ := List.getElem_of_mem hm
      exact hN.out j (by omega) (by rw [List.getElem?_eq_getElem hj, e])

theorem info_sub : (Tryd.prog.info? 68).map (fun i => (i.zero, i.size, i.bytes)) = some (some (.agg #[.string ByteArray.empty, .int .i64 0]), 2, 24) := by kernel_rfl
theorem row_ne {W : World} {base rb n : Nat} {v : Value} {cs : Array Value} {xs : List Value} {z : Nat × Nat} (hb : W.heap[rb]? = some (.cells cs 47 z)) (h : W.ownsRow base 68 2 v n xs) : v.ownBlock ≠ some rb := by
  intro e
  rcases h.2 with ⟨rfl, -⟩ | ⟨g, cap, cur, rfl, -, hg, -⟩
  · cases e
  · have e : some g = some rb := e
    injection e with e
    subst e
    rw [hb] at hg
    injection hg with hg
    injection hg with _ hg _
    revert hg
    decide
theorem RL.ne {W : World} {base rb : Nat} {v : Value} {l : Subs} (h : RL W base rb v l) : v.ownBlock ≠ some rb := row_ne h.box h.row
/-- what a change of the list does -/
structure RLTo (w : World) (base rb : Nat) (v : Value) (l' : Subs) (w' : World) (v' : Value) : Prop where
  rl : RL w' base rb v' l'
  fr : Frame (fun b => b = rb ∨ v.ownBlock = some b) w w'
  own : ∀ b, v'.ownBlock = some b → v.ownBlock = some b ∨ w.heap.size ≤ b
theorem RL.below {W W' : World} {base rb : Nat} {v : Value} {l : Subs} (h : RL W base rb v l) (hb : Below W.heap.size W W') : RL W' base rb v l :=
  ⟨(hb.block rb (Array.getElem?_eq_some_iff.1 h.box).1).trans h.box, h.row.kept (row := none) ⟨hb.os, hb.tape, hb.output, hb.size, fun j hj _ => hb.block j hj⟩ (Decidable.em _), h.lo⟩
theorem subCells_append (l : Subs) (f : ByteArray) (z : Int) : subCells (l ++ [(f, z)]) = subCells l ++ [.string f, .int .i64 z] := by unfold subCells; rw [List.flatMap_append]; rfl
theorem PlaceR.in_ {l : Subs} {f : ByteArray} {z r : Int} (h : PlaceR l f z r) : 0 ≤ r ↔ (f, z) ∈ l := by
  rcases h with ⟨rfl, h⟩ | ⟨i, rfl, h⟩
  · exact ⟨fun h => by omega, fun k => absurd k h⟩
  · exact ⟨fun _ => List.mem_of_getElem? h, fun _ => by omega⟩
set_option maxRecDepth 100000 in
set_option maxHeartbeats 4000000 in
theorem refAdd_any (w : World) (base rb : Nat) (v : Value) (l : Subs) (f : ByteArray) (z : Int) (h : RL w base rb v l) (hT : Tabs w) (hf : f.size ≤ 1048576) (hl : l.length ≤ 100000000) :
    Calls Tryd.prog 17 #[.pointer (some ⟨rb, 0, none⟩), .string f, .int .i64 z] w fun e w' => ∃ (ok : Bool) (v' : Value), e = .returned (.bool ok) ∧ (ok = true ↔ filterB f = true ∧ (f, z) ∉ l) ∧ RLTo w base rb v (addS l f z) w' v' := by
  obtain ⟨PP, hPP⟩ : ∃ PP : Ending → World → Prop, (fun e w' => ∃ (ok : Bool) (v' : Value), e = .returned (.bool ok) ∧ (ok = true ↔ filterB f = true ∧ (f, z) ∉ l) ∧ RLTo w base rb v (addS l f z) w' v') = PP := ⟨_, rfl⟩
  rw [hPP]
  have HPP := Lib.hid hPP
  have CF := refFilter_any valid_said f w hf hT
  cases hF : filterB f with
  | false =>
    rw [hF] at CF
    have CF' := Lib.hid CF
    have HF := Lib.hid hF
    have HR := Lib.hid h
    clear hPP CF hF h
    go_enter Tryd.func17, Tryd.ntmps17
    go_wp2_with (go_at_call 27; refine CF'.out.mono ?_; rintro e w1 ⟨rfl, hb1⟩)
    have HB1 := Lib.hid hb1
    clear hb1
    go_wp2_with fail
    rw [← HPP.out]
    exact ⟨false, v, rfl, Iff.intro (fun h => by cases h) (fun h => by rw [HF.out] at h; cases h.1), by rw [addS_neg HF.out]; exact HR.out.below HB1.out, Frame.of_below HB1.out, fun _ hb => .inl hb⟩
  | true =>
    rw [hF] at CF
    have CF' := Lib.hid CF
    have HF := Lib.hid hF
    have HR := Lib.hid h
    clear hPP CF hF h
    go_enter Tryd.func17, Tryd.ntmps17
    go_wp2_with (go_at_call 27; refine CF'.out.mono ?_; rintro e w1 ⟨rfl, hb1⟩)
    have HB1 := Lib.hid hb1
    have HR1 := Lib.hid (HR.out.below hb1)
    clear hb1
    go_wp2_with fail
    refine (place_any _ base rb v l f z HR1.out hl).mono ?_
    rintro e w2 ⟨⟨r, rfl, hr⟩, hb2⟩
    have HB2 := Lib.hid (HB1.out.trans (hb2.mono HB1.out.size))
    have HR2 := Lib.hid (HR1.out.below hb2)
    have hin := hr.in_
    have HIN := Lib.hid hin
    clear hb2 hr hin
    obtain ⟨i0, hi, hz0, hz1, hz2⟩ := info_parts info_sub
    by_cases h0 : 0 ≤ r
    · go_wp2_with fail
      rw [← HPP.out]
      have hm := HIN.out.1 h0
      refine ⟨false, v, rfl, Iff.intro (fun h => by cases h) (fun h => absurd hm h.2), ?_, Frame.of_below HB2.out, fun _ hb => .inl hb⟩
      have e : addS l f z = l := by unfold addS; rw [if_neg (fun e => e.2 hm)]
      rw [e]; exact HR2.out
    · obtain ⟨q, c, hv⟩ : ∃ q c, v = .slice q l.length c := by
        rcases HR2.out.row.2 with ⟨rfl, h2⟩ | ⟨g, cap, cur, rfl, -⟩
        · exact ⟨_, _, by rw [h2]⟩
        · exact ⟨_, _, rfl⟩
      subst hv
      have c2 : w2.cell? ⟨rb, 0, none⟩ = some (.slice q l.length c) := by rw [cell_of_row w2 rb 0 _ _ _ HR2.out.box]; rfl
      have f2 := frozen_of_row w2 rb 0 _ _ HR2.out.box
      have hlb := (Array.getElem?_eq_some_iff.1 HR2.out.box).1
      have hbase : base ≤ w2.heap.size := Nat.le_trans HR2.out.lo (Nat.le_of_lt hlb)
      have hm : (f, z) ∉ l := fun hm => h0 (HIN.out.2 hm)
      have HM := Lib.hid hm
      clear hm
      go_wp2_with (at_builtin; refine wpList_append_own_at _ rfl _ _ 45 rfl base 68 i0 (.agg #[.string ByteArray.empty, .int .i64 0]) 2 24 Tryd.underlying45 hi hz0 hz1 hz2 rfl (by decide) _ _ _ rfl (HR2.out.row.alloc _) ⟨w2.heap.size, 0, none⟩ 1 1 [.string f, .int .i64 z] rfl rfl (cell_two_new _ _ _ _) (by intro u hu; simp at hu; rcases hu with rfl | rfl <;> rfl) (by unfold maxLen; omega) (by omega) (by simp; omega) ?_; intro v3 w3 hown3 hg3' hnil3 hloc; have hg3 : (w2.alloc (.cells #[.string f, .int .i64 z] 68)).grownBy w3 (Value.slice q l.length c).ownBlock := hg3'; have hbx3 : w3.heap[rb]? = some (.cells #[.slice q l.length c] 47 (0, 0)) := (hg3.block rb (by simp; omega) (fun e => HR2.out.ne e.symm)).trans ((Below.heap_alloc _ _ _ hlb).trans HR2.out.box); obtain ⟨g3, cap3, rfl⟩ := ownsRow_succ hown3; have hfb3 := frozen_of_row w3 rb 0 _ _ hbx3; have hlb3 := (Array.getElem?_eq_some_iff.1 hbx3).1; have cb3 : w3.cell? ⟨rb, 0, none⟩ = some (.slice q l.length c) := (by rw [cell_of_row w3 rb 0 _ _ _ hbx3]; rfl); have HOW := Lib.hid hown3; have HG3 := Lib.hid hg3; have HBX3 := Lib.hid hbx3; have HLOC := Lib.hid hloc; clear hown3 hg3 hg3' hnil3 hbx3 hloc)
      rw [← HPP.out]
      refine ⟨true, .slice (some ⟨g3, 0, none⟩) (l.length + 1) cap3, rfl, Iff.intro (fun _ => ⟨HF.out, HM.out⟩) (fun _ => rfl), ?_⟩
      rw [addS_pos HF.out HM.out]
      have hrow4 : w3.ownsRow base 68 2 (.slice (some ⟨g3, 0, none⟩) (l.length + 1) cap3) (l ++ [(f, z)]).length (subCells (l ++ [(f, z)])) := by
        rw [subCells_append, List.length_append]; exact HOW.out
      have hne : g3 ≠ rb := fun e => row_ne HBX3.out hrow4 (by rw [e]; rfl)
      refine ⟨⟨heap_setCell_same w3 rb 0 _ _ _ HBX3.out, row_of_heap hrow4 fun b hb => Below.heap_setCell _ _ _ _ (fun e => ?_), HR2.out.lo⟩, ?_, ?_⟩
      · injection hb with hb
        exact hne (hb.trans e)
      · refine Frame.trans (Frame.trans (Frame.trans (Frame.of_below HB2.out) (Frame.of_below ((Below.refl _ _).alloc (Nat.le_refl _) _))) (Frame.of_grown HG3.out (fun b hb => .inl (.inr hb)))) ((frame_set (F := fun b => b = rb) w3 rb 0 _ rfl).mono fun b hb => .inl (.inl hb))
      · intro b hb
        rcases HLOC.out with h | h
        · exact .inl (h.symm.trans hb)
        · have h9 : some b = some (w2.alloc (.cells #[.string f, .int .i64 z] 68)).heap.size := hb.symm.trans h
          injection h9 with h9
          rw [World.size_alloc] at h9
          have := HB2.out.size
          exact .inr (by omega)

theorem subCells_take : ∀ (l : Subs) (i : Nat), subCells (l.take i) = (subCells l).take (i * 2)
  | [], i => by simp [subCells]
  | x :: l, 0 => by simp [subCells]
  | x :: l, i + 1 => by
    have := subCells_take l i
    rw [show (i + 1) * 2 = i * 2 + 2 by omega]
    show [Value.string x.1, Value.int .i64 x.2] ++ subCells (l.take i) = _
    rw [this]; rfl
theorem subCells_drop : ∀ (l : Subs) (i : Nat), subCells (l.drop i) = (subCells l).drop (i * 2)
  | [], i => by simp [subCells]
  | x :: l, 0 => by simp
  | x :: l, i + 1 => by
    have := subCells_drop l i
    rw [show (i + 1) * 2 = i * 2 + 2 by omega]
    show subCells (l.drop i) = _
    rw [this]; rfl
theorem subCells_one (l : Subs) : ∀ u ∈ subCells l, u.oneCell' = true := by
  intro u hu
  unfold subCells at hu
  obtain ⟨x, -, hx⟩ := List.mem_flatMap.1 hu
  simp only [List.mem_cons, List.not_mem_nil, or_false] at hx
  rcases hx with rfl | rfl <;> rfl
theorem subCells_len (l : Subs) : (subCells l).length = l.length * 2 := by
  unfold subCells
  rw [List.length_flatMap]
  induction l with
  | nil => rfl
  | cons x l ih => simp only [List.map_cons, List.sum_cons, List.length_cons, List.length_nil] at *; omega
theorem subS_cut {l : Subs} {f : ByteArray} {z : Int} {i : Nat} (hnd : l.Nodup) (h : l[i]? = some (f, z)) : subS l f z = l.take i ++ l.drop (i + 1) := by
  obtain ⟨hi, e⟩ := List.getElem?_eq_some_iff.1 h
  have hl : l = l.take i ++ (f, z) :: l.drop (i + 1) := by
    rw [← e, ← List.drop_eq_getElem_cons hi, List.take_append_drop]
  have hnd' := hnd
  rw [hl, List.nodup_append] at hnd'
  obtain ⟨-, h2, h3⟩ := hnd'
  rw [List.nodup_cons] at h2
  have h4 : (f, z) ∉ l.take i := fun hm => h3 _ hm _ (List.mem_cons_self ..) rfl
  conv => lhs; rw [hl]
  unfold subS
  rw [List.filter_append, List.filter_cons_of_neg (by simp)]
  congr 1
  · exact subS_not h4
  · exact subS_not h2.1
set_option maxRecDepth 100000 in
set_option maxHeartbeats 4000000 in
theorem refRemove_any (w : World) (base rb : Nat) (v : Value) (l : Subs) (f : ByteArray) (z : Int) (h : RL w base rb v l) (hnd : l.Nodup) (hl : l.length ≤ 100000000) :
    Calls Tryd.prog 18 #[.pointer (some ⟨rb, 0, none⟩), .string f, .int .i64 z] w fun e w' => ∃ (ok : Bool) (v' : Value), e = .returned (.bool ok) ∧ (ok = true ↔ (f, z) ∈ l) ∧ RLTo w base rb v (subS l f z) w' v' := by
  obtain ⟨PP, hPP⟩ : ∃ PP : Ending → World → Prop, (fun e w' => ∃ (ok : Bool) (v' : Value), e = .returned (.bool ok) ∧ (ok = true ↔ (f, z) ∈ l) ∧ RLTo w base rb v (subS l f z) w' v') = PP := ⟨_, rfl⟩
  rw [hPP]
  have HPP := Lib.hid hPP
  have HR := Lib.hid h
  have HND := Lib.hid hnd
  have HPL := Lib.hid (place_any w base rb v l f z h hl)
  clear hPP h hnd
  obtain ⟨i0, hi, hz0, hz1, hz2⟩ := info_parts info_sub
  go_enter Tryd.func18, Tryd.ntmps18
  go_wp2_with fail
  refine HPL.out.mono ?_
  rintro e w2 ⟨⟨r, rfl, hr⟩, hb2⟩
  have HB2 := Lib.hid hb2
  have HR2 := Lib.hid (HR.out.below hb2)
  clear hb2
  rcases hr with ⟨rfl, hr⟩ | ⟨i, rfl, hr⟩
  · have HM := Lib.hid hr
    clear hr
    go_wp2_with fail
    rw [← HPP.out]
    exact ⟨false, v, rfl, Iff.intro (fun h => by cases h) (fun h => absurd h HM.out), by rw [subS_not HM.out]; exact HR2.out, Frame.of_below HB2.out, fun _ hb => .inl hb⟩
  · have hil := (List.getElem?_eq_some_iff.1 hr).1
    have HM := Lib.hid hr
    have HCUT := Lib.hid (subS_cut HND.out hr)
    have hi0 : (0 : Int) ≤ (i : Int) := by omega
    have c2 : w2.cell? ⟨rb, 0, none⟩ = some v := by rw [cell_of_row w2 rb 0 _ _ _ HR2.out.box]; rfl
    have f2 := frozen_of_row w2 rb 0 _ _ HR2.out.box
    have hlb := (Array.getElem?_eq_some_iff.1 HR2.out.box).1
    have hbase : base ≤ w2.heap.size := Nat.le_trans HR2.out.lo (Nat.le_of_lt hlb)
    obtain ⟨q1, cq1, hrun1, hf1⟩ := (Fl.of_own HR2.out.row).cut (P := Tryd.prog) 45 68 i0 Tryd.underlying45 hi (i := i) (by omega)
    obtain ⟨q2, cq2, hrun2, hf2⟩ := (Fl.of_own HR2.out.row).rest (P := Tryd.prog) 45 68 i0 Tryd.underlying45 hi hz1 (i := i + 1) (by omega)
    rw [show ((i + 1 : Nat) : Int) = (i : Int) + 1 by omega] at hrun2
    rw [← subCells_take] at hf1
    rw [← subCells_drop] at hf2
    have HF1 := Lib.hid hf1
    have HF2 := Lib.hid hf2
    clear hr hf1 hf2
    go_wp2_with (first
      | (at_builtin; refine wpList_append_fl _ rfl (.tmp 15) (.tmp 21) 45 68 rfl base 2 24 i0 (.agg #[.string ByteArray.empty, .int .i64 0]) Tryd.underlying45 hi hz0 hz1 hz2 rfl (by decide) _ 0 [] rfl (World.ownsRow_nil _ _ _ _) _ rfl i (subCells (l.take i)) HF1.out (subCells_one _) (by unfold maxLen; omega) (by omega) hbase ?_; intro v3 w3 hown3 hg3 hloc3; rw [Nat.zero_add, List.nil_append] at hown3; have HB3 := Lib.hid ((Below.refl w2.heap.size w2).grown hg3 (Nat.le_refl _) (fun k hk => by cases hk)); have hs3 := HB3.out.size; have c3 := (HB3.out.cell (p := ⟨rb, 0, none⟩) hlb).trans c2; have HO3 := Lib.hid hown3; have HL3 := Lib.hid hloc3; clear hg3 hown3 hloc3)
      | (at_builtin; refine wpList_append_fl _ rfl (.tmp 24) (.tmp 31) 45 68 rfl base 2 24 i0 (.agg #[.string ByteArray.empty, .int .i64 0]) Tryd.underlying45 hi hz0 hz1 hz2 rfl (by decide) _ i _ rfl HO3.out _ rfl (l.length - (i + 1)) (subCells (l.drop (i + 1))) (HF2.out.below HB3.out) (subCells_one _) (by unfold maxLen; omega) (by omega) (by omega) ?_; intro v4 w4 hown4 hg4 hloc4; obtain ⟨q4, cap4, rfl⟩ := (Fl.of_own hown4).form; have HG4 := Lib.hid hg4; have HO4 := Lib.hid hown4; have HL4 := Lib.hid hloc4; have hbx4 : w4.heap[rb]? = some (.cells #[v] 47 (0, 0)) := (HG4.out.block rb (by omega) (fun e => row_ne ((HB3.out.block rb hlb).trans HR2.out.box) HO3.out e.symm)).trans ((HB3.out.block rb hlb).trans HR2.out.box); have HBX4 := Lib.hid hbx4; have f4 := frozen_of_row w4 rb 0 _ _ hbx4; have hlb4 := (Array.getElem?_eq_some_iff.1 hbx4).1; have c4 : w4.cell? ⟨rb, 0, none⟩ = some v := (by rw [cell_of_row w4 rb 0 _ _ _ hbx4]; rfl); clear hg4 hown4 hloc4 hbx4))
    rw [← HPP.out]
    refine ⟨true, .slice q4 (i + (l.length - (i + 1))) cap4, rfl, Iff.intro (fun _ => List.mem_of_getElem? HM.out) (fun _ => rfl), ?_⟩
    rw [HCUT.out]
    have hlen : (l.take i ++ l.drop (i + 1)).length = i + (l.length - (i + 1)) := by rw [List.length_append, List.length_take, List.length_drop]; omega
    have hcs : subCells (l.take i ++ l.drop (i + 1)) = subCells (l.take i) ++ subCells (l.drop (i + 1)) := by unfold subCells; rw [List.flatMap_append]
    have hrow5 : w4.ownsRow base 68 2 (.slice q4 (i + (l.length - (i + 1))) cap4) (l.take i ++ l.drop (i + 1)).length (subCells (l.take i ++ l.drop (i + 1))) := by
      rw [hlen, hcs]; exact HO4.out
    have hv3 : ∀ b, v3.ownBlock = some b → w2.heap.size ≤ b := fun b hb => by
      rcases HL3.out with h | h
      · rw [h] at hb; cases hb
      · rw [h] at hb; injection hb with hb; omega
    refine ⟨⟨heap_setCell_same w4 rb 0 _ _ _ HBX4.out, row_of_heap hrow5 fun b hb => Below.heap_setCell _ _ _ _ (fun e => row_ne HBX4.out hrow5 (by rw [hb, e])), HR2.out.lo⟩, ?_, ?_⟩
    · refine Frame.trans (Frame.trans (Frame.of_below (HB2.out.trans (HB3.out.mono HB2.out.size))) (Frame.of_grown HG4.out (fun b hb => .inr ?_))) ((frame_set (F := fun b => b = rb) w4 rb 0 _ rfl).mono fun b hb => .inl (.inl hb))
      have h1 := hv3 b hb
      have h2 := HB2.out.size
      omega
    · intro b hb
      refine .inr ?_
      rcases HL4.out with h | h
      · have := hv3 b (h.symm.trans hb)
        have h2 := HB2.out.size
        omega
      · have h9 := hb.symm.trans h
        injection h9 with h9
        have h2 := HB2.out.size
        omega

theorem IS_fl {w : World} {v : Value} {l : List Int} (h : IS w v l) : Fl w 1 v l.length (l.map (Value.int .i64)) := by
  obtain ⟨p, cap, rfl, h1, h2, h3⟩ := h
  refine ⟨by simp, p, cap, rfl, h1, h2, ?_⟩
  rcases h3 with rfl | ⟨b, o, rfl, h3⟩
  · exact .inl rfl
  · refine .inr ⟨b, o, rfl, fun j u hj => ?_⟩
    rw [List.getElem?_map] at hj
    obtain ⟨x, hx, rfl⟩ := Option.map_eq_some_iff.1 hj
    exact h3 j x hx
theorem IS_of {w : World} {v : Value} {n : Nat} {l : List Int} (h : Fl w 1 v n (l.map (Value.int .i64))) (hn : n = l.length) : IS w v l := by
  subst hn
  obtain ⟨-, p, cap, rfl, h1, h2, h3⟩ := h
  refine ⟨p, cap, rfl, h1, h2, ?_⟩
  rcases h3 with h3 | ⟨b, o, rfl, h3⟩
  · exact .inl (List.eq_nil_of_length_eq_zero h3)
  · refine .inr ⟨b, o, rfl, fun j x hj => h3 j _ ?_⟩
    rw [List.getElem?_map, hj]; rfl
theorem IS_cell {w : World} {p : Option Addr} {n c : Nat} {l : List Int} (h : IS w (.slice p n c) l) {j : Nat} {x : Int} (hj : l[j]? = some x) : ∃ b o, p = some ⟨b, o, none⟩ ∧ w.cell? ⟨b, o + j, none⟩ = some ((Value.int .i64) x) := by
  obtain ⟨q, cap, e, -, -, h3⟩ := h
  injection e with e1 e2 e3
  subst e1
  rcases h3 with rfl | ⟨b, o, rfl, h3⟩
  · cases hj
  · exact ⟨b, o, rfl, h3 j x hj⟩
theorem Sl_fl {w : World} {v : Value} {l : List ByteArray} (h : Sl w v l) : Fl w 1 v l.length (l.map Value.string) := by
  obtain ⟨p, cap, rfl, h1, h2, h3⟩ := h
  refine ⟨by simp, p, cap, rfl, h1, h2, ?_⟩
  rcases h3 with rfl | ⟨b, o, rfl, h3⟩
  · exact .inl rfl
  · refine .inr ⟨b, o, rfl, fun j u hj => ?_⟩
    rw [List.getElem?_map] at hj
    obtain ⟨x, hx, rfl⟩ := Option.map_eq_some_iff.1 hj
    exact h3 j x hx
theorem Sl_of {w : World} {v : Value} {n : Nat} {l : List ByteArray} (h : Fl w 1 v n (l.map Value.string)) (hn : n = l.length) : Sl w v l := by
  subst hn
  obtain ⟨-, p, cap, rfl, h1, h2, h3⟩ := h
  refine ⟨p, cap, rfl, h1, h2, ?_⟩
  rcases h3 with h3 | ⟨b, o, rfl, h3⟩
  · exact .inl (List.eq_nil_of_length_eq_zero h3)
  · refine .inr ⟨b, o, rfl, fun j x hj => h3 j _ ?_⟩
    rw [List.getElem?_map, hj]; rfl
theorem Sl_cell {w : World} {p : Option Addr} {n c : Nat} {l : List ByteArray} (h : Sl w (.slice p n c) l) {j : Nat} {x : ByteArray} (hj : l[j]? = some x) : ∃ b o, p = some ⟨b, o, none⟩ ∧ w.cell? ⟨b, o + j, none⟩ = some (Value.string x) := by
  obtain ⟨q, cap, e, -, -, h3⟩ := h
  injection e with e1 e2 e3
  subst e1
  rcases h3 with rfl | ⟨b, o, rfl, h3⟩
  · cases hj
  · exact ⟨b, o, rfl, h3 j x hj⟩
theorem own_type {W : World} {B k n : Nat} {e : TypeId} {v : Value} {cs : List Value} (h : W.ownsRow B e k v n cs) {b : Nat} (hb : v.ownBlock = some b) : ∃ cur, W.heap[b]? = some (.cells cur e (0, 0)) := by
  rcases h.2 with ⟨rfl, -⟩ | ⟨g, cap, cur, rfl, -, hg, -⟩
  · cases hb
  · injection hb with hb; subst hb; exact ⟨cur, hg⟩
end Go.Proofs.YtflomcbclofbaaaDoor
