/- TRIE: no, newNode, New; a place's put. -/
import Derived.Test.YtflomcbclofbaaaDoorTrieIds
namespace Go.Proofs.YtflomcbclofbaaaDoor
open Go Go.RowKit

theorem k_world {K : Act → World → Prop} {a : Act} {W : World} (R : World → Prop) (h : R W) (H : ∀ W, R W → K a W) : K a W := H W h
theorem wp_world {P : Program} {c : Code} {Q : Exit → Act → World → Prop} {a : Act} {W : World} (R : World → Prop) (h : R W) (H : ∀ W, R W → Code.wp P c Q a W) : Code.wp P c Q a W := H W h
/-- all blocks but some are as they were -/
structure Frame (F : Nat → Prop) (W W' : World) : Prop where
  os : W'.os = W.os
  tape : W'.tape = W.tape
  output : W'.output = W.output
  size : W.heap.size ≤ W'.heap.size
  block : ∀ b, b < W.heap.size → ¬ F b → W'.heap[b]? = W.heap[b]?
theorem Frame.of_grown {F : Nat → Prop} {W W' : World} {row : Option Nat} (h : W.grownBy W' row) (hr : ∀ b, row = some b → F b) : Frame F W W' :=
  ⟨h.os, h.tape, h.output, h.size, fun b hb hF => h.block b hb (fun e => hF (hr b e.symm))⟩
theorem Frame.of_below {F : Nat → Prop} {W W' : World} (h : Below W.heap.size W W') : Frame F W W' := ⟨h.os, h.tape, h.output, h.size, fun b hb _ => h.block b hb⟩
theorem Frame.below {W W' : World} (h : Frame (fun _ => False) W W') : Below W.heap.size W W' := ⟨h.os, h.tape, h.output, h.size, fun b hb => h.block b hb (fun e => e)⟩
theorem Frame.trans {F : Nat → Prop} {W W1 W2 : World} (h : Frame F W W1) (k : Frame (fun b => F b ∨ W.heap.size ≤ b) W1 W2) : Frame F W W2 :=
  ⟨k.os.trans h.os, k.tape.trans h.tape, k.output.trans h.output, Nat.le_trans h.size k.size, fun b hb hF => (k.block b (Nat.lt_of_lt_of_le hb h.size) (fun e => by rcases e with e | e; exact hF e; omega)).trans (h.block b hb hF)⟩
theorem Frame.mono {F G : Nat → Prop} {W W' : World} (h : Frame F W W') (hs : ∀ b, F b → G b) : Frame G W W' := ⟨h.os, h.tape, h.output, h.size, fun b hb hG => h.block b hb (fun e => hG (hs b e))⟩
theorem no_any (p : Option Addr) (w : World) (c : Bool) (hc : (p = none ∧ c = true) ∨ ∃ a r n, p = some ⟨a, 0, none⟩ ∧ w.heap[a]? = some (.cells #[.pointer r, .int .i64 n] 40 (0, 0)) ∧ c = r.isNone) :
    Calls Tryd.prog 19 #[.pointer p] w fun e w' => e = .returned (.bool c) ∧ w' = w := by
  obtain ⟨PP, hPP⟩ : ∃ PP : Ending → World → Prop, (fun e w' => e = .returned (.bool c) ∧ w' = w) = PP := ⟨_, rfl⟩
  rw [hPP]
  have HPP := Lib.hid hPP
  clear hPP
  rcases hc with ⟨rfl, rfl⟩ | ⟨a, r, n, rfl, hb, rfl⟩
  · go_enter Tryd.func19, Tryd.ntmps19
    go_wp2_with fail
    rw [← HPP.out]
    exact ⟨rfl, rfl⟩
  · have c0 : w.cell? ⟨a, 0, none⟩ = some (.pointer r) := by rw [cell_of_row w a 0 _ _ _ hb]; rfl
    have hl := (Array.getElem?_eq_some_iff.1 hb).1
    cases r with
    | none =>
      go_enter Tryd.func19, Tryd.ntmps19
      go_wp2_with fail
      rw [← HPP.out]
      exact ⟨rfl, rfl⟩
    | some r =>
      go_enter Tryd.func19, Tryd.ntmps19
      go_wp2_with fail
      rw [← HPP.out]
      exact ⟨rfl, rfl⟩
/-- a new node lies in two new blocks -/
def newW (w : World) : World := (w.alloc (.map #[] 0)).alloc (.cells #[.slice none 0 0, .map (some w.heap.size)] 54)
theorem newNode_any (w : World) : Calls Tryd.prog 22 #[] w fun e w' => e = .returned (.pointer (some ⟨w.heap.size + 1, 0, none⟩)) ∧ w' = newW w := by
  obtain ⟨PP, hPP⟩ : ∃ PP : Ending → World → Prop, (fun e w' => e = .returned (.pointer (some ⟨w.heap.size + 1, 0, none⟩)) ∧ w' = newW w) = PP := ⟨_, rfl⟩
  rw [hPP]
  have HPP := Lib.hid hPP
  clear hPP
  have mk : ∀ w, (Instr.makeMap 52 none).run Tryd.prog w = .ok (.map (some w.heap.size)) (w.alloc (.map #[] 0)) := fun _ => rfl
  go_enter Tryd.func22, Tryd.ntmps22
  go_wp2_with fail
  rw [← HPP.out]
  exact ⟨rfl, rfl⟩
def newNd (w : World) (p : List ByteArray) : Nd := ⟨p, w.heap.size + 1, w.heap.size, .slice none 0 0, [], .map []⟩
theorem newNd_is (w : World) (p : List ByteArray) (base sz : Nat) (hb : base ≤ w.heap.size) : NdIs (newW w) base sz (newNd w p) := by
  refine ⟨?_, ?_, IRow.nil _ _, by show base ≤ w.heap.size + 1; omega, hb⟩
  · have h := heap_alloc_new (w.alloc (.map #[] 0)) (.cells #[.slice none 0 0, .map (some w.heap.size)] 54)
    rw [World.size_alloc] at h
    exact h
  · have h := ((World.ownsMap_made w Tryd.prog 9 ptrR).alloc (.cells #[.slice none 0 0, .map (some w.heap.size)] 54)).mono (Nat.zero_le sz)
    exact h
theorem newW_below (w : World) : Below w.heap.size w (newW w) := ((Below.refl _ _).alloc (Nat.le_refl _) _).alloc (by simp) _
def PutPost (w : World) (base sz : Nat) (x : Nd) (id : Int) (r : Ending) (w' : World) : Prop :=
  ∃ v', r = .returned (.bool (decide (id ∉ x.ids))) ∧ NdIs w' base sz { x with v := v', ids := putL (· < ·) x.ids id } ∧ Frame (fun b => b = x.a ∨ x.v.ownBlock = some b) w w' ∧ (v'.ownBlock = x.v.ownBlock ∨ ∃ g, v'.ownBlock = some g ∧ w.heap.size ≤ g)
theorem row_node {W : World} {base a : Nat} {v : Value} {zs : List Int} {cs : Array Value} (h : IRow W base v zs) (hb : W.heap[a]? = some (.cells cs 54 (0, 0))) : v.ownBlock ≠ some a := by
  rcases h.form with ⟨rfl, -⟩ | ⟨g, cap, cur, rfl, -, -, hg, -⟩
  · intro e; cases e
  · intro e
    injection e with e
    subst e
    rw [hb] at hg
    injection hg with hg
    injection hg with _ h2
    exact absurd h2 (by decide)
theorem map_node {W : World} {a m sz : Nat} {D : DataW Unit} {cs : Array Value} (h : W.ownsMap Tryd.prog 9 ptrR m sz D) (hb : W.heap[a]? = some (.cells cs 54 (0, 0))) : m ≠ a := by
  obtain ⟨es, clock, h1, -⟩ := h
  rintro rfl
  rw [hb] at h1
  cases h1
theorem map_row {W : World} {base m sz : Nat} {D : DataW Unit} {v : Value} {zs : List Int} (h : W.ownsMap Tryd.prog 9 ptrR m sz D) (hr : IRow W base v zs) : v.ownBlock ≠ some m := by
  obtain ⟨es, clock, h1, -⟩ := h
  rcases hr.form with ⟨rfl, -⟩ | ⟨g, cap, cur, rfl, -, -, hg, -⟩
  · intro e; cases e
  · intro e
    injection e with e
    subst e
    rw [hg] at h1
    cases h1
theorem put_any (w : World) (base sz : Nat) (x : Nd) (id : Int) (h : NdIs w base sz x) (hs : x.ids.Pairwise (· < ·)) (hn : x.ids.length ≤ 100000000) (hb : base ≤ w.heap.size) :
    Calls Tryd.prog 23 #[.pointer (some ⟨x.a, 0, none⟩), .int .i64 id] w (PutPost w base sz x id) := by
  obtain ⟨PP, hPP⟩ : ∃ PP, PutPost w base sz x id = PP := ⟨_, rfl⟩
  rw [hPP]
  have HPP := Lib.hid hPP
  obtain ⟨path, a, m, v, ids, D⟩ := x
  have HX := Lib.hid h
  have HR : Hid (IRow w base v ids) := h.row
  have hbox : w.heap[a]? = some (.cells #[v, .map (some m)] 54 (0, 0)) := h.box
  have hna := row_node HR.out hbox
  have c0 : w.cell? ⟨a, 0, none⟩ = some v := by rw [cell_of_row w a 0 _ _ _ hbox]; rfl
  have hf := frozen_of_row w a 0 _ _ hbox
  have hl := (Array.getElem?_eq_some_iff.1 hbox).1
  have SC := Lib.hid (search_any v ids id base w HR.out hs (by simp only at hn; omega))
  obtain ⟨q, n, c, rfl⟩ : ∃ q n c, v = .slice q n c := by
    rcases HR.out.form with ⟨rfl, -⟩ | ⟨g, cap, cur, rfl, -⟩
    · exact ⟨_, _, _, rfl⟩
    · exact ⟨_, _, _, rfl⟩
  have HNA := Lib.hid hna
  have HBX := Lib.hid hbox
  have HS := Lib.hid hs
  have HN := Lib.hid hn
  clear hPP h hbox hna hs hn
  by_cases hm : id ∈ ids
  · have hd : decide (id ∈ ids) = true := decide_eq_true hm
    rw [hd] at SC
    have HM := Lib.hid hm
    clear hm hd
    go_enter Tryd.func23, Tryd.ntmps23
    go_wp2_with fail
    refine SC.out.mono ?_
    rintro e w1 ⟨rfl, q1, rfl⟩
    go_wp2_with fail
    rw [← HPP.out]
    refine ⟨.slice q n c, ?_, ?_, Frame.of_grown (row := none) ⟨rfl, rfl, rfl, Nat.le_refl _, fun _ _ _ => rfl⟩ (fun b e => by cases e), .inl rfl⟩
    · rw [decide_eq_false (fun h => h HM.out)]; rfl
    · have e : putL (· < ·) ids id = ids := by unfold putL; rw [if_pos HM.out]
      simp only [e]
      exact HX.out.kept fun _ _ => rfl
  · have hd : decide (id ∈ ids) = false := decide_eq_false hm
    rw [hd] at SC
    have HM := Lib.hid hm
    clear hm hd
    go_enter Tryd.func23, Tryd.ntmps23
    go_wp2_with fail
    refine SC.out.mono ?_
    rintro e w1 ⟨rfl, q1, rfl⟩
    have CI : Hid (Calls Tryd.prog 41 #[.slice q n c, .int .i64 (cntL (· < ·) ids id : Nat), .slice (some ⟨w.heap.size, 0, none⟩) 1 1] ((w.drewN q1).alloc (.cells #[.int .i64 id] 3)) fun e w' => ∃ v', e = .returned v' ∧ IRow w' base v' (ids.take (cntL (· < ·) ids id) ++ id :: ids.drop (cntL (· < ·) ids id)) ∧ ((w.drewN q1).alloc (.cells #[.int .i64 id] 3)).grownBy w' (Value.slice q n c).ownBlock ∧ (v'.ownBlock = (Value.slice q n c).ownBlock ∨ ∃ g, v'.ownBlock = some g ∧ ((w.drewN q1).alloc (.cells #[.int .i64 id] 3)).heap.size ≤ g)) :=
      insert_any _ base _ ids (cntL (· < ·) ids id) id w.heap.size (World.ownsRow.alloc HR.out _) (cntL_le _ _) (by have h9 : ids.length ≤ 100000000 := HN.out; omega) (heap_alloc_new (w.drewN q1) _) (fun e => by have := (HR.out.lt _ e).2; omega) (by rw [World.size_alloc]; exact Nat.le_succ_of_le hb)
    go_wp2_with fail
    refine CI.out.mono ?_
    rintro e w2 ⟨v', rfl, hr2, hg2, hv2⟩
    obtain ⟨q2, n2, c2, rfl⟩ : ∃ q n c, v' = .slice q n c := by
      rcases hr2.form with ⟨rfl, -⟩ | ⟨g, cap, cur, rfl, -⟩
      · exact ⟨_, _, _, rfl⟩
      · exact ⟨_, _, _, rfl⟩
    have HR2 := Lib.hid hr2
    have HG2 := Lib.hid hg2
    have HV2 := Lib.hid hv2
    have hb2 : w2.heap[a]? = some (.cells #[.slice q n c, .map (some m)] 54 (0, 0)) := (hg2.block a (by rw [World.size_alloc]; exact Nat.lt_succ_of_lt hl) (fun e => HNA.out e.symm)).trans ((Below.heap_alloc (w.drewN q1) _ a hl).trans HBX.out)
    have hf2 := frozen_of_row w2 a 0 _ _ hb2
    have k2 : w2.cell? ⟨a, 0, none⟩ = some (.slice q n c) := by rw [cell_of_row w2 a 0 _ _ _ hb2]; rfl
    have hl2 := (Array.getElem?_eq_some_iff.1 hb2).1
    have HB2 := Lib.hid hb2
    clear hr2 hg2 hv2 hb2
    go_wp2_with fail
    rw [← HPP.out]
    have e : putL (· < ·) ids id = ids.take (cntL (· < ·) ids id) ++ id :: ids.drop (cntL (· < ·) ids id) := by unfold putL; rw [if_neg HM.out]; rfl
    have hvn : (Value.slice q2 n2 c2).ownBlock ≠ some a := by
      rcases HV2.out with h1 | ⟨g, h1, h2⟩
      · rw [h1]; exact HNA.out
      · rw [h1]; intro e; injection e with e; simp at h2; omega
    refine ⟨.slice q2 n2 c2, by rw [decide_eq_true HM.out]; rfl, ⟨?_, ?_, ?_, HX.out.ba, HX.out.bm⟩, ?_, ?_⟩
    · exact heap_setCell_same w2 a 0 _ _ _ HB2.out
    · have h1 := HX.out.map
      have hma := map_node h1 HBX.out
      obtain ⟨es, clock, h2, h3⟩ := h1
      refine ⟨es, clock, ?_, h3⟩
      have hml : m < w.heap.size := (Array.getElem?_eq_some_iff.1 h2).1
      exact (Below.heap_setCell w2 ⟨a, 0, none⟩ _ m hma).trans ((HG2.out.block m (by rw [World.size_alloc]; exact Nat.lt_succ_of_lt hml) (fun e => map_row ⟨es, clock, h2, h3⟩ HR.out e.symm)).trans ((Below.heap_alloc (w.drewN q1) _ m hml).trans h2))
    · simp only [e]
      exact ownsRow_setCell_other HR2.out hvn _
    · refine ⟨HG2.out.os, HG2.out.tape, HG2.out.output, ?_, fun b hb1 hF => ?_⟩
      · have h1 := HG2.out.size
        simp [World.setCell] at h1 ⊢
        omega
      · exact (Below.heap_setCell w2 ⟨a, 0, none⟩ _ b (fun e => hF (.inl e))).trans ((HG2.out.block b (by rw [World.size_alloc]; exact Nat.lt_succ_of_lt hb1) (fun e => hF (.inr e.symm))).trans (Below.heap_alloc (w.drewN q1) _ b hb1))
    · rcases HV2.out with h1 | ⟨g, h1, h2⟩
      · exact .inl h1
      · exact .inr ⟨g, h1, by simp at h2; omega⟩
end Go.Proofs.YtflomcbclofbaaaDoor
