/- TRIE: place.take, idle. -/
import Derived.Test.YtflomcbclofbaaaDoorTrieUnder
namespace Go.Proofs.YtflomcbclofbaaaDoor
open Go Go.RowKit
attribute [local go_sem ↓] Go.wp_at_zero Go.wp_at_succ

def outL (ids : List Int) (id : Int) : List Int := if id ∈ ids then delL (· < ·) ids id else ids
theorem outL_mem {ids : List Int} (h : ids.Pairwise (· < ·)) (id z : Int) : z ∈ outL ids id ↔ z ∈ ids ∧ z ≠ id := by
  unfold outL
  split
  · rename_i hm
    exact (delL_spec ord_int h hm).2.2.1 z
  · rename_i hm
    exact ⟨fun hz => ⟨hz, fun e => hm (e ▸ hz)⟩, fun hz => hz.1⟩
theorem outL_sorted {ids : List Int} (h : ids.Pairwise (· < ·)) (id : Int) : (outL ids id).Pairwise (· < ·) := by
  unfold outL
  split
  · rename_i hm
    exact (delL_spec ord_int h hm).2.1
  · exact h
theorem outL_len {ids : List Int} (h : ids.Pairwise (· < ·)) (id : Int) : (outL ids id).length ≤ ids.length := by
  unfold outL
  split
  · rename_i hm
    have := (delL_spec ord_int h hm).2.2.2
    omega
  · exact Nat.le_refl _
def TakeP (w : World) (base sz : Nat) (x : Nd) (id : Int) (r : Ending) (w' : World) : Prop :=
  ∃ v', r = .returned (.bool (decide (id ∈ x.ids))) ∧ NdIs w' base sz { x with v := v', ids := outL x.ids id } ∧ Frame (fun b => b = x.a ∨ x.v.ownBlock = some b) w w' ∧ v'.ownBlock = x.v.ownBlock
theorem ptake_any (w : World) (base sz : Nat) (x : Nd) (id : Int) (h : NdIs w base sz x) (hs : x.ids.Pairwise (· < ·)) (hn : x.ids.length ≤ 100000000) :
    Calls Tryd.prog 48 #[.pointer (some ⟨x.a, 0, none⟩), .int .i64 id] w (TakeP w base sz x id) := by
  obtain ⟨PP, hPP⟩ : ∃ PP, TakeP w base sz x id = PP := ⟨_, rfl⟩
  rw [hPP]
  have HPP := Lib.hid hPP
  obtain ⟨path, a, m, v, ids, D⟩ := x
  have HX := Lib.hid h
  have HR : Hid (IRow w base v ids) := h.row
  have hbox : w.heap[a]? = some (.cells #[v, .map (some m)] 54 (0, 0)) := h.box
  have hna := row_node HR.out hbox
  have c0 : w.cell? ⟨a, 0, none⟩ = some v := by rw [cell_of_row w a 0 _ _ _ hbox]; rfl
  have hf := frozen_of_row w a 0 _ _ hbox
  have hl := (Array.getElem?_eq_some_iff.1 hbox).1
  have SC := Lib.hid (search_any v ids id base w HR.out hs (by simp only at hn; omega))
  obtain ⟨q, c, rfl⟩ := HR.out.slice
  have HNA := Lib.hid hna
  have HBX := Lib.hid hbox
  have HS := Lib.hid hs
  have HN := Lib.hid hn
  clear hPP h hbox hna hs hn
  by_cases hm : id ∈ ids
  · have hd : decide (id ∈ ids) = true := decide_eq_true hm
    rw [hd] at SC
    have hsp := delL_spec ord_int HS.out hm
    have hk : cntL (· < ·) ids id < ids.length := (List.getElem?_eq_some_iff.1 hsp.1).1
    have hkI : (cntL (· < ·) ids id : Int) + 1 ≤ 9223372036854775807 := by have h9 : ids.length ≤ 100000000 := HN.out; omega
    have HM := Lib.hid hm
    have HSP := Lib.hid hsp
    have CD : Hid (∀ q1, Calls Tryd.prog 70 #[.slice q ids.length c, .int .i64 (cntL (· < ·) ids id : Nat), .int .i64 ((cntL (· < ·) ids id : Int) + 1)] (w.drewN q1) fun e w' => ∃ v', e = .returned v' ∧ IRow w' base v' (ids.take (cntL (· < ·) ids id) ++ ids.drop (cntL (· < ·) ids id + 1)) ∧ (w.drewN q1).grownBy w' (Value.slice q ids.length c).ownBlock ∧ v'.ownBlock = (Value.slice q ids.length c).ownBlock) :=
      fun q1 => by simpa using delete_any (w.drewN q1) base _ ids (cntL (· < ·) ids id) HR.out hk
    clear hm hd hsp
    go_enter Tryd.func48, Tryd.ntmps48
    go_wp2_with fail
    refine SC.out.mono ?_
    rintro e w1 ⟨rfl, q1, rfl⟩
    go_wp2_with fail
    refine (CD.out q1).mono ?_
    rintro e w2 ⟨v', rfl, hr2, hg2, hv2⟩
    have hlen : (ids.take (cntL (· < ·) ids id) ++ ids.drop (cntL (· < ·) ids id + 1)) = outL ids id := by unfold outL; rw [if_pos HM.out]; rfl
    rw [hlen] at hr2
    obtain ⟨q2, c2, rfl⟩ := IRow.slice hr2
    have HR2 := Lib.hid hr2
    have HG2 := Lib.hid hg2
    have HV2 := Lib.hid hv2
    have hb2 : w2.heap[a]? = some (.cells #[.slice q ids.length c, .map (some m)] 54 (0, 0)) := (hg2.block a hl (fun e => HNA.out e.symm)).trans HBX.out
    have hf2 := frozen_of_row w2 a 0 _ _ hb2
    have k2 : w2.cell? ⟨a, 0, none⟩ = some (.slice q ids.length c) := by rw [cell_of_row w2 a 0 _ _ _ hb2]; rfl
    have hl2 := (Array.getElem?_eq_some_iff.1 hb2).1
    have HB2 := Lib.hid hb2
    clear hr2 hg2 hv2 hb2 hlen
    go_wp2_with fail
    rw [← HPP.out]
    have hvn : (Value.slice q2 (outL ids id).length c2).ownBlock ≠ some a := by rw [HV2.out]; exact HNA.out
    refine ⟨.slice q2 (outL ids id).length c2, by rw [decide_eq_true HM.out]; rfl, ⟨?_, ?_, ?_, HX.out.ba, HX.out.bm⟩, ?_, HV2.out⟩
    · exact heap_setCell_same w2 a 0 _ _ _ HB2.out
    · have h1 := HX.out.map
      have hma := map_node h1 HBX.out
      obtain ⟨es, clock, h2, h3⟩ := h1
      refine ⟨es, clock, ?_, h3⟩
      have hml : m < w.heap.size := (Array.getElem?_eq_some_iff.1 h2).1
      exact (Below.heap_setCell w2 ⟨a, 0, none⟩ _ m hma).trans ((HG2.out.block m hml (fun e => map_row ⟨es, clock, h2, h3⟩ HR.out e.symm)).trans h2)
    · exact ownsRow_setCell_other HR2.out hvn _
    · refine ⟨HG2.out.os, HG2.out.tape, HG2.out.output, ?_, fun b hb1 hF => ?_⟩
      · have h1 := HG2.out.size
        simp [World.setCell] at h1 ⊢
        omega
      · exact (Below.heap_setCell w2 ⟨a, 0, none⟩ _ b (fun e => hF (.inl e))).trans (HG2.out.block b hb1 (fun e => hF (.inr e.symm)))
  · have hd : decide (id ∈ ids) = false := decide_eq_false hm
    rw [hd] at SC
    have HM := Lib.hid hm
    clear hm hd
    go_enter Tryd.func48, Tryd.ntmps48
    go_wp2_with fail
    refine SC.out.mono ?_
    rintro e w1 ⟨rfl, q1, rfl⟩
    go_wp2_with fail
    rw [← HPP.out]
    refine ⟨.slice q ids.length c, ?_, ?_, Frame.of_grown (row := none) ⟨rfl, rfl, rfl, Nat.le_refl _, fun _ _ _ => rfl⟩ (fun b e => by cases e), rfl⟩
    · rw [decide_eq_false (fun h => HM.out h)]; rfl
    · have e : outL ids id = ids := by unfold outL; rw [if_neg HM.out]
      simp only [e]
      exact HX.out.kept fun _ _ => rfl
/-- a map without an entry has no kid, and the other way round -/
theorem size_kids {W : World} {base sz : Nat} {x : Nd} (h : NdIs W base sz x) : Maps.size x.D = 0 ↔ ∀ s, kid x.D s = none := by
  constructor
  · intro h0 s
    obtain ⟨es, hD, hp, hk⟩ := h.map.entries string_keys
    rw [hD, Maps.size_eq] at h0
    have := List.eq_nil_of_length_eq_zero h0
    subst this
    rw [hD]
    rfl
  · intro hall
    obtain ⟨es, clock, hb, F, _, hD⟩ := h.map
    have hl : es.toList = [] := by
      cases he : es.toList with
      | nil => rfl
      | cons e rest =>
        exfalso
        have hm : e ∈ es.toList := by rw [he]; exact List.mem_cons_self ..
        obtain ⟨y, hy⟩ := F.reads e hm
        have hkey := WideElems.rd_key hy
        obtain ⟨s, hs⟩ := Maps.keyOf_string_inv Tryd.underlying9 hkey
        have hk1 : y.1 = .string s.data.toList := by
          rw [hs] at hkey
          simp [keyOf, mapKey, Tryd.underlying9] at hkey
          exact hkey.2.symm
        rw [hk1] at hkey
        rcases Maps.fit_look (w := W) (z := .pointer none) false string_keys Tryd.underlying52 (by kernel_rfl) hb F hkey with ⟨_, h1, _⟩ | ⟨e0, y0, _, _, _, hRv, hat, _⟩
        · exact h1 e hm rfl
        · obtain ⟨b, hv, rfl⟩ := ptrR_inv hRv
          have := hall s
          rw [hD, kid_some (hat noD)] at this
          cases this
    rw [hD, hl]
    rfl
theorem idle_any (w : World) (base sz : Nat) (x : Nd) (h : NdIs w base sz x) :
    Calls Tryd.prog 50 #[.pointer (some ⟨x.a, 0, none⟩)] w fun e w' => e = .returned (.bool (decide (x.ids.length = 0) && decide (Maps.size x.D = 0))) ∧ w' = w := by
  obtain ⟨PP, hPP⟩ : ∃ PP : Ending → World → Prop, (fun e w' => e = .returned (.bool (decide (x.ids.length = 0) && decide (Maps.size x.D = 0))) ∧ w' = w) = PP := ⟨_, rfl⟩
  rw [hPP]
  have HPP := Lib.hid hPP
  have hrow : IRow w base x.v x.ids := h.row
  obtain ⟨q, c, hv⟩ := hrow.slice
  have c0 : w.cell? ⟨x.a, 0, none⟩ = some (.slice q x.ids.length c) := by rw [cell_of_row w x.a 0 _ _ _ h.box, ← hv]; rfl
  have c1 : w.cell? ⟨x.a, 1, none⟩ = some (.map (some x.m)) := by rw [cell_of_row w x.a 1 _ _ _ h.box]; rfl
  have hl := (Array.getElem?_eq_some_iff.1 h.box).1
  have hlen := fun ty => h.map.len Tryd.underlying52 ty
  clear hPP h hrow hv
  by_cases h0 : x.ids.length = 0
  · rw [h0] at c0
    have H0 := Lib.hid h0
    clear h0
    go_enter Tryd.func50, Tryd.ntmps50
    go_wp2_with fail
    rw [← HPP.out]
    refine ⟨?_, rfl⟩
    have e : ((Maps.size x.D : Int) == 0) = (decide (x.ids.length = 0) && decide (Maps.size x.D = 0)) := by
      rw [decide_eq_true H0.out, Bool.true_and, Bool.eq_iff_iff, beq_iff_eq, decide_eq_true_eq]
      omega
    exact congrArg (fun c => Ending.returned (.bool c)) e
  · have h0I : ((x.ids.length : Int) == 0) = false := by rw [beq_eq_false_iff_ne]; omega
    have H0 := Lib.hid h0
    clear h0
    go_enter Tryd.func50, Tryd.ntmps50
    go_wp2_with fail
    rw [← HPP.out]
    refine ⟨?_, rfl⟩
    rw [decide_eq_false H0.out]
    rfl
end Go.Proofs.YtflomcbclofbaaaDoor
