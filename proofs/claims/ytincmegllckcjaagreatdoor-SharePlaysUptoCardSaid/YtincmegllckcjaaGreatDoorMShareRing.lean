/- SHARE: a group in memory: a ring of members, and who they are. SHARE: newGroup, behind. SHARE: a member is put at the ring's end: in memory. -/
import Derived.Test.YtincmegllckcjaaGreatDoorMShareSplitR
import Derived.BigRegion
import Derived.LaidEqlPtr
namespace Go.Proofs.YtincmegllckcjaaGreatDoor
section
open Go Go.RowKit

def ptr (b : Nat) : Value := .pointer (some ⟨b, 0, none⟩)
def ring (gb : Nat) (ms : List Nat) : List Nat := gb :: (ms ++ [gb])
def kidI (D : DataW Unit) (z : Int) : Option Nat := match D.atKey (.int .i64 z) noD with
  | .lit (.int .u64 n) => some n.toNat
  | _ => none
theorem kidI_some {D : DataW Unit} {z : Int} {b : Nat} (h : D.atKey (.int .i64 z) noD = kidD b) : kidI D z = some b := by unfold kidI; rw [h]; rfl
theorem kidI_none {D : DataW Unit} {z : Int} (h : D.atKey (.int .i64 z) noD = noD) : kidI D z = none := by unfold kidI; rw [h]; rfl
theorem kidI_put_same {D : DataW Unit} (hD : Maps.IsMap D) (z : Int) (b : Nat) : kidI (D.put (.int .i64 z) (kidD b)) z = some b := kidI_some (Maps.atKey_put_same hD (show WideAt.IsKeyLit (.int .i64 z) from trivial) _ _)
theorem kidI_put_other {D : DataW Unit} {y z : Int} (h : y ≠ z) (b : Nat) : kidI (D.put (.int .i64 z) (kidD b)) y = kidI D y := by
  unfold kidI
  rw [Maps.atKey_put_other (fun e => h (by injection e))]
theorem kidI_del_same {D : DataW Unit} (z : Int) : kidI (D.del (.int .i64 z)) z = none := kidI_none (Maps.atKey_del_same _)
theorem kidI_del_other {D : DataW Unit} {y z : Int} (h : y ≠ z) : kidI (D.del (.int .i64 z)) y = kidI D y := by
  unfold kidI
  rw [Maps.atKey_del_other (fun e => h (by injection e))]
structure Grp where
  gb : Nat
  mb : Nat
  fil : ByteArray
  ids : List Int
  ms : List Nat
  tn : Nat
  D : DataW Unit
def Grp.blocks (g : Grp) : List Nat := g.gb :: g.mb :: g.ms
structure GrpIs (W : World) (base : Nat) (g : Grp) : Prop where
  box : ∃ p n tp, W.heap[g.gb]? = some (.cells #[p, n, .int .i64 0, tp, .map (some g.mb), .string g.fil] 77 (0, 0)) ∧ ∃ q, tp = .pointer q ∧ (g.ids ≠ [] → ∃ b, g.ms[g.tn]? = some b ∧ q = some ⟨b, 0, none⟩)
  mem : ∀ (j : Nat) b id, g.ms[j]? = some b → g.ids[j]? = some id → ∃ p n, W.heap[b]? = some (.cells #[p, n, .int .i64 id] 74 (0, 0))
  link : ∀ (j a b : Nat), (ring g.gb g.ms)[j]? = some a → (ring g.gb g.ms)[j + 1]? = some b → W.cell? ⟨a, 1, none⟩ = some (ptr b) ∧ W.cell? ⟨b, 0, none⟩ = some (ptr a)
  len : g.ids.length = g.ms.length
  idn : g.ids.Nodup
  bn : g.blocks.Nodup
  map : W.ownsMap Tryz.prog 3 ptrR g.mb 256 g.D
  sz : Maps.size g.D = g.ids.length
  by_ : ∀ id b, kidI g.D id = some b ↔ ∃ j : Nat, g.ids[j]? = some id ∧ g.ms[j]? = some b
  wf : ∀ id ∈ g.ids, (Lit.int .i64 id).wf = true
  few : g.ids.length ≤ 256
  lo : ∀ b ∈ g.blocks, base ≤ b
section
variable {W W' : World} {base : Nat} {g : Grp}
theorem GrpIs.memB (h : GrpIs W base g) {b : Nat} (hb : b ∈ g.ms) : ∃ id p n, W.heap[b]? = some (.cells #[p, n, .int .i64 id] 74 (0, 0)) := by
  obtain ⟨j, hj, e⟩ := List.getElem_of_mem hb
  obtain ⟨p, n, h1⟩ := h.mem j b (g.ids[j]'(by rw [h.len]; exact hj)) (by rw [List.getElem?_eq_getElem hj, e]) (List.getElem?_eq_getElem _)
  exact ⟨_, p, n, h1⟩
theorem GrpIs.lt (h : GrpIs W base g) {b : Nat} (hb : b ∈ g.blocks) : b < W.heap.size := by
  unfold Grp.blocks at hb
  rcases List.mem_cons.1 hb with rfl | hb
  · obtain ⟨p, n, tp, h1, -⟩ := h.box
    exact (Array.getElem?_eq_some_iff.1 h1).1
  rcases List.mem_cons.1 hb with rfl | hb
  · exact h.map.lt
  · obtain ⟨id, p, n, h1⟩ := h.memB hb
    exact (Array.getElem?_eq_some_iff.1 h1).1
theorem ring_mem {gb : Nat} {ms : List Nat} {j a : Nat} (h : (ring gb ms)[j]? = some a) : a = gb ∨ a ∈ ms := by
  have := List.mem_of_getElem? h
  unfold ring at this
  simp only [List.mem_cons, List.mem_append, List.not_mem_nil, or_false] at this
  rcases this with h | h | h
  · exact .inl h
  · exact .inr h
  · exact .inl h
theorem GrpIs.ringB {j a : Nat} (h : (ring g.gb g.ms)[j]? = some a) : a ∈ g.blocks := by
  unfold Grp.blocks
  rcases ring_mem h with rfl | h
  · exact List.mem_cons_self ..
  · exact List.mem_cons_of_mem _ (List.mem_cons_of_mem _ h)
theorem GrpIs.kept (h : GrpIs W base g) (hk : ∀ b ∈ g.blocks, W'.heap[b]? = W.heap[b]?) : GrpIs W' base g := by
  refine ⟨?_, fun j b id h1 h2 => ?_, fun j a b h1 h2 => ?_, h.len, h.idn, h.bn, ?_, h.sz, h.by_, h.wf, h.few, h.lo⟩
  · obtain ⟨p, n, tp, h1, h2⟩ := h.box
    exact ⟨p, n, tp, (hk _ (by simp [Grp.blocks])).trans h1, h2⟩
  · obtain ⟨p, n, h3⟩ := h.mem j b id h1 h2
    exact ⟨p, n, (hk b (by unfold Grp.blocks; exact List.mem_cons_of_mem _ (List.mem_cons_of_mem _ (List.mem_of_getElem? h1)))).trans h3⟩
  · obtain ⟨h3, h4⟩ := h.link j a b h1 h2
    exact ⟨(World.cell?_of_block (a := ⟨a, 1, none⟩) (hk a (GrpIs.ringB h1))).trans h3, (World.cell?_of_block (a := ⟨b, 0, none⟩) (hk b (GrpIs.ringB h2))).trans h4⟩
  · obtain ⟨es, clock, hb, r⟩ := h.map
    exact ⟨es, clock, (hk _ (by simp [Grp.blocks])).trans hb, r⟩
theorem GrpIs.below (h : GrpIs W base g) (hb : Below W.heap.size W W') : GrpIs W' base g := h.kept fun b hm => hb.block b (h.lt hm)
/-- the box's cells -/
theorem GrpIs.cells (h : GrpIs W base g) : (∃ q, W.cell? ⟨g.gb, 3, none⟩ = some (.pointer q) ∧ (g.ids ≠ [] → ∃ b, g.ms[g.tn]? = some b ∧ q = some ⟨b, 0, none⟩)) ∧ W.cell? ⟨g.gb, 4, none⟩ = some (.map (some g.mb)) ∧ W.cell? ⟨g.gb, 5, none⟩ = some (.string g.fil) := by
  obtain ⟨p, n, tp, h1, q, rfl, h2⟩ := h.box
  refine ⟨⟨q, ?_, h2⟩, ?_, ?_⟩ <;> (rw [cell_of_row _ _ _ _ _ _ h1]; rfl)
theorem ring_len (gb : Nat) (ms : List Nat) : (ring gb ms).length = ms.length + 2 := by unfold ring; simp
theorem ring_first (gb : Nat) (ms : List Nat) : (ring gb ms)[0]? = some gb := rfl
theorem ring_last (gb : Nat) (ms : List Nat) : (ring gb ms)[ms.length + 1]? = some gb := by
  unfold ring
  rw [List.getElem?_cons_succ, List.getElem?_append_right (Nat.le_refl _), Nat.sub_self]; rfl
theorem ring_at (gb : Nat) (ms : List Nat) {j : Nat} (hj : j < ms.length) : (ring gb ms)[j + 1]? = ms[j]? := by
  unfold ring
  rw [List.getElem?_cons_succ, List.getElem?_append_left hj]
theorem ring_some (gb : Nat) (ms : List Nat) {j : Nat} (hj : j < ms.length + 2) : ∃ a, (ring gb ms)[j]? = some a := ⟨_, List.getElem?_eq_getElem (by rw [ring_len]; exact hj)⟩
/-- its first part is without repetition, its last part too -/
theorem ring_one (h : g.blocks.Nodup) {j k a : Nat} (hj : j ≤ g.ms.length) (hk : k ≤ g.ms.length) (h1 : (ring g.gb g.ms)[j]? = some a) (h2 : (ring g.gb g.ms)[k]? = some a) : j = k := by
  have hn : (g.gb :: g.ms).Nodup := by
    unfold Grp.blocks at h
    rw [List.nodup_cons] at h ⊢
    exact ⟨fun e => h.1 (List.mem_cons_of_mem _ e), (List.nodup_cons.1 h.2).2⟩
  have e : ∀ i, i ≤ g.ms.length → (ring g.gb g.ms)[i]? = (g.gb :: g.ms)[i]? := fun i hi => by
    unfold ring
    cases i with
    | zero => rfl
    | succ i => rw [List.getElem?_cons_succ, List.getElem?_cons_succ, List.getElem?_append_left (by omega)]
  rw [e j hj] at h1
  rw [e k hk] at h2
  exact (List.getElem?_inj (by simp; omega) hn).1 (h1.trans h2.symm)
theorem ring_one' (h : g.blocks.Nodup) {j k a : Nat} (hj : 0 < j) (hk : 0 < k) (hj2 : j ≤ g.ms.length + 1) (h1 : (ring g.gb g.ms)[j]? = some a) (h2 : (ring g.gb g.ms)[k]? = some a) : j = k := by
  have hn : (g.ms ++ [g.gb]).Nodup := by
    unfold Grp.blocks at h
    rw [List.nodup_cons] at h
    refine List.nodup_append.2 ⟨(List.nodup_cons.1 h.2).2, List.nodup_cons.2 ⟨List.not_mem_nil, List.nodup_nil⟩, fun x hx y hy e => ?_⟩
    rw [List.mem_singleton] at hy
    subst hy; subst e
    exact h.1 (List.mem_cons_of_mem _ hx)
  obtain ⟨j, rfl⟩ : ∃ i, j = i + 1 := ⟨j - 1, by omega⟩
  obtain ⟨k, rfl⟩ : ∃ i, k = i + 1 := ⟨k - 1, by omega⟩
  unfold ring at h1 h2
  rw [List.getElem?_cons_succ] at h1 h2
  have := (List.getElem?_inj (by simp; omega) hn).1 (h1.trans h2.symm)
  omega
end
end
section
open Go Go.RowKit
attribute [local go_sem ↓] Go.wp_at_zero Go.wp_at_succ

theorem info_member0 : (Tryz.prog.info? 74).map (fun i => i.size) = some 3 := by kernel_rfl
theorem info_member : ∃ j, Tryz.prog.info? 74 = some j ∧ j.size ≠ 0 := by
  obtain ⟨j, h1, h2⟩ := Option.map_eq_some_iff.1 info_member0
  exact ⟨j, h1, by omega⟩
/-- the member behind one, round -/
def nextI (n i : Nat) : Nat := if i + 1 < n then i + 1 else 0
set_option maxRecDepth 100000 in
set_option maxHeartbeats 4000000 in
theorem behind_any (W : World) (base : Nat) (g : Grp) (i b : Nat) (h : GrpIs W base g) (hb : g.ms[i]? = some b) :
    Calls Tryz.prog 30 #[.pointer (some ⟨g.gb, 0, none⟩), .pointer (some ⟨b, 0, none⟩)] W fun e w' => (∃ c, g.ms[nextI g.ms.length i]? = some c ∧ e = .returned (ptr c)) ∧ w' = W := by
  obtain ⟨PP, hPP⟩ : ∃ PP : Ending → World → Prop, (fun e w' => (∃ c, g.ms[nextI g.ms.length i]? = some c ∧ e = .returned (ptr c)) ∧ w' = W) = PP := ⟨_, rfl⟩
  rw [hPP]
  have HPP := Lib.hid hPP
  have hi := (List.getElem?_eq_some_iff.1 hb).1
  obtain ⟨c, hc⟩ := ring_some g.gb g.ms (j := i + 2) (by omega)
  have hl := (h.link (i + 1) b c (by rw [ring_at _ _ hi]; exact hb) hc).1
  have hbl : b < W.heap.size := World.block_lt_of_cell? W _ hl
  by_cases hlast : i + 1 < g.ms.length
  · rw [ring_at _ _ hlast] at hc
    have hne : c ≠ g.gb := fun e => by
      have h1 := h.bn
      unfold Grp.blocks at h1
      exact (List.nodup_cons.1 h1).1 (List.mem_cons_of_mem _ (e ▸ List.mem_of_getElem? hc))
    have HC : Hid (g.ms[nextI g.ms.length i]? = some c) := by unfold nextI; rw [if_pos hlast]; exact hc
    unfold ptr at hl
    obtain ⟨j0, hj0, hj1⟩ : ∃ j, Tryz.prog.info? 74 = some j ∧ j.size ≠ 0 := info_member
    obtain ⟨idc, pc, nc, hbc⟩ := h.memB (List.mem_of_getElem? hc)
    obtain ⟨pg, ng, tg, hbg, -⟩ := h.box
    have he1 := run_eql_ptr_other (P := Tryz.prog) W (tp := 70) (a := ⟨c, 0, none⟩) (b := ⟨g.gb, 0, none⟩) Tryz.underlying70 hj0 hj1 (fun e => hne (by injection e)) hbc hbg
    clear hPP h hb hc hi hlast hj0 hj1 hbc hbg
    go_enter Tryz.func30, Tryz.ntmps30
    go_wp2_with fail
    rw [← HPP.out]
    exact ⟨⟨c, HC.out, rfl⟩, rfl⟩
  · have he : i + 1 = g.ms.length := by omega
    have hcg : c = g.gb := by
      have := ring_last g.gb g.ms
      rw [← he, hc] at this
      injection this
    subst hcg
    obtain ⟨d, hd⟩ : ∃ d, g.ms[0]? = some d := ⟨_, List.getElem?_eq_getElem (by omega)⟩
    have hl2 := (h.link 0 g.gb d (ring_first _ _) (by rw [ring_at _ _ (by omega)]; exact hd)).1
    have hgl : g.gb < W.heap.size := World.block_lt_of_cell? W _ hl2
    have HC : Hid (g.ms[nextI g.ms.length i]? = some d) := by unfold nextI; rw [if_neg hlast]; exact hd
    unfold ptr at hl hl2
    obtain ⟨j0, hj0, -⟩ : ∃ j, Tryz.prog.info? 74 = some j ∧ j.size ≠ 0 := info_member
    have he1 := run_eql_ptr_same (P := Tryz.prog) W (tp := 70) ⟨g.gb, 0, none⟩ Tryz.underlying70 hj0
    clear hPP h hb hc hi hlast he hd hj0
    go_enter Tryz.func30, Tryz.ntmps30
    go_wp2_with fail
    rw [← HPP.out]
    exact ⟨⟨d, HC.out, rfl⟩, rfl⟩
def NewG (w : World) (f : ByteArray) (e : Ending) (w' : World) : Prop := ∃ g : Grp, e = .returned (ptr g.gb) ∧ g.ids = [] ∧ g.fil = f ∧ GrpIs w' w.heap.size g ∧ Below w.heap.size w w'
theorem newGrp_is (w : World) (f : ByteArray) {W : World} (hb : W.heap[w.heap.size + 1]? = some (.cells #[ptr (w.heap.size + 1), ptr (w.heap.size + 1), .int .i64 0, .pointer none, .map (some w.heap.size), .string f] 77 (0, 0))) (hm : W.ownsMap Tryz.prog 3 ptrR w.heap.size 0 (.map [])) :
    GrpIs W w.heap.size ⟨w.heap.size + 1, w.heap.size, f, [], [], 0, .map []⟩ := by
  refine ⟨⟨_, _, _, hb, none, rfl, fun h => absurd rfl h⟩, fun j b id h => by simp at h, fun j a b h1 h2 => ?_, rfl, List.nodup_nil, by unfold Grp.blocks; simp, hm.mono (by omega), rfl, fun id b => ?_, fun id h => by simp at h, by simp, fun b hb => ?_⟩
  · cases j with
    | zero =>
      injection h1 with h1
      injection h2 with h2
      have h1 : w.heap.size + 1 = a := h1
      have h2 : w.heap.size + 1 = b := h2
      subst h1; subst h2
      exact ⟨by rw [cell_of_row _ _ _ _ _ _ hb]; rfl, by rw [cell_of_row _ _ _ _ _ _ hb]; rfl⟩
    | succ j => simp [ring] at h2
  · constructor
    · intro h; cases h
    · rintro ⟨j, h, -⟩; simp at h
  · unfold Grp.blocks at hb
    simp at hb
    rcases hb with rfl | rfl <;> omega
set_option maxRecDepth 100000 in
set_option maxHeartbeats 4000000 in
theorem newGroup_any (w : World) (f : ByteArray) : Calls Tryz.prog 25 #[.string f] w (NewG w f) := by
  obtain ⟨PP, hPP⟩ : ∃ PP : Ending → World → Prop, NewG w f = PP := ⟨_, rfl⟩
  rw [hPP]
  have HPP := Lib.hid hPP
  clear hPP
  have mk : ∀ w, (Instr.makeMap 75 none).run Tryz.prog w = .ok (.map (some w.heap.size)) (w.alloc (.map #[] 0)) := fun _ => rfl
  go_enter Tryz.func25, Tryz.ntmps25
  go_wp2_with fail
  go_region
  go_simp
  go_wp2_with fail
  rw [← HPP.out]
  have hb0 : (((w.alloc (.map #[] 0)).alloc (.cells #[ptr (w.heap.size + 1), ptr (w.heap.size + 1), .int .i64 0, .pointer none, .map (some w.heap.size), .string f] 77)).drew).heap[w.heap.size + 1]? = some (.cells #[ptr (w.heap.size + 1), ptr (w.heap.size + 1), .int .i64 0, .pointer none, .map (some w.heap.size), .string f] 77 (0, 0)) := by
    have h := heap_alloc_new (w.alloc (.map #[] 0)) (.cells #[ptr (w.heap.size + 1), ptr (w.heap.size + 1), .int .i64 0, .pointer none, .map (some w.heap.size), .string f] 77)
    rw [World.size_alloc] at h
    exact h
  refine ⟨⟨w.heap.size + 1, w.heap.size, f, [], [], 0, .map []⟩, rfl, rfl, rfl, newGrp_is w f hb0 ?_, (((Below.refl _ _).alloc (Nat.le_refl _) _).alloc (by simp) _).drew⟩
  obtain ⟨es, clock, hb, r⟩ := (World.ownsMap_made w Tryz.prog 3 ptrR).alloc (.cells #[ptr (w.heap.size + 1), ptr (w.heap.size + 1), .int .i64 0, .pointer none, .map (some w.heap.size), .string f] 77)
  exact ⟨es, clock, hb, r⟩
end
section
open Go Go.RowKit

/-- a look into a group's map of members -/
theorem GrpIs.look {W : World} {base : Nat} {g : Grp} (h : GrpIs W base g) {z : Int} (hz : (Lit.int .i64 z).wf = true) :
    (Instr.lookup 75 (.map (some g.mb)) (.int .i64 z) false).run Tryz.prog W = .ok (.pointer ((kidI g.D z).map fun b => ⟨b, 0, none⟩)) W ∧ (kidI g.D z = none → Maps.has g.D (.int .i64 z) = false) ∧ (∀ b, kidI g.D z = some b → Maps.has g.D (.int .i64 z) = true) := by
  obtain ⟨es, clock, hb, F, _, hD⟩ := h.map
  rw [hD]
  rcases Maps.fit_look (w := W) (z := .pointer none) false (Maps.int_keyed Tryz.underlying3) Tryz.underlying75 (by kernel_rfl) hb F (Maps.keyOf_int_mk Tryz.underlying3 hz) with ⟨hrun, _, hat⟩ | ⟨e0, y, _, _, hrun, hRv, hat, _⟩
  · rw [kidI_none (hat noD)]
    exact ⟨hrun, fun _ => Maps.has_false_of_atKey hat, fun b e => by cases e⟩
  · obtain ⟨b, hv, rfl⟩ := ptrR_inv hRv
    rw [kidI_some (hat noD)]
    rw [hv] at hrun
    exact ⟨hrun, fun e => (by cases e), fun _ _ => Maps.has_true_of_atKey hat⟩
theorem GrpIs.kid_none {W : World} {base : Nat} {g : Grp} (h : GrpIs W base g) {z : Int} : kidI g.D z = none ↔ z ∉ g.ids := by
  constructor
  · intro hk hm
    obtain ⟨j, hj, e⟩ := List.getElem_of_mem hm
    obtain ⟨b, hb⟩ : ∃ b, g.ms[j]? = some b := ⟨_, List.getElem?_eq_getElem (by rw [← h.len]; exact hj)⟩
    have := (h.by_ z b).2 ⟨j, by rw [List.getElem?_eq_getElem hj, e], hb⟩
    rw [hk] at this
    cases this
  · intro hm
    cases hk : kidI g.D z with
    | none => rfl
    | some b =>
      obtain ⟨j, hj, -⟩ := (h.by_ z b).1 hk
      exact absurd (List.mem_of_getElem? hj) hm
theorem set_shape3 {W : World} {b c o : Nat} {x y z v : Value} {ty : TypeId} (h : W.heap[b]? = some (.cells #[x, y, z] ty (0, 0))) (ho : o < 2) : ∃ x' y', (W.setCell ⟨c, o, none⟩ v).heap[b]? = some (.cells #[x', y', z] ty (0, 0)) := by
  by_cases e : c = b
  · subst e
    have := heap_setCell_same W c o _ _ v h
    match o, ho with
    | 0, _ => exact ⟨v, y, this⟩
    | 1, _ => exact ⟨x, v, this⟩
  · exact ⟨x, y, (Below.heap_setCell _ _ _ _ (fun k => e k.symm)).trans h⟩
theorem set_shape6 {W : World} {b c o : Nat} {x y z q m f v : Value} {ty : TypeId} (h : W.heap[b]? = some (.cells #[x, y, z, q, m, f] ty (0, 0))) (ho : o < 2) : ∃ x' y', (W.setCell ⟨c, o, none⟩ v).heap[b]? = some (.cells #[x', y', z, q, m, f] ty (0, 0)) := by
  by_cases e : c = b
  · subst e
    have := heap_setCell_same W c o _ _ v h
    match o, ho with
    | 0, _ => exact ⟨v, y, this⟩
    | 1, _ => exact ⟨x, v, this⟩
  · exact ⟨x, y, (Below.heap_setCell _ _ _ _ (fun k => e k.symm)).trans h⟩
/-- two stores: one at a cell 1, one at a cell 0 -/
def two (W : World) (a b : Nat) (u v : Value) : World := (W.setCell ⟨a, 1, none⟩ u).setCell ⟨b, 0, none⟩ v
theorem two_block {W : World} {a b c : Nat} {u v : Value} (h1 : c ≠ a) (h2 : c ≠ b) : (two W a b u v).heap[c]? = W.heap[c]? :=
  (Below.heap_setCell _ _ _ _ h2).trans (Below.heap_setCell _ _ _ _ h1)
theorem two_one {W : World} {a b : Nat} {u v x : Value} (h : W.cell? ⟨a, 1, none⟩ = some x) : (two W a b u v).cell? ⟨a, 1, none⟩ = some u :=
  (World.cell?_setCell_other _ _ _ _ (fun e => by injection e with _ e; cases e)).trans (World.cell?_setCell_same _ _ _ h)
theorem two_zero {W : World} {a b : Nat} {u v x : Value} (h : W.cell? ⟨b, 0, none⟩ = some x) : (two W a b u v).cell? ⟨b, 0, none⟩ = some v :=
  World.cell?_setCell_same _ _ _ ((World.cell?_setCell_other _ _ _ _ (fun e => by injection e with _ e; cases e)).trans h)
theorem two_other1 {W : World} {a b c : Nat} {u v : Value} (h : c ≠ a) : (two W a b u v).cell? ⟨c, 1, none⟩ = W.cell? ⟨c, 1, none⟩ :=
  (World.cell?_setCell_other _ _ _ _ (fun e => by injection e with _ e; cases e)).trans (World.cell?_setCell_other _ _ _ _ (fun e => h (by injection e with e; exact e.symm)))
theorem two_other0 {W : World} {a b c : Nat} {u v : Value} (h : c ≠ b) : (two W a b u v).cell? ⟨c, 0, none⟩ = W.cell? ⟨c, 0, none⟩ :=
  (World.cell?_setCell_other _ _ _ _ (fun e => h (by injection e with e; exact e.symm))).trans (World.cell?_setCell_other _ _ _ _ (fun e => by injection e with _ e; cases e))
theorem cell_same {W W' : World} {b o : Nat} (h : W'.heap[b]? = W.heap[b]?) : W'.cell? ⟨b, o, none⟩ = W.cell? ⟨b, o, none⟩ := World.cell?_of_block (a := ⟨b, o, none⟩) h
theorem ring_snoc (gb : Nat) (ms : List Nat) (m : Nat) {j : Nat} (hj : j ≤ ms.length) : (ring gb (ms ++ [m]))[j]? = (ring gb ms)[j]? := by
  unfold ring
  cases j with
  | zero => rfl
  | succ j =>
    rw [List.getElem?_cons_succ, List.getElem?_cons_succ, List.append_assoc, List.getElem?_append_left (by omega), List.getElem?_append_left (by omega)]
theorem ring_snoc1 (gb : Nat) (ms : List Nat) (m : Nat) : (ring gb (ms ++ [m]))[ms.length + 1]? = some m := by
  rw [ring_at _ _ (by rw [List.length_append, List.length_singleton]; omega), List.getElem?_append_right (Nat.le_refl _), Nat.sub_self]; rfl
section
variable {W W1 W4 : World} {base : Nat} {g : Grp}
theorem GrpIs.link_cells (h : GrpIs W base g) {j a : Nat} (hj : (ring g.gb g.ms)[j]? = some a) : (∃ u, W.cell? ⟨a, 1, none⟩ = some u) ∧ (∃ u, W.cell? ⟨a, 0, none⟩ = some u) := by
  rcases ring_mem hj with rfl | hm
  · obtain ⟨p, n, tp, hb, -⟩ := h.box
    exact ⟨⟨n, by rw [cell_of_row _ _ _ _ _ _ hb]; rfl⟩, ⟨p, by rw [cell_of_row _ _ _ _ _ _ hb]; rfl⟩⟩
  · obtain ⟨id, p, n, hb⟩ := h.memB hm
    exact ⟨⟨n, by rw [cell_of_row _ _ _ _ _ _ hb]; rfl⟩, ⟨p, by rw [cell_of_row _ _ _ _ _ _ hb]; rfl⟩⟩
/-- the group with one member more -/
def Grp.more (g : Grp) (id : Int) (m : Nat) : Grp := { g with ids := g.ids ++ [id], ms := g.ms ++ [m], tn := if g.ids = [] then 0 else g.tn, D := g.D.put (.int .i64 id) (kidD m) }
theorem GrpIs.joined (h : GrpIs W base g) {id : Int} (hid : id ∉ g.ids) (hwf : (Lit.int .i64 id).wf = true) (hfew : g.ids.length < 256) (hbase : base ≤ W.heap.size) {p m : Nat} (hm : m = W.heap.size) (hp : (ring g.gb g.ms)[g.ms.length]? = some p)
    (hm1 : W1.heap[m]? = some (.cells #[ptr p, ptr g.gb, .int .i64 id] 74 (0, 0))) (hb1 : Below W.heap.size W W1)
    (hmap : W4.ownsMap Tryz.prog 3 ptrR g.mb 257 (g.D.put (.int .i64 id) (kidD m)))
    (hk : ∀ b, b ∈ g.ms ∨ b = m → W4.heap[b]? = (two W1 p g.gb (ptr m) (ptr m)).heap[b]?)
    (hg : ∃ x y q q', (two W1 p g.gb (ptr m) (ptr m)).heap[g.gb]? = some (.cells #[x, y, .int .i64 0, .pointer q, .map (some g.mb), .string g.fil] 77 (0, 0)) ∧ W4.heap[g.gb]? = some (.cells #[x, y, .int .i64 0, .pointer q', .map (some g.mb), .string g.fil] 77 (0, 0)) ∧ (if g.ids = [] then q' = some ⟨m, 0, none⟩ else q' = q)) :
    GrpIs W4 base (g.more id m) := by
  have hmb : m ∉ g.blocks := fun hx => by have := h.lt hx; omega
  have hold : GrpIs W1 base g := h.below hb1
  have hlen := h.len
  obtain ⟨x, y, q, q', hg2, hg4, hq⟩ := hg
  have hgc : ∀ o, o < 2 → W4.cell? ⟨g.gb, o, none⟩ = (two W1 p g.gb (ptr m) (ptr m)).cell? ⟨g.gb, o, none⟩ := fun o ho => by
    rw [cell_of_row _ _ _ _ _ _ hg4, cell_of_row _ _ _ _ _ _ hg2]
    match o, ho with
    | 0, _ => rfl
    | 1, _ => rfl
  have hcell : ∀ b o, o < 2 → b = g.gb ∨ b ∈ g.ms ∨ b = m → W4.cell? ⟨b, o, none⟩ = (two W1 p g.gb (ptr m) (ptr m)).cell? ⟨b, o, none⟩ := fun b o ho hb => by
    rcases hb with rfl | hb
    · exact hgc o ho
    · exact cell_same (hk b hb)
  refine ⟨⟨x, y, _, hg4, q', rfl, fun _ => ?_⟩, fun j b id' hj hi => ?_, fun j a b hj hj1 => ?_, ?_, ?_, ?_, ?_, ?_, fun id' b => ?_, fun id' hi => ?_, ?_, fun b hb => ?_⟩
  · -- whose turn
    show ∃ b, (g.ms ++ [m])[if g.ids = [] then 0 else g.tn]? = some b ∧ q' = some ⟨b, 0, none⟩
    by_cases he : g.ids = []
    · rw [if_pos he] at hq ⊢
      have : g.ms = [] := List.eq_nil_of_length_eq_zero (by rw [← hlen, he]; rfl)
      exact ⟨m, by rw [this]; rfl, hq⟩
    · rw [if_neg he] at hq ⊢
      obtain ⟨p0, n0, tp, hb0, q0, rfl, h3⟩ := hold.box
      obtain ⟨b, h4, h5⟩ := h3 he
      obtain ⟨x1, y1, hs1⟩ := set_shape6 (c := p) (o := 1) (v := ptr m) hb0 (by omega)
      obtain ⟨x2, y2, hs2⟩ := set_shape6 (c := g.gb) (o := 0) (v := ptr m) hs1 (by omega)
      have e : (two W1 p g.gb (ptr m) (ptr m)).heap[g.gb]? = _ := hs2
      rw [hg2] at e
      injection e with e
      injection e with e _ _
      have e3 := congrArg (fun a => a[3]?) e
      have e3 : some (Value.pointer q) = some (Value.pointer q0) := e3
      injection e3 with e3
      injection e3 with e3
      exact ⟨b, by rw [List.getElem?_append_left (List.getElem?_eq_some_iff.1 h4).1]; exact h4, by rw [hq, e3, h5]⟩
  · -- members
    have hj : (g.ms ++ [m])[j]? = some b := hj
    have hi : (g.ids ++ [id])[j]? = some id' := hi
    by_cases hjl : j < g.ms.length
    · rw [List.getElem?_append_left hjl] at hj
      rw [List.getElem?_append_left (by omega)] at hi
      obtain ⟨p0, n0, h3⟩ := hold.mem j b id' hj hi
      obtain ⟨x1, y1, hs1⟩ := set_shape3 (c := p) (o := 1) (v := ptr m) h3 (by omega)
      obtain ⟨x2, y2, hs2⟩ := set_shape3 (c := g.gb) (o := 0) (v := ptr m) hs1 (by omega)
      exact ⟨x2, y2, (hk b (.inl (List.mem_of_getElem? hj))).trans hs2⟩
    · have hjs := (List.getElem?_eq_some_iff.1 hj).1
      rw [List.length_append, List.length_singleton] at hjs
      have : j = g.ms.length := by omega
      subst this
      rw [List.getElem?_append_right (Nat.le_refl _), Nat.sub_self] at hj
      rw [← hlen, List.getElem?_append_right (Nat.le_refl _), Nat.sub_self] at hi
      injection hj with hj
      injection hi with hi
      subst hj; subst hi
      obtain ⟨x1, y1, hs1⟩ := set_shape3 (c := p) (o := 1) (v := ptr m) hm1 (by omega)
      obtain ⟨x2, y2, hs2⟩ := set_shape3 (c := g.gb) (o := 0) (v := ptr m) hs1 (by omega)
      exact ⟨x2, y2, (hk m (.inr rfl)).trans hs2⟩
  · -- links
    have hj : (ring g.gb (g.ms ++ [m]))[j]? = some a := hj
    have hj1 : (ring g.gb (g.ms ++ [m]))[j + 1]? = some b := hj1
    have hab : ∀ {i c : Nat}, (ring g.gb (g.ms ++ [m]))[i]? = some c → c = g.gb ∨ c ∈ g.ms ∨ c = m := fun {i c} hc => by
      rcases ring_mem hc with h3 | h3
      · exact .inl h3
      · rcases List.mem_append.1 h3 with h3 | h3
        · exact .inr (.inl h3)
        · exact .inr (.inr (List.mem_singleton.1 h3))
    rw [hcell a 1 (by omega) (hab hj), hcell b 0 (by omega) (hab hj1)]
    have hlj := (List.getElem?_eq_some_iff.1 hj1).1
    rw [ring_len, List.length_append, List.length_singleton] at hlj
    have hpb : p ∈ g.blocks := GrpIs.ringB hp
    have hgbb : g.gb ∈ g.blocks := List.mem_cons_self ..
    by_cases h1 : j < g.ms.length
    · -- an old link
      rw [ring_snoc _ _ _ (by omega)] at hj hj1
      obtain ⟨h3, h4⟩ := hold.link j a b hj hj1
      refine ⟨(two_other1 (fun e => ?_)).trans h3, (two_other0 (fun e => ?_)).trans h4⟩
      · have := ring_one h.bn (by omega) (Nat.le_refl _) hj (e ▸ hp)
        omega
      · have h0 : (ring g.gb g.ms)[0]? = some b := by rw [e]; rfl
        have := ring_one h.bn (by omega) (Nat.zero_le _) hj1 h0
        omega
    · by_cases h2 : j = g.ms.length
      · -- the last one before, and the new one
        subst h2
        rw [ring_snoc _ _ _ (Nat.le_refl _), hp] at hj
        rw [ring_snoc1] at hj1
        injection hj with hj
        injection hj1 with hj1
        subst hj; subst hj1
        obtain ⟨⟨u, hu⟩, -⟩ := hold.link_cells hp
        refine ⟨two_one hu, (two_other0 (c := m) (b := g.gb) (fun e => hmb (by rw [e]; exact hgbb))).trans ?_⟩
        rw [cell_of_row _ _ _ _ _ _ hm1]; rfl
      · -- the new one, and the head
        have h3 : j = g.ms.length + 1 := by omega
        subst h3
        rw [ring_snoc1] at hj
        have h4 := ring_last g.gb (g.ms ++ [m])
        rw [List.length_append, List.length_singleton] at h4
        rw [h4] at hj1
        injection hj with hj
        injection hj1 with hj1
        subst hj; subst hj1
        obtain ⟨-, ⟨u, hu⟩⟩ := hold.link_cells (ring_first g.gb g.ms)
        refine ⟨(two_other1 (c := m) (a := p) (fun e => hmb (by rw [e]; exact hpb))).trans ?_, two_zero hu⟩
        rw [cell_of_row _ _ _ _ _ _ hm1]; rfl
  · show (g.ids ++ [id]).length = (g.ms ++ [m]).length
    rw [List.length_append, List.length_append, hlen]; rfl
  · show (g.ids ++ [id]).Nodup
    refine List.nodup_append.2 ⟨h.idn, List.nodup_cons.2 ⟨List.not_mem_nil, List.nodup_nil⟩, fun a ha b hb e => ?_⟩
    rw [List.mem_singleton] at hb
    subst hb; subst e
    exact hid ha
  · show (g.gb :: g.mb :: (g.ms ++ [m])).Nodup
    have := h.bn
    unfold Grp.blocks at this hmb
    rw [show g.gb :: g.mb :: (g.ms ++ [m]) = (g.gb :: g.mb :: g.ms) ++ [m] from rfl]
    refine List.nodup_append.2 ⟨this, List.nodup_cons.2 ⟨List.not_mem_nil, List.nodup_nil⟩, fun a ha b hb e => ?_⟩
    rw [List.mem_singleton] at hb
    subst hb; subst e
    exact hmb ha
  · have h1 := own_tight hmap
    have hT := h.map.tidy (Maps.int_keyed Tryz.underlying3)
    refine h1.mono ?_
    rw [Maps.size_put hT]
    have := h.sz
    split <;> omega
  · show Maps.size (g.D.put (.int .i64 id) (kidD m)) = (g.ids ++ [id]).length
    have hT := h.map.tidy (Maps.int_keyed Tryz.underlying3)
    rw [Maps.size_put hT, List.length_append, List.length_singleton, h.sz, (h.look hwf).2.1 (h.kid_none.2 hid)]
    rfl
  · show kidI (g.D.put (.int .i64 id) (kidD m)) id' = some b ↔ ∃ j : Nat, (g.ids ++ [id])[j]? = some id' ∧ (g.ms ++ [m])[j]? = some b
    have hnew : (g.ids ++ [id])[g.ids.length]? = some id := by rw [List.getElem?_append_right (Nat.le_refl _), Nat.sub_self]; rfl
    have hnew2 : (g.ms ++ [m])[g.ids.length]? = some m := by rw [hlen, List.getElem?_append_right (Nat.le_refl _), Nat.sub_self]; rfl
    by_cases e : id' = id
    · subst e
      rw [kidI_put_same h.map.isMap]
      constructor
      · intro e; injection e with e; subst e; exact ⟨g.ids.length, hnew, hnew2⟩
      · rintro ⟨j, h1, h2⟩
        have hj : j = g.ids.length := by
          have hjl := (List.getElem?_eq_some_iff.1 h1).1
          rw [List.length_append, List.length_singleton] at hjl
          by_cases h3 : j < g.ids.length
          · rw [List.getElem?_append_left h3] at h1
            exact absurd (List.mem_of_getElem? h1) hid
          · omega
        subst hj
        rw [hnew2] at h2
        exact h2
    · rw [kidI_put_other e, h.by_]
      constructor
      · rintro ⟨j, h1, h2⟩
        have hjl := (List.getElem?_eq_some_iff.1 h1).1
        exact ⟨j, by rw [List.getElem?_append_left hjl]; exact h1, by rw [List.getElem?_append_left (by omega)]; exact h2⟩
      · rintro ⟨j, h1, h2⟩
        have hjl := (List.getElem?_eq_some_iff.1 h1).1
        rw [List.length_append, List.length_singleton] at hjl
        by_cases h3 : j < g.ids.length
        · rw [List.getElem?_append_left h3] at h1
          rw [List.getElem?_append_left (by omega)] at h2
          exact ⟨j, h1, h2⟩
        · have : j = g.ids.length := by omega
          subst this
          rw [hnew] at h1
          injection h1 with h1
          exact absurd h1.symm e
  · have hi : id' ∈ g.ids ++ [id] := hi
    rcases List.mem_append.1 hi with hi | hi
    · exact h.wf id' hi
    · rw [List.mem_singleton] at hi; subst hi; exact hwf
  · show (g.ids ++ [id]).length ≤ 256
    rw [List.length_append, List.length_singleton]; omega
  · have hb : b ∈ g.gb :: g.mb :: (g.ms ++ [m]) := hb
    rw [show g.gb :: g.mb :: (g.ms ++ [m]) = g.blocks ++ [m] from rfl] at hb
    rcases List.mem_append.1 hb with hb | hb
    · exact h.lo b hb
    · rw [List.mem_singleton] at hb; subst hb; omega
end
end
end Go.Proofs.YtincmegllckcjaaGreatDoor
