/- SHARE: the turn set; a member taken out of the ring: in memory. SHARE: join. -/
import Derived.Test.YtincmegllckcjaaGreatDoorMShareRing
namespace Go.Proofs.YtincmegllckcjaaGreatDoor
section
open Go Go.RowKit

theorem ring_erase (gb : Nat) (ms : List Nat) {i : Nat} (hi : i < ms.length) (j : Nat) : (ring gb (ms.eraseIdx i))[j]? = if j ≤ i then (ring gb ms)[j]? else (ring gb ms)[j + 1]? := by
  unfold ring
  have e : ms.eraseIdx i ++ [gb] = (ms ++ [gb]).eraseIdx i := by rw [List.eraseIdx_append_of_lt_length hi]
  rw [e]
  cases j with
  | zero => simp
  | succ j =>
    rw [List.getElem?_cons_succ, List.getElem?_eraseIdx, List.getElem?_cons_succ, List.getElem?_cons_succ]
    by_cases h : j < i
    · rw [if_pos h, if_pos (by omega)]
    · rw [if_neg h, if_neg (by omega)]
section
variable {W W1 W4 : World} {base : Nat} {g : Grp}
/-- the turn is set -/
theorem GrpIs.turned (h : GrpIs W base g) {k b : Nat} (hb : g.ms[k]? = some b) : GrpIs (W.setCell ⟨g.gb, 3, none⟩ (ptr b)) base { g with tn := k } := by
  obtain ⟨p, n, tp, hbox, -⟩ := h.box
  have hbox2 := heap_setCell_same W g.gb 3 _ _ (ptr b) hbox
  have hother : ∀ c, c ≠ g.gb → (W.setCell ⟨g.gb, 3, none⟩ (ptr b)).heap[c]? = W.heap[c]? := fun c hc => Below.heap_setCell _ _ _ _ hc
  have hn := h.bn
  unfold Grp.blocks at hn
  rw [List.nodup_cons] at hn
  have hne : ∀ c ∈ g.ms, c ≠ g.gb := fun c hc e => hn.1 (List.mem_cons_of_mem _ (e ▸ hc))
  refine ⟨⟨p, n, ptr b, hbox2, some ⟨b, 0, none⟩, rfl, fun _ => ⟨b, hb, rfl⟩⟩, fun j c id h1 h2 => ?_, fun j a c h1 h2 => ?_, h.len, h.idn, h.bn, ?_, h.sz, h.by_, h.wf, h.few, h.lo⟩
  · obtain ⟨p, n, h3⟩ := h.mem j c id h1 h2
    exact ⟨p, n, (hother c (hne c (List.mem_of_getElem? h1))).trans h3⟩
  · obtain ⟨h3, h4⟩ := h.link j a c h1 h2
    exact ⟨(World.cell?_setCell_other _ _ _ _ (fun e => by injection e with _ e; cases e)).trans h3, (World.cell?_setCell_other _ _ _ _ (fun e => by injection e with _ e; cases e)).trans h4⟩
  · obtain ⟨es, clock, hb, r⟩ := h.map
    exact ⟨es, clock, (hother _ (fun e => hn.1 (by rw [show g.gb = g.mb from e.symm]; exact List.mem_cons_self ..))).trans hb, r⟩
/-- the group with one member less -/
def Grp.less (g : Grp) (i : Nat) (id : Int) : Grp := { g with ids := g.ids.eraseIdx i, ms := g.ms.eraseIdx i, tn := if i < g.tn then g.tn - 1 else g.tn, D := g.D.del (.int .i64 id) }
theorem GrpIs.left_ (h : GrpIs W base g) {id : Int} {i m p s : Nat} (hid : g.ids[i]? = some id) (hms : g.ms[i]? = some m) (hp : (ring g.gb g.ms)[i]? = some p) (hs : (ring g.gb g.ms)[i + 2]? = some s) (htn : g.ids.length = 1 ∨ g.tn ≠ i)
    (hmap : W4.ownsMap Tryz.prog 3 ptrR g.mb 256 (g.D.del (.int .i64 id)))
    (hk : ∀ b, b = g.gb ∨ b ∈ g.ms → W4.heap[b]? = (two W p s (ptr s) (ptr p)).heap[b]?) : GrpIs W4 base (g.less i id) := by
  have hlen := h.len
  have hil := (List.getElem?_eq_some_iff.1 hms).1
  have hsub : ∀ b, b ∈ g.ms.eraseIdx i → b ∈ g.ms := fun b hb => (List.eraseIdx_sublist _ _).subset hb
  have hcell : ∀ b o, b = g.gb ∨ b ∈ g.ms → W4.cell? ⟨b, o, none⟩ = (two W p s (ptr s) (ptr p)).cell? ⟨b, o, none⟩ := fun b o hb => cell_same (hk b hb)
  have hidm : id ∈ g.ids := List.mem_of_getElem? hid
  have hmem2 : ∀ j b id', g.ms[j]? = some b → g.ids[j]? = some id' → ∃ (p' n : Value), W4.heap[b]? = some (Obj.cells #[p', n, .int .i64 id'] 74 (0, 0)) := fun j b id' h1 h2 => by
    obtain ⟨p0, n0, h3⟩ := h.mem j b id' h1 h2
    obtain ⟨x1, y1, hs1⟩ := set_shape3 (c := p) (o := 1) (v := ptr s) h3 (by omega)
    obtain ⟨x2, y2, hs2⟩ := set_shape3 (c := s) (o := 0) (v := ptr p) hs1 (by omega)
    exact ⟨x2, y2, (hk b (.inr (List.mem_of_getElem? h1))).trans hs2⟩
  have herase : ∀ {α : Type} (l : List α) (j : Nat), (l.eraseIdx i)[j]? = l[if j < i then j else j + 1]? := fun l j => by rw [List.getElem?_eraseIdx]; split <;> rfl
  refine ⟨?_, fun j b id' hj hi => ?_, fun j a b hj hj1 => ?_, ?_, ?_, ?_, hmap, ?_, fun id' b => ?_, fun id' hi => ?_, ?_, fun b hb => ?_⟩
  · obtain ⟨p0, n0, tp, hb0, q0, rfl, h3⟩ := h.box
    obtain ⟨x1, y1, hs1⟩ := set_shape6 (c := p) (o := 1) (v := ptr s) hb0 (by omega)
    obtain ⟨x2, y2, hs2⟩ := set_shape6 (c := s) (o := 0) (v := ptr p) hs1 (by omega)
    refine ⟨x2, y2, _, (hk g.gb (.inl rfl)).trans hs2, q0, rfl, fun hne => ?_⟩
    have hne : g.ids.eraseIdx i ≠ [] := hne
    have hn0 : g.ids ≠ [] := fun e => by rw [e] at hid; cases hid
    obtain ⟨b, h4, h5⟩ := h3 hn0
    have hl2 : 1 < g.ids.length := by
      have := List.length_pos_iff.2 hne
      rw [List.length_eraseIdx_of_lt (by omega)] at this
      omega
    have ht : g.tn ≠ i := htn.resolve_left (by omega)
    refine ⟨b, ?_, h5⟩
    show (g.ms.eraseIdx i)[if i < g.tn then g.tn - 1 else g.tn]? = some b
    rw [herase]
    by_cases h6 : i < g.tn
    · rw [if_pos h6, if_neg (by omega), show g.tn - 1 + 1 = g.tn by omega]; exact h4
    · rw [if_neg h6, if_pos (by omega)]; exact h4
  · have hj : (g.ms.eraseIdx i)[j]? = some b := hj
    have hi : (g.ids.eraseIdx i)[j]? = some id' := hi
    rw [herase] at hj hi
    exact hmem2 _ b id' hj hi
  · have hj : (ring g.gb (g.ms.eraseIdx i))[j]? = some a := hj
    have hj1 : (ring g.gb (g.ms.eraseIdx i))[j + 1]? = some b := hj1
    have hlj := (List.getElem?_eq_some_iff.1 hj1).1
    rw [ring_len, List.length_eraseIdx_of_lt hil] at hlj
    have hab : ∀ {k c : Nat}, (ring g.gb (g.ms.eraseIdx i))[k]? = some c → c = g.gb ∨ c ∈ g.ms := fun {k c} hc => by
      rcases ring_mem hc with h3 | h3
      · exact .inl h3
      · exact .inr (hsub c h3)
    rw [hcell a 1 (hab hj), hcell b 0 (hab hj1)]
    rw [ring_erase _ _ hil] at hj hj1
    by_cases h1 : j < i
    · rw [if_pos (by omega)] at hj
      rw [if_pos (by omega)] at hj1
      obtain ⟨h3, h4⟩ := h.link j a b hj hj1
      refine ⟨(two_other1 (fun e => ?_)).trans h3, (two_other0 (fun e => ?_)).trans h4⟩
      · have := ring_one h.bn (by omega) (by omega) hj (e ▸ hp)
        omega
      · have := ring_one' h.bn (by omega) (by omega) (by omega) hj1 (e ▸ hs)
        omega
    · by_cases h2 : j = i
      · subst h2
        rw [if_pos (Nat.le_refl _), hp] at hj
        rw [if_neg (by omega), hs] at hj1
        injection hj with hj
        injection hj1 with hj1
        subst hj; subst hj1
        obtain ⟨⟨u, hu⟩, -⟩ := h.link_cells hp
        obtain ⟨-, ⟨v, hv⟩⟩ := h.link_cells hs
        exact ⟨two_one hu, two_zero hv⟩
      · rw [if_neg (by omega)] at hj
        rw [if_neg (by omega)] at hj1
        obtain ⟨h3, h4⟩ := h.link (j + 1) a b hj hj1
        refine ⟨(two_other1 (fun e => ?_)).trans h3, (two_other0 (fun e => ?_)).trans h4⟩
        · have := ring_one h.bn (by omega) (by omega) hj (e ▸ hp)
          omega
        · have := ring_one' h.bn (by omega) (by omega) (by omega) hj1 (e ▸ hs)
          omega
  · show (g.ids.eraseIdx i).length = (g.ms.eraseIdx i).length
    rw [List.length_eraseIdx_of_lt (by omega), List.length_eraseIdx_of_lt hil, hlen]
  · exact h.idn.sublist (List.eraseIdx_sublist _ _)
  · show (g.gb :: g.mb :: g.ms.eraseIdx i).Nodup
    exact h.bn.sublist (((List.eraseIdx_sublist _ _).cons_cons _).cons_cons _)
  · show Maps.size (g.D.del (.int .i64 id)) = (g.ids.eraseIdx i).length
    have hT := h.map.tidy (Maps.int_keyed Tryz.underlying3)
    have h1 := Maps.size_del hT (k := .int .i64 id)
    have h2 := (h.look (h.wf id hidm)).2.2 m ((h.by_ id m).2 ⟨i, hid, hms⟩)
    rw [h2] at h1
    simp only [if_true] at h1
    rw [List.length_eraseIdx_of_lt (by omega)]
    have := h.sz
    omega
  · show kidI (g.D.del (.int .i64 id)) id' = some b ↔ ∃ j : Nat, (g.ids.eraseIdx i)[j]? = some id' ∧ (g.ms.eraseIdx i)[j]? = some b
    by_cases e : id' = id
    · subst e
      rw [kidI_del_same]
      constructor
      · intro e; cases e
      · rintro ⟨j, h1, -⟩
        rw [herase] at h1
        have := (List.getElem?_inj (by omega) h.idn).1 (hid.trans h1.symm)
        split at this <;> omega
    · rw [kidI_del_other e, h.by_]
      constructor
      · rintro ⟨j, h1, h2⟩
        have hji : j ≠ i := fun k => by rw [k, hid] at h1; injection h1 with h1; exact e h1.symm
        by_cases h3 : j < i
        · exact ⟨j, by rw [herase, if_pos h3]; exact h1, by rw [herase, if_pos h3]; exact h2⟩
        · exact ⟨j - 1, by rw [herase, if_neg (by omega), show j - 1 + 1 = j by omega]; exact h1, by rw [herase, if_neg (by omega), show j - 1 + 1 = j by omega]; exact h2⟩
      · rintro ⟨j, h1, h2⟩
        rw [herase] at h1 h2
        exact ⟨_, h1, h2⟩
  · exact h.wf id' ((List.eraseIdx_sublist _ _).subset hi)
  · show (g.ids.eraseIdx i).length ≤ 256
    rw [List.length_eraseIdx_of_lt (by omega)]
    have := h.few
    omega
  · refine h.lo b ?_
    have hb : b ∈ g.gb :: g.mb :: g.ms.eraseIdx i := hb
    unfold Grp.blocks
    simp only [List.mem_cons] at hb ⊢
    rcases hb with hb | hb | hb
    · exact .inl hb
    · exact .inr (.inl hb)
    · exact .inr (.inr (hsub b hb))
end
end
section
open Go Go.RowKit
attribute [local go_sem ↓] Go.wp_at_zero Go.wp_at_succ

/-- what a change of a group leaves -/
structure GrpTo (w : World) (base : Nat) (g : Grp) (w' : World) (g' : Grp) : Prop where
  is : GrpIs w' base g'
  gb : g'.gb = g.gb
  fil : g'.fil = g.fil
  fr : Frame (fun b => b ∈ g.blocks) w w'
  own : ∀ b ∈ g'.blocks, b ∈ g.blocks ∨ w.heap.size ≤ b
/-- the new member's block -/
structure Made (w W : World) (p gb : Nat) (id : Int) : Prop where
  new_ : W.heap[w.heap.size]? = some (.cells #[ptr p, ptr gb, .int .i64 id] 74 (0, 0))
  bel : Below w.heap.size w W
structure LikeW (W V : World) : Prop where
  heap : V.heap = W.heap
  os : V.os = W.os
  tape : V.tape = W.tape
  output : V.output = W.output
theorem like_frame {F : Nat → Prop} {W V X : World} (h : Frame F X W) (k : LikeW W V) : Frame F X V := ⟨k.os.trans h.os, k.tape.trans h.tape, k.output.trans h.output, by rw [k.heap]; exact h.size, fun b hb hF => by rw [k.heap]; exact h.block b hb hF⟩
theorem GrpIs.ring_box {W : World} {base : Nat} {g : Grp} (h : GrpIs W base g) {j a : Nat} (hj : (ring g.gb g.ms)[j]? = some a) : ∃ cs ty, W.heap[a]? = some (.cells cs ty (0, 0)) := by
  rcases ring_mem hj with rfl | hm
  · obtain ⟨p, n, tp, hb, -⟩ := h.box
    exact ⟨_, _, hb⟩
  · obtain ⟨id, p, n, hb⟩ := h.memB hm
    exact ⟨_, _, hb⟩
theorem two_frame (W : World) (a b : Nat) (u v : Value) : Frame (fun c => c = a ∨ c = b) W (two W a b u v) :=
  ⟨rfl, rfl, rfl, by unfold two; simp, fun c _ hF => two_block (fun e => hF (.inl e)) (fun e => hF (.inr e))⟩
theorem GrpIs.mb_off {W : World} {base : Nat} {g : Grp} (h : GrpIs W base g) {j a : Nat} (hj : (ring g.gb g.ms)[j]? = some a) : g.mb ≠ a := fun e => by
  have h1 := h.bn
  unfold Grp.blocks at h1
  rw [List.nodup_cons, List.nodup_cons] at h1
  rcases ring_mem hj with h2 | h2
  · exact h1.1 (by rw [← h2, ← e]; exact List.mem_cons_self ..)
  · exact h1.2.1 (by rw [e]; exact h2)
theorem GrpIs.map_like {W V : World} {base : Nat} {g : Grp} (h : GrpIs W base g) {j k a b : Nat} {u v : Value} (ha : (ring g.gb g.ms)[j]? = some a) (hb : (ring g.gb g.ms)[k]? = some b) (hL : LikeW (two W a b u v) V) : V.ownsMap Tryz.prog 3 ptrR g.mb 256 g.D := by
  obtain ⟨es, clock, hm, r⟩ := h.map
  exact ⟨es, clock, by rw [hL.heap]; exact (two_block (h.mb_off ha) (h.mb_off hb)).trans hm, r⟩
theorem GrpIs.cell4 {W V : World} {base : Nat} {g : Grp} (h : GrpIs W base g) {a b : Nat} {u v : Value} (hL : LikeW (two W a b u v) V) : V.cell? ⟨g.gb, 4, none⟩ = some (.map (some g.mb)) := by
  refine (cell_same (W := two W a b u v) (by rw [hL.heap])).trans ?_
  exact ((World.cell?_setCell_other _ _ _ _ (fun e => by injection e with _ e; cases e)).trans (World.cell?_setCell_other _ _ _ _ (fun e => by injection e with _ e; cases e))).trans h.cells.2.1
theorem GrpIs.box_like {W V : World} {base : Nat} {g : Grp} (h : GrpIs W base g) {a b : Nat} {u v : Value} (hL : LikeW (two W a b u v) V) : ∃ x y q, V.heap[g.gb]? = some (.cells #[x, y, .int .i64 0, .pointer q, .map (some g.mb), .string g.fil] 77 (0, 0)) := by
  obtain ⟨p0, n0, tp, hb0, q0, rfl, -⟩ := h.box
  obtain ⟨x1, y1, hs1⟩ := set_shape6 (c := a) (o := 1) (v := u) hb0 (by omega)
  obtain ⟨x2, y2, hs2⟩ := set_shape6 (c := b) (o := 0) (v := v) hs1 (by omega)
  exact ⟨x2, y2, q0, by rw [hL.heap]; exact hs2⟩
def JoinR (w : World) (base : Nat) (g : Grp) (id : Int) (e : Ending) (w' : World) : Prop := ∃ (ok : Bool) (g' : Grp), e = .returned (.bool ok) ∧ (ok = true ↔ id ∉ g.ids ∧ g.ids.length < 256) ∧ GrpTo w base g w' g' ∧ g'.ids = (if ok = true then g.ids ++ [id] else g.ids) ∧ (g'.tn = if g.ids = [] ∧ ok = true then 0 else g.tn)
theorem GrpIs.same {W W' : World} {base : Nat} {g : Grp} (h : GrpIs W base g) (hb : Below W.heap.size W W') : GrpTo W base g W' g := ⟨h.below hb, rfl, rfl, Frame.of_below hb, fun _ h => .inl h⟩
theorem join_done {w W1 W2 w3 W4 : World} {base : Nat} {g : Grp} {id : Int} {p : Nat} (h : GrpIs w base g) (hz : (Lit.int .i64 id).wf = true) (hid : id ∉ g.ids) (hfew : g.ids.length < 256) (hp : (ring g.gb g.ms)[g.ms.length]? = some p) (hM : Made w W1 p g.gb id)
    (hL : LikeW (two W1 p g.gb (ptr w.heap.size) (ptr w.heap.size)) W2) (hgr : W2.grownBy w3 (some g.mb)) (hown : w3.ownsMap Tryz.prog 3 ptrR g.mb 257 (g.D.put (.int .i64 id) (kidD w.heap.size)))
    {bx by_ : Value} {bq q' : Option Addr} (hbx2 : W2.heap[g.gb]? = some (.cells #[bx, by_, .int .i64 0, .pointer bq, .map (some g.mb), .string g.fil] 77 (0, 0))) (hbx4 : W4.heap[g.gb]? = some (.cells #[bx, by_, .int .i64 0, .pointer q', .map (some g.mb), .string g.fil] 77 (0, 0)))
    (hq : if g.ids = [] then q' = some ⟨w.heap.size, 0, none⟩ else q' = bq) (h4 : ∀ b, b ≠ g.gb → W4.heap[b]? = w3.heap[b]?) (ho : W4.os = w3.os) (ht : W4.tape = w3.tape) (hu : W4.output = w3.output) (hs : W4.heap.size = w3.heap.size) : JoinR w base g id (.returned (.bool true)) W4 := by
  have hbn := h.bn
  unfold Grp.blocks at hbn
  rw [List.nodup_cons, List.nodup_cons] at hbn
  have hmb1 : g.mb ≠ g.gb := fun e => hbn.1 (by rw [← e]; exact List.mem_cons_self ..)
  have hml := hM.new_
  have hsz1 : w.heap.size < W1.heap.size := (Array.getElem?_eq_some_iff.1 hml).1
  have hsz2 : W2.heap.size = W1.heap.size := by rw [hL.heap]; unfold two; simp
  have hmap4 : W4.ownsMap Tryz.prog 3 ptrR g.mb 257 (g.D.put (.int .i64 id) (kidD w.heap.size)) := by
    obtain ⟨es, clock, hm, r⟩ := hown
    exact ⟨es, clock, (h4 _ hmb1).trans hm, r⟩
  have hblk : ∀ b, b ≠ g.gb → b ≠ g.mb → b < W1.heap.size → W4.heap[b]? = (two W1 p g.gb (ptr w.heap.size) (ptr w.heap.size)).heap[b]? := fun b h1 h2 h3 => by
    rw [h4 b h1, hgr.block b (by omega) (fun e => h2 (by injection e)), hL.heap]
  have hne : ∀ b ∈ g.ms, b ≠ g.gb ∧ b ≠ g.mb := fun b hb => ⟨fun e => hbn.1 (List.mem_cons_of_mem _ (e ▸ hb)), fun e => hbn.2.1 (e ▸ hb)⟩
  have hgl := h.lt (List.mem_cons_self ..)
  have hmbl := h.map.lt
  have key := h.joined (W1 := W1) (W4 := W4) (m := w.heap.size) hid hz hfew (Nat.le_trans (h.lo _ (List.mem_cons_self ..)) (Nat.le_of_lt hgl)) rfl hp hml hM.bel hmap4 (fun b hb => by
    rcases hb with hb | rfl
    · exact hblk b (hne b hb).1 (hne b hb).2 (by have := h.lt (show b ∈ g.blocks from List.mem_cons_of_mem _ (List.mem_cons_of_mem _ hb)); omega)
    · exact hblk _ (by omega) (by omega) hsz1) ⟨bx, by_, bq, q', by rw [← hL.heap]; exact hbx2, hbx4, hq⟩
  refine ⟨true, g.more id w.heap.size, rfl, Iff.intro (fun _ => ⟨hid, hfew⟩) (fun _ => rfl), ⟨key, rfl, rfl, ?_, fun b hb => ?_⟩, rfl, ?_⟩
  · refine ⟨ho.trans (hgr.os.trans (hL.os.trans hM.bel.os)), ht.trans (hgr.tape.trans (hL.tape.trans hM.bel.tape)), hu.trans (hgr.output.trans (hL.output.trans hM.bel.output)), ?_, fun b hb hF => ?_⟩
    · have := hgr.size; omega
    · have hgb : b ≠ g.gb := fun e => hF (e ▸ List.mem_cons_self ..)
      have hmb : b ≠ g.mb := fun e => hF (e ▸ List.mem_cons_of_mem _ (List.mem_cons_self ..))
      have hpb : b ≠ p := fun e => hF (e ▸ GrpIs.ringB hp)
      rw [hblk b hgb hmb (by omega), two_block hpb hgb]
      exact hM.bel.block b hb
  · have hb : b ∈ g.gb :: g.mb :: (g.ms ++ [w.heap.size]) := hb
    rw [show g.gb :: g.mb :: (g.ms ++ [w.heap.size]) = g.blocks ++ [w.heap.size] from rfl] at hb
    rcases List.mem_append.1 hb with hb | hb
    · exact .inl hb
    · rw [List.mem_singleton] at hb; exact .inr (by omega)
  · show (if g.ids = [] then 0 else g.tn) = _
    simp
set_option maxRecDepth 100000 in
set_option maxHeartbeats 8000000 in
theorem join_any (w : World) (base : Nat) (g : Grp) (id : Int) (h : GrpIs w base g) (hz : (Lit.int .i64 id).wf = true) :
    Calls Tryz.prog 26 #[.pointer (some ⟨g.gb, 0, none⟩), .int .i64 id] w (JoinR w base g id) := by
  obtain ⟨PP, hPP⟩ : ∃ PP : Ending → World → Prop, JoinR w base g id = PP := ⟨_, rfl⟩
  rw [hPP]
  have HPP := Lib.hid hPP
  have HG := Lib.hid h
  obtain ⟨hlk, -, -⟩ := h.look hz
  have hln := fun ty => h.map.len (t := 75) (e := 70) Tryz.underlying75 ty
  rw [h.sz] at hln
  obtain ⟨-, c4, -⟩ := h.cells
  have hgl := h.lt (List.mem_cons_self ..)
  have hkn := h.kid_none (z := id)
  have HFEW := Lib.hid h.few
  clear hPP h
  cases hk : kidI g.D id with
  | some b =>
    rw [hk] at hlk
    simp only [Option.map_some] at hlk
    have HM : Hid (id ∈ g.ids) := Classical.byContradiction fun e => by
      have := hkn.2 e
      rw [hk] at this
      cases this
    clear hk hkn hln
    go_enter Tryz.func26, Tryz.ntmps26
    go_wp2_with fail
    rw [← HPP.out]
    exact ⟨false, g, rfl, Iff.intro (fun e => by cases e) (fun e => absurd HM.out e.1), HG.out.same (Below.refl _ _), rfl, by simp⟩
  | none =>
    rw [hk] at hlk
    simp only [Option.map_none] at hlk
    have HM := Lib.hid (hkn.1 hk)
    by_cases hfull : 256 ≤ g.ids.length
    · have hf1 : (256 : Int) ≤ (g.ids.length : Int) := by omega
      clear hk hkn
      go_enter Tryz.func26, Tryz.ntmps26
      go_wp2_with fail
      rw [← HPP.out]
      exact ⟨false, g, rfl, Iff.intro (fun e => by cases e) (fun e => by omega), HG.out.same (Below.refl _ _), rfl, by simp⟩
    · have hf1 : ¬ (256 : Int) ≤ (g.ids.length : Int) := by omega
      obtain ⟨p, hp⟩ := ring_some g.gb g.ms (j := g.ms.length) (by omega)
      have hlast := HG.out.link g.ms.length p g.gb hp (ring_last _ _)
      have l0 := hlast.2
      have l1 := hlast.1
      have hpl : p < w.heap.size := World.block_lt_of_cell? w _ l1
      have HP := Lib.hid hp
      unfold ptr at l0 l1
      clear hk hkn hp hlast
      go_enter Tryz.func26, Tryz.ntmps26
      go_wp2_with fail
      go_region
      go_simp
      refine k_world (fun W => Made w W p g.gb id) ⟨heap_alloc_new w (.cells #[ptr p, ptr g.gb, .int .i64 id] 74), ((Below.refl _ _).alloc (Nat.le_refl _) _).drew⟩ (fun W1 hM => ?_)
      have HMD := Lib.hid hM
      have HG1 := Lib.hid (HG.out.below hM.bel)
      have m0 : W1.cell? ⟨w.heap.size, 0, none⟩ = some (.pointer (some ⟨p, 0, none⟩)) := by rw [cell_of_row _ _ _ _ _ _ hM.new_]; rfl
      have m1 : W1.cell? ⟨w.heap.size, 1, none⟩ = some (.pointer (some ⟨g.gb, 0, none⟩)) := by rw [cell_of_row _ _ _ _ _ _ hM.new_]; rfl
      have hml : w.heap.size < W1.heap.size := World.block_lt_of_cell? W1 _ m0
      have n0 := (hM.bel.cell (p := ⟨g.gb, 0, none⟩) hgl).trans l0
      have n1 := (hM.bel.cell (p := ⟨p, 1, none⟩) hpl).trans l1
      have hgl1 : g.gb < W1.heap.size := by omega
      have hpl1 : p < W1.heap.size := by omega
      obtain ⟨cs1, ty1, hbp⟩ := HG1.out.ring_box HP.out
      obtain ⟨cs2, ty2, hbg⟩ := HG1.out.ring_box (ring_first g.gb g.ms)
      have z1 := frozen_of_row W1 p 1 _ _ hbp
      have z0 := frozen_of_row W1 g.gb 0 _ _ hbg
      clear hM l0 l1 c4 hlk hln hbp hbg
      go_wp2_with fail
      go_region
      go_simp
      refine k_world (fun W => LikeW (two W1 p g.gb (ptr w.heap.size) (ptr w.heap.size)) W) ⟨rfl, rfl, rfl, rfl⟩ (fun W2 hL => ?_)
      have HL := Lib.hid hL
      have d4 := HG1.out.cell4 hL
      have hgl2 : g.gb < W2.heap.size := World.block_lt_of_cell? W2 _ d4
      obtain ⟨w3, hst, hown, hturn⟩ := (HG1.out.map_like HP.out (ring_first _ _) hL).store (t := 75) (e := 70) (Maps.int_keyed Tryz.underlying3) Tryz.underlying75 (by unfold maxLen; omega) (Maps.keyOf_int_mk Tryz.underlying3 hz) (ptrR_some w.heap.size)
      have HGR3 := Lib.hid hturn.grown
      have e4 : w3.cell? ⟨g.gb, 4, none⟩ = some (.map (some g.mb)) := (cell_same (HGR3.out.block g.gb hgl2 (fun e => HG1.out.mb_off (ring_first g.gb g.ms) (by injection e with e; exact e.symm)))).trans d4
      have hgl3 : g.gb < w3.heap.size := World.block_lt_of_cell? w3 _ e4
      have HOW := Lib.hid hown
      have hsz3 : Maps.size (g.D.put (.int .i64 id) (kidD w.heap.size)) = g.ids.length + 1 := by
        rw [Maps.size_put (HG.out.map.tidy (Maps.int_keyed Tryz.underlying3)), HG.out.sz, (HG.out.look hz).2.1 (HG.out.kid_none.2 HM.out)]; rfl
      have hln3 := fun ty => hown.len (t := 75) (e := 70) Tryz.underlying75 ty
      rw [hsz3] at hln3
      obtain ⟨bx, by_, bq, hbx2⟩ := HG1.out.box_like hL
      have hbx3 := (HGR3.out.block g.gb hgl2 (fun e => HG1.out.mb_off (ring_first g.gb g.ms) (by injection e with e; exact e.symm))).trans hbx2
      have HBX2 := Lib.hid hbx2
      have HBX3 := Lib.hid hbx3
      have f3 := frozen_of_row w3 g.gb 3 _ _ hbx3
      have k3 : w3.cell? ⟨g.gb, 3, none⟩ = some (.pointer bq) := by rw [cell_of_row _ _ _ _ _ _ hbx3]; rfl
      clear hL hturn hown hsz3 n0 n1 z0 z1 hbx2 hbx3
      by_cases h0 : g.ids.length = 0
      · have ht : (((0 + 1 : Nat) : Int) == 1) = true := rfl
        rw [h0] at hln3
        have hln4 : ∀ ty, (Builtin.len_ #[75] ty #[.map (some g.mb)]).run Tryz.prog w3 = .ok (.int .i64 1) w3 := hln3
        clear hln3
        go_wp2_with fail
        rw [← HPP.out]
        have he : g.ids = [] := List.eq_nil_of_length_eq_zero h0
        exact join_done HG.out hz HM.out (by omega) HP.out HMD.out HL.out HGR3.out HOW.out HBX2.out (q' := some ⟨w.heap.size, 0, none⟩) (heap_setCell_same w3 g.gb 3 _ _ (ptr w.heap.size) HBX3.out) (by rw [if_pos he]) (fun b hb => Below.heap_setCell _ _ _ _ hb) rfl rfl rfl (by simp)
      · obtain ⟨n, hn⟩ : ∃ n : Int, ((g.ids.length + 1 : Nat) : Int) = n := ⟨_, rfl⟩
        rw [hn] at hln3
        have hn1 : (n == 1) = false := by rw [beq_eq_false_iff_ne]; omega
        clear hn
        go_wp2_with fail
        rw [← HPP.out]
        have he : g.ids ≠ [] := fun e => h0 (by rw [e]; rfl)
        exact join_done HG.out hz HM.out (by omega) HP.out HMD.out HL.out HGR3.out HOW.out HBX2.out (q' := bq) HBX3.out (by rw [if_neg he]) (fun b hb => rfl) rfl rfl rfl rfl
end
end Go.Proofs.YtincmegllckcjaaGreatDoor
