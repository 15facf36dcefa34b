/- TRIE: a node goes. TRIE: what take leaves, one level further up. -/
import Derived.Test.YtincmegllckcjaaGreatDoorMTrieWalk
namespace Go.Proofs.YtincmegllckcjaaGreatDoor
section
open Go Go.RowKit

theorem kid_del_same {D : DataW Unit} (s : ByteArray) : kid (D.del (.string s.data.toList)) s = none := kid_none (Maps.atKey_del_same _)
theorem kid_del_other {D : DataW Unit} {s t : ByteArray} (h : t ≠ s) : kid (D.del (.string s.data.toList)) t = kid D t := by
  unfold kid
  rw [Maps.atKey_del_other (fun e => h (bytes_inj (by injection e)))]
theorem TrieIs.delKid {W W' : World} {base sz : Nat} {T : List Nd} {x x' y : Nd} {s : ByteArray} (h : TrieIs W base sz T) (hx : x ∈ T) (hy : y ∈ T) (hyp : y.path = x.path ++ [s]) (hleaf : ∀ t, kid y.D t = none) (hp : x'.path = x.path) (ha : x'.a = x.a) (hm : x'.m = x.m) (hv : x'.v = x.v) (hids : x'.ids = x.ids) (hD : x'.D = x.D.del (.string s.data.toList))
    (hnx : NdIs W' base sz x') (hb : ∀ z ∈ others T x.path, ∀ b ∈ z.blocks, W'.heap[b]? = W.heap[b]?) : TrieIs W' base sz (x' :: others (others T x.path) y.path) := by
  have hmem : ∀ {z}, z ∈ others (others T x.path) y.path → z ∈ T ∧ z ≠ x ∧ z.path ≠ x.path ∧ z.path ≠ y.path := fun hz => by
    have h1 := mem_others.1 hz
    have h2 := mem_others.1 h1.1
    exact ⟨h2.1, fun e => h2.2 (by rw [e]), h2.2, h1.2⟩
  have hyx : y.path ≠ x.path := fun e => by
    rw [hyp] at e
    have := congrArg List.length e
    simp at this
  have hA : ∀ (q : List ByteArray) (b : Nat), (∃ u ∈ x' :: others (others T x.path) y.path, u.path = q ∧ u.a = b) ↔ (∃ u ∈ T, u.path = q ∧ u.a = b) ∧ q ≠ y.path := by
    intro q b
    constructor
    · rintro ⟨u, hu, h1, h2⟩
      rcases List.mem_cons.1 hu with e | hu
      · rw [e] at h1 h2
        exact ⟨⟨x, hx, hp ▸ h1, ha ▸ h2⟩, fun e2 => hyx (e2.symm.trans (h1.symm.trans hp))⟩
      · exact ⟨⟨u, (hmem hu).1, h1, h2⟩, fun e2 => (hmem hu).2.2.2 (h1.trans e2)⟩
    · rintro ⟨⟨u, hu, h1, h2⟩, h3⟩
      by_cases e : u.path = x.path
      · obtain rfl := h.one hu hx e
        exact ⟨x', List.mem_cons_self .., hp.trans h1, ha.trans h2⟩
      · exact ⟨u, List.mem_cons_of_mem _ (mem_others.2 ⟨mem_others.2 ⟨hu, e⟩, fun e2 => h3 (h1.symm.trans e2)⟩), h1, h2⟩
  have hxbl : x'.blocks = x.blocks := by unfold Nd.blocks; rw [ha, hm, hv]
  refine ⟨?_, ?_, ?_, ?_, ?_, ?_, ?_, ?_⟩
  · intro z hz
    rcases List.mem_cons.1 hz with e | hz
    · rw [e]; exact hnx
    · exact (h.each z (hmem hz).1).kept (hb z (mem_others.1 hz).1)
  · rw [List.pairwise_cons]
    exact ⟨fun z hz e => (hmem hz).2.2.1 (e.symm.trans hp), (h.paths.filter _).filter _⟩
  · rw [List.flatMap_cons, List.nodup_append, hxbl]
    refine ⟨blocks_of h.blocks hx, nodup_others _ (nodup_others _ h.blocks), fun b hb1 c hc e => ?_⟩
    subst e
    obtain ⟨z, hz, hbz⟩ := List.mem_flatMap.1 hc
    exact apart_of h.blocks (hmem hz).1 hx (hmem hz).2.1 b hbz hb1
  · intro z hz t b
    rw [hA]
    rcases List.mem_cons.1 hz with e | hz
    · rw [e, hD, hp]
      by_cases ht : t = s
      · subst ht
        rw [kid_del_same]
        constructor
        · intro h1; cases h1
        · rintro ⟨-, h1⟩; exact absurd hyp.symm h1
      · rw [kid_del_other ht, h.kids x hx t b]
        constructor
        · intro h1; exact ⟨h1, fun e2 => ht (app_one (e2.trans hyp)).2⟩
        · exact And.left
    · rw [h.kids z (hmem hz).1 t b]
      constructor
      · intro h1; exact ⟨h1, fun e2 => (hmem hz).2.2.1 (app_one (e2.trans hyp)).1⟩
      · exact And.left
  · intro z hz q t e
    have h1 : z.path = q ++ [t] ∧ ∃ u ∈ T, u.path = z.path := by
      rcases List.mem_cons.1 hz with e1 | hz
      · exact ⟨e, x, hx, by rw [e1, hp]⟩
      · exact ⟨e, z, (hmem hz).1, rfl⟩
    obtain ⟨u, hu, hup⟩ := h1.2
    obtain ⟨p, hpT, hpq⟩ := h.par u hu q t (hup.trans e)
    have hq : q ≠ y.path := fun e2 => by
      have := (h.kids y hy t u.a).2 ⟨u, hu, by rw [← e2]; exact hup.trans e, rfl⟩
      rw [hleaf t] at this
      cases this
    obtain ⟨p', hp', h3, -⟩ := (hA q p.a).2 ⟨⟨p, hpT, hpq, rfl⟩, hq⟩
    exact ⟨p', hp', h3⟩
  · obtain ⟨u, hu, huq⟩ := h.root
    obtain ⟨u', hu', h1, -⟩ := (hA [] u.a).2 ⟨⟨u, hu, huq, rfl⟩, fun e => by rw [hyp] at e; have := congrArg List.length e; simp at this⟩
    exact ⟨u', hu', h1⟩
  · intro z hz
    rcases List.mem_cons.1 hz with e | hz
    · rw [e, hids]; exact h.rising x hx
    · exact h.rising z (hmem hz).1
  · intro z hz
    rcases List.mem_cons.1 hz with e | hz
    · rw [e, hids]; exact h.few x hx
    · exact h.few z (hmem hz).1
/-- no node is idle, but maybe the one at a path -/
def LeanBut (T : List Nd) (p : List ByteArray) : Prop := Lean_ T fun q => q = p
theorem mem_upd {T : List Nd} {x x' : Nd} {u : Nd} : u ∈ x' :: others T x.path ↔ u = x' ∨ (u ∈ T ∧ u.path ≠ x.path) := by rw [List.mem_cons, mem_others]
/-- what take leaves -/
structure Took (w w' : World) (base sz : Nat) (T T' : List Nd) (p q : List ByteArray) (id : Int) : Prop where
  is : TrieIs w' base sz T'
  at_ : ∀ r z, IdAt T' r z ↔ IdAt T r z ∧ ¬ (r = q ∧ z = id)
  lean : LeanBut T' p
  stay : ∀ y ∈ T, (∀ r, r ≠ [] → y.path ≠ p ++ r) → ∃ y' ∈ T', y'.path = y.path ∧ y'.a = y.a
  feet : ∀ b, foot T' b → foot T b
  fr : Frame (foot T) w w'
  sub : ∀ y' ∈ T', ∃ y ∈ T, y.path = y'.path
theorem took_nil {w A w' : World} {base sz : Nat} {T : List Nd} {x : Nd} {v' : Value} {id : Int} (h : TrieIs w base sz T) (hl : Lean_ T fun _ => False) (hx : x ∈ T) (hA : Below w.heap.size w A)
    (hnd : NdIs w' base sz { x with v := v', ids := outL x.ids id }) (hfr : Frame (fun b => b = x.a ∨ x.v.ownBlock = some b) A w') (hv : v'.ownBlock = x.v.ownBlock) :
    Took w w' base sz T ({ x with v := v', ids := outL x.ids id } :: others T x.path) x.path x.path id := by
  have hris := h.rising x hx
  have hback : ∀ b, b < w.heap.size → ¬ (b = x.a ∨ x.v.ownBlock = some b) → w'.heap[b]? = w.heap[b]? := fun b hb hn => (hfr.block b (Nat.lt_of_lt_of_le hb hA.size) hn).trans (hA.block b hb)
  refine ⟨h.setIds hx rfl rfl rfl rfl hnd (Nat.le_refl _) (outL_sorted hris id) (Nat.le_trans (outL_len hris id) (h.few x hx)) (.inl hv) (fun y hy b hb => ?_), ?_, ?_, ?_, ?_, ?_, ?_⟩
  · have hy2 := mem_others.1 hy
    have hap := apart_of h.blocks hy2.1 hx (fun e => hy2.2 (by rw [e])) b hb
    rw [mem_blocks] at hap
    exact hback b ((h.each y hy2.1).lt hb).2 (fun e => by rcases e with e | e; exact hap (.inl e); exact hap (.inr (.inr e)))
  · intro r z
    unfold IdAt
    constructor
    · rintro ⟨u, hu, h1, h2⟩
      rcases mem_upd.1 hu with rfl | ⟨h3, h4⟩
      · have h5 := (outL_mem hris id z).1 h2
        exact ⟨⟨x, hx, h1, h5.1⟩, fun e => h5.2 e.2⟩
      · exact ⟨⟨u, h3, h1, h2⟩, fun e => h4 (h1.trans e.1)⟩
    · rintro ⟨⟨u, hu, h1, h2⟩, h3⟩
      by_cases e : u.path = x.path
      · obtain rfl := h.one hu hx e
        exact ⟨_, mem_upd.2 (.inl rfl), h1, (outL_mem hris id z).2 ⟨h2, fun e2 => h3 ⟨h1.symm.trans e, e2⟩⟩⟩
      · exact ⟨u, mem_upd.2 (.inr ⟨hu, e⟩), h1, h2⟩
  · intro u hu h1 h2
    rcases mem_upd.1 hu with rfl | ⟨h3, h4⟩
    · exact absurd rfl h2
    · rcases hl u h3 h1 (fun e => e) with h5 | ⟨y, hy, s, h5⟩
      · exact .inl h5
      · right
        by_cases e : y.path = x.path
        · exact ⟨_, mem_upd.2 (.inl rfl), s, e.symm.trans h5⟩
        · exact ⟨y, mem_upd.2 (.inr ⟨hy, e⟩), s, h5⟩
  · intro y hy _
    by_cases e : y.path = x.path
    · obtain rfl := h.one hy hx e
      exact ⟨_, mem_upd.2 (.inl rfl), rfl, rfl⟩
    · exact ⟨y, mem_upd.2 (.inr ⟨hy, e⟩), rfl, rfl⟩
  · rintro b ⟨u, hu, hb⟩
    rcases mem_upd.1 hu with rfl | ⟨h3, -⟩
    · refine ⟨x, hx, ?_⟩
      rw [mem_blocks] at hb ⊢
      simp only [hv] at hb
      exact hb
    · exact ⟨u, h3, hb⟩
  · exact ⟨hfr.os.trans hA.os, hfr.tape.trans hA.tape, hfr.output.trans hA.output, Nat.le_trans hA.size hfr.size, fun b hb hn => hback b hb (fun e => hn ⟨x, hx, by rw [mem_blocks]; rcases e with e | e; exact .inl e; exact .inr (.inr e)⟩)⟩
  · intro u hu
    rcases mem_upd.1 hu with rfl | ⟨h3, -⟩
    · exact ⟨x, hx, rfl⟩
    · exact ⟨u, h3, rfl⟩
end
section
open Go Go.RowKit

theorem took_none {w A w5 w6 : World} {base sz : Nat} {T T1 : List Nd} {p L : List ByteArray} {l : ByteArray} {id : Int} (hA : Below w.heap.size w A) (h : Took A w5 base sz T T1 (p ++ [l]) (p ++ [l] ++ L) id) {y1 : Nd} (hy : y1 ∈ T1) (hyp : y1.path = p ++ [l])
    (hid : y1.ids ≠ [] ∨ ∃ s b, kid y1.D s = some b) (hB : Below w5.heap.size w5 w6) : Took w w6 base sz T T1 p (p ++ l :: L) id := by
  have e : p ++ [l] ++ L = p ++ l :: L := by simp
  refine ⟨h.is.below hB, fun r z => by rw [← e]; exact h.at_ r z, fun u hu h1 h2 => ?_, fun y hy h1 => h.stay y hy fun r hr e2 => h1 ([l] ++ r) (by simp) (by rw [e2, List.append_assoc]), h.feet, ?_, h.sub⟩
  · by_cases e2 : u.path = p ++ [l]
    · obtain rfl := h.is.one hu hy (e2.trans hyp.symm)
      rcases hid with h3 | ⟨s, b, h3⟩
      · exact .inl h3
      · obtain ⟨v, hv, hvp, -⟩ := (h.is.kids u hu s b).1 h3
        exact .inr ⟨v, hv, s, hvp⟩
    · exact h.lean u hu h1 e2
  · exact ⟨hB.os.trans (h.fr.os.trans hA.os), hB.tape.trans (h.fr.tape.trans hA.tape), hB.output.trans (h.fr.output.trans hA.output), Nat.le_trans hA.size (Nat.le_trans h.fr.size hB.size), fun b hb hn => (hB.block b (by have := hA.size; have := h.fr.size; omega)).trans ((h.fr.block b (Nat.lt_of_lt_of_le hb hA.size) hn).trans (hA.block b hb))⟩
theorem took_up {w A w5 w6 : World} {base sz : Nat} {T T1 : List Nd} {p L : List ByteArray} {l : ByteArray} {id : Int} (hA : Below w.heap.size w A) (h : Took A w5 base sz T T1 (p ++ [l]) (p ++ [l] ++ L) id) {x1 y1 : Nd} (hx : x1 ∈ T1) (hxp : x1.path = p) (hy : y1 ∈ T1) (hyp : y1.path = p ++ [l])
    (hids : y1.ids = []) (hleaf : ∀ s, kid y1.D s = none) (hown : w6.ownsMap Tryz.prog 9 ptrR x1.m sz (x1.D.del (.string l.data.toList))) (hg : w5.grownBy w6 (some x1.m)) :
    Took w w6 base sz T ({ x1 with D := x1.D.del (.string l.data.toList) } :: others (others T1 x1.path) y1.path) p (p ++ l :: L) id := by
  have e : p ++ [l] ++ L = p ++ l :: L := by simp
  subst hxp
  have hxb := blocks_nodup.1 (blocks_of h.is.blocks hx)
  have hnx := h.is.each x1 hx
  have hxm := fun b hb => (hnx.lt (b := b) hb).2
  have hyx : y1.path ≠ x1.path := fun e => by
    rw [hyp] at e
    have := congrArg List.length e
    simp at this
  have hnx' : NdIs w6 base sz { x1 with D := x1.D.del (.string l.data.toList) } := by
    refine ⟨(hg.block x1.a (hxm _ (by simp [mem_blocks])) (fun e => hxb.1 (by injection e))).trans hnx.box, hown, ?_, hnx.ba, hnx.bm⟩
    exact World.ownsRow.kept hnx.row hg (.inr hxb.2.2)
  have hback : ∀ z ∈ others T1 x1.path, ∀ b ∈ z.blocks, w6.heap[b]? = w5.heap[b]? := fun z hz b hb => by
    have hz2 := mem_others.1 hz
    refine hg.block b ((h.is.each z hz2.1).lt hb).2 (fun e => ?_)
    injection e with e
    have hap := apart_of h.is.blocks hz2.1 hx (fun e => hz2.2 (by rw [e])) b hb
    rw [mem_blocks] at hap
    exact hap (.inr (.inl e))
  have hmem : ∀ {u : Nd}, u ∈ ({ x1 with D := x1.D.del (.string l.data.toList) } : Nd) :: others (others T1 x1.path) y1.path ↔ u = { x1 with D := x1.D.del (.string l.data.toList) } ∨ (u ∈ T1 ∧ u.path ≠ x1.path ∧ u.path ≠ y1.path) := fun {u} => by
    rw [List.mem_cons, mem_others, mem_others]
    exact or_congr Iff.rfl and_assoc
  have hfoot : ∀ b, foot (({ x1 with D := x1.D.del (.string l.data.toList) } : Nd) :: others (others T1 x1.path) y1.path) b → foot T1 b := by
    rintro b ⟨u, hu, hb⟩
    rcases hmem.1 hu with rfl | ⟨h1, -⟩
    · exact ⟨x1, hx, hb⟩
    · exact ⟨u, h1, hb⟩
  refine ⟨h.is.delKid hx hy hyp hleaf rfl rfl rfl rfl rfl rfl hnx' hback, fun r z => ?_, fun u hu h1 h2 => ?_, fun u hu h1 => ?_, fun b hb => h.feet b (hfoot b hb), ?_, fun u hu => ?_⟩
  · rw [← e, ← h.at_]
    unfold IdAt
    constructor
    · rintro ⟨u, hu, h1, h2⟩
      rcases hmem.1 hu with rfl | ⟨h3, -⟩
      · exact ⟨x1, hx, h1, h2⟩
      · exact ⟨u, h3, h1, h2⟩
    · rintro ⟨u, hu, h1, h2⟩
      by_cases e1 : u.path = x1.path
      · obtain rfl := h.is.one hu hx e1
        exact ⟨_, hmem.2 (.inl rfl), h1, h2⟩
      · by_cases e2 : u.path = y1.path
        · obtain rfl := h.is.one hu hy e2
          rw [hids] at h2
          cases h2
        · exact ⟨u, hmem.2 (.inr ⟨hu, e1, e2⟩), h1, h2⟩
  · rcases hmem.1 hu with rfl | ⟨h3, h4, h5⟩
    · exact absurd rfl h2
    · rcases h.lean u h3 h1 (fun e => h5 (e.trans hyp.symm)) with h6 | ⟨v, hv, s, h6⟩
      · exact .inl h6
      · right
        by_cases e1 : v.path = x1.path
        · exact ⟨_, hmem.2 (.inl rfl), s, e1.symm.trans h6⟩
        · refine ⟨v, hmem.2 (.inr ⟨hv, e1, fun e2 => h4 ?_⟩), s, h6⟩
          exact (app_one (h6.symm.trans (e2.trans hyp))).1
  · obtain ⟨u1, hu1, hp1, ha1⟩ := h.stay u hu fun r hr e2 => h1 ([l] ++ r) (by simp) (by rw [e2, List.append_assoc])
    by_cases e1 : u1.path = x1.path
    · obtain rfl := h.is.one hu1 hx e1
      exact ⟨_, hmem.2 (.inl rfl), hp1, ha1⟩
    · refine ⟨u1, hmem.2 (.inr ⟨hu1, e1, fun e2 => h1 [l] (by simp) ?_⟩), hp1, ha1⟩
      exact hp1.symm.trans (e2.trans hyp)
  · refine ⟨hg.os.trans (h.fr.os.trans hA.os), hg.tape.trans (h.fr.tape.trans hA.tape), hg.output.trans (h.fr.output.trans hA.output), Nat.le_trans hA.size (Nat.le_trans h.fr.size hg.size), fun b hb hn => ?_⟩
    refine (hg.block b (by have := hA.size; have := h.fr.size; omega) (fun e => ?_)).trans ((h.fr.block b (Nat.lt_of_lt_of_le hb hA.size) hn).trans (hA.block b hb))
    injection e with e
    exact hn (h.feet b ⟨x1, hx, by rw [mem_blocks]; exact .inr (.inl e)⟩)
  · rcases hmem.1 hu with rfl | ⟨h3, -⟩
    · exact h.sub x1 hx
    · exact h.sub u h3
end
end Go.Proofs.YtincmegllckcjaaGreatDoor
