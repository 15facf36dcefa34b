/- TRIE: what take leaves, one level further up. -/
import Derived.Test.YtflomcbclofbaaaDoorTrieDel
namespace Go.Proofs.YtflomcbclofbaaaDoor
open Go Go.RowKit

theorem took_none {w A w5 w6 : World} {base sz : Nat} {T T1 : List Nd} {p L : List ByteArray} {l : ByteArray} {id : Int} (hA : Below w.heap.size w A) (h : Took A w5 base sz T T1 (p ++ [l]) (p ++ [l] ++ L) id) {y1 : Nd} (hy : y1 ∈ T1) (hyp : y1.path = p ++ [l])
    (hid : y1.ids ≠ [] ∨ ∃ s b, kid y1.D s = some b) (hB : Below w5.heap.size w5 w6) : Took w w6 base sz T T1 p (p ++ l :: L) id := by
  have e : p ++ [l] ++ L = p ++ l :: L := by simp
  refine ⟨h.is.below hB, fun r z => by rw [← e]; exact h.at_ r z, fun u hu h1 h2 => ?_, fun y hy h1 => h.stay y hy fun r hr e2 => h1 ([l] ++ r) (by simp) (by rw [e2, List.append_assoc]), h.feet, ?_, h.sub⟩
  · by_cases e2 : u.path = p ++ [l]
    · obtain rfl := h.is.one hu hy (e2.trans hyp.symm)
      rcases hid with h3 | ⟨s, b, h3⟩
      · exact .inl h3
      · obtain ⟨v, hv, hvp, -⟩ := (h.is.kids u hu s b).1 h3
        exact .inr ⟨v, hv, s, hvp⟩
    · exact h.lean u hu h1 e2
  · exact ⟨hB.os.trans (h.fr.os.trans hA.os), hB.tape.trans (h.fr.tape.trans hA.tape), hB.output.trans (h.fr.output.trans hA.output), Nat.le_trans hA.size (Nat.le_trans h.fr.size hB.size), fun b hb hn => (hB.block b (by have := hA.size; have := h.fr.size; omega)).trans ((h.fr.block b (Nat.lt_of_lt_of_le hb hA.size) hn).trans (hA.block b hb))⟩
theorem took_up {w A w5 w6 : World} {base sz : Nat} {T T1 : List Nd} {p L : List ByteArray} {l : ByteArray} {id : Int} (hA : Below w.heap.size w A) (h : Took A w5 base sz T T1 (p ++ [l]) (p ++ [l] ++ L) id) {x1 y1 : Nd} (hx : x1 ∈ T1) (hxp : x1.path = p) (hy : y1 ∈ T1) (hyp : y1.path = p ++ [l])
    (hids : y1.ids = []) (hleaf : ∀ s, kid y1.D s = none) (hown : w6.ownsMap Tryd.prog 9 ptrR x1.m sz (x1.D.del (.string l.data.toList))) (hg : w5.grownBy w6 (some x1.m)) :
    Took w w6 base sz T ({ x1 with D := x1.D.del (.string l.data.toList) } :: others (others T1 x1.path) y1.path) p (p ++ l :: L) id := by
  have e : p ++ [l] ++ L = p ++ l :: L := by simp
  subst hxp
  have hxb := blocks_nodup.1 (blocks_of h.is.blocks hx)
  have hnx := h.is.each x1 hx
  have hxm := fun b hb => (hnx.lt (b := b) hb).2
  have hyx : y1.path ≠ x1.path := fun e => by
    rw [hyp] at e
    have := congrArg List.length e
    simp at this
  have hnx' : NdIs w6 base sz { x1 with D := x1.D.del (.string l.data.toList) } := by
    refine ⟨(hg.block x1.a (hxm _ (by simp [mem_blocks])) (fun e => hxb.1 (by injection e))).trans hnx.box, hown, ?_, hnx.ba, hnx.bm⟩
    exact World.ownsRow.kept hnx.row hg (.inr hxb.2.2)
  have hback : ∀ z ∈ others T1 x1.path, ∀ b ∈ z.blocks, w6.heap[b]? = w5.heap[b]? := fun z hz b hb => by
    have hz2 := mem_others.1 hz
    refine hg.block b ((h.is.each z hz2.1).lt hb).2 (fun e => ?_)
    injection e with e
    have hap := apart_of h.is.blocks hz2.1 hx (fun e => hz2.2 (by rw [e])) b hb
    rw [mem_blocks] at hap
    exact hap (.inr (.inl e))
  have hmem : ∀ {u : Nd}, u ∈ ({ x1 with D := x1.D.del (.string l.data.toList) } : Nd) :: others (others T1 x1.path) y1.path ↔ u = { x1 with D := x1.D.del (.string l.data.toList) } ∨ (u ∈ T1 ∧ u.path ≠ x1.path ∧ u.path ≠ y1.path) := fun {u} => by
    rw [List.mem_cons, mem_others, mem_others]
    exact or_congr Iff.rfl and_assoc
  have hfoot : ∀ b, foot (({ x1 with D := x1.D.del (.string l.data.toList) } : Nd) :: others (others T1 x1.path) y1.path) b → foot T1 b := by
    rintro b ⟨u, hu, hb⟩
    rcases hmem.1 hu with rfl | ⟨h1, -⟩
    · exact ⟨x1, hx, hb⟩
    · exact ⟨u, h1, hb⟩
  refine ⟨h.is.delKid hx hy hyp hleaf rfl rfl rfl rfl rfl rfl hnx' hback, fun r z => ?_, fun u hu h1 h2 => ?_, fun u hu h1 => ?_, fun b hb => h.feet b (hfoot b hb), ?_, fun u hu => ?_⟩
  · rw [← e, ← h.at_]
    unfold IdAt
    constructor
    · rintro ⟨u, hu, h1, h2⟩
      rcases hmem.1 hu with rfl | ⟨h3, -⟩
      · exact ⟨x1, hx, h1, h2⟩
      · exact ⟨u, h3, h1, h2⟩
    · rintro ⟨u, hu, h1, h2⟩
      by_cases e1 : u.path = x1.path
      · obtain rfl := h.is.one hu hx e1
        exact ⟨_, hmem.2 (.inl rfl), h1, h2⟩
      · by_cases e2 : u.path = y1.path
        · obtain rfl := h.is.one hu hy e2
          rw [hids] at h2
          cases h2
        · exact ⟨u, hmem.2 (.inr ⟨hu, e1, e2⟩), h1, h2⟩
  · rcases hmem.1 hu with rfl | ⟨h3, h4, h5⟩
    · exact absurd rfl h2
    · rcases h.lean u h3 h1 (fun e => h5 (e.trans hyp.symm)) with h6 | ⟨v, hv, s, h6⟩
      · exact .inl h6
      · right
        by_cases e1 : v.path = x1.path
        · exact ⟨_, hmem.2 (.inl rfl), s, e1.symm.trans h6⟩
        · refine ⟨v, hmem.2 (.inr ⟨hv, e1, fun e2 => h4 ?_⟩), s, h6⟩
          exact (app_one (h6.symm.trans (e2.trans hyp))).1
  · obtain ⟨u1, hu1, hp1, ha1⟩ := h.stay u hu fun r hr e2 => h1 ([l] ++ r) (by simp) (by rw [e2, List.append_assoc])
    by_cases e1 : u1.path = x1.path
    · obtain rfl := h.is.one hu1 hx e1
      exact ⟨_, hmem.2 (.inl rfl), hp1, ha1⟩
    · refine ⟨u1, hmem.2 (.inr ⟨hu1, e1, fun e2 => h1 [l] (by simp) ?_⟩), hp1, ha1⟩
      exact hp1.symm.trans (e2.trans hyp)
  · refine ⟨hg.os.trans (h.fr.os.trans hA.os), hg.tape.trans (h.fr.tape.trans hA.tape), hg.output.trans (h.fr.output.trans hA.output), Nat.le_trans hA.size (Nat.le_trans h.fr.size hg.size), fun b hb hn => ?_⟩
    refine (hg.block b (by have := hA.size; have := h.fr.size; omega) (fun e => ?_)).trans ((h.fr.block b (Nat.lt_of_lt_of_le hb hA.size) hn).trans (hA.block b hb))
    injection e with e
    exact hn (h.feet b ⟨x1, hx, by rw [mem_blocks]; exact .inr (.inl e)⟩)
  · rcases hmem.1 hu with rfl | ⟨h3, -⟩
    · exact h.sub x1 hx
    · exact h.sub u h3
end Go.Proofs.YtflomcbclofbaaaDoor
