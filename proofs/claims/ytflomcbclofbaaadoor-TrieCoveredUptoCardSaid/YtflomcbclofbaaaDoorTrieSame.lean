/- TRIE: the law's same. -/
import Derived.Deep.QuietTactic
import Derived.BigQuiet
import Derived.Test.YtflomcbclofbaaaDoorTrieOps
namespace Go.Proofs.YtflomcbclofbaaaDoor
open Go Go.RowKit
attribute [local go_sem ↓] Go.wp_at_zero Go.wp_at_succ

/-- a slice of numbers, whosever it is -/
def IS (w : World) (v : Value) (l : List Int) : Prop :=
  ∃ p cap, v = .slice p l.length cap ∧ l.length ≤ cap ∧ cap ≤ 9223372036854775807 ∧ (l = [] ∨ ∃ b o, p = some ⟨b, o, none⟩ ∧ ∀ (j : Nat) x, l[j]? = some x → w.cell? ⟨b, o + j, none⟩ = some (.int .i64 x))
theorem IRow.is {W : World} {base : Nat} {v : Value} {zs : List Int} (h : IRow W base v zs) : IS W v zs := by
  rcases h.form with ⟨rfl, rfl⟩ | ⟨g, cap, cur, rfl, -, -, -, h3, h4, -, -, hc⟩
  · exact ⟨none, 0, rfl, Nat.le_refl _, by omega, .inl rfl⟩
  · refine ⟨_, cap, rfl, h3, by unfold maxLen at h4; omega, .inr ⟨g, 0, rfl, fun j x hj => ?_⟩⟩
    have hjl : j < zs.length := (List.getElem?_eq_some_iff.1 hj).1
    rw [Nat.zero_add, hc j hjl]
    unfold List.getD
    rw [hj]; rfl
theorem IS.below {w w' : World} {v : Value} {l : List Int} (h : IS w v l) (hb : Below w.heap.size w w') : IS w' v l := by
  obtain ⟨p, cap, rfl, h1, h2, h3⟩ := h
  refine ⟨p, cap, rfl, h1, h2, ?_⟩
  rcases h3 with h3 | ⟨b, o, rfl, h3⟩
  · exact .inl h3
  · exact .inr ⟨b, o, rfl, fun j x hj => (hb.cell (World.block_lt_of_cell? w _ (h3 j x hj))).trans (h3 j x hj)⟩
set_option maxRecDepth 100000 in
set_option maxHeartbeats 4000000 in
theorem same_any (w : World) (v1 v2 : Value) (l1 l2 : List Int) (h1 : IS w v1 l1) (h2 : IS w v2 l2) :
    Calls Tryd.prog 10 #[v1, v2] w fun e w' => e = .returned (.bool (decide (l1 = l2))) ∧ Below w.heap.size w w' := by
  obtain ⟨PP, hPP⟩ : ∃ PP : Ending → World → Prop, (fun e w' => e = .returned (.bool (decide (l1 = l2))) ∧ Below w.heap.size w w') = PP := ⟨_, rfl⟩
  rw [hPP]
  have HPP := Lib.hid hPP
  obtain ⟨p1, c1, rfl, ha1, ha2, ha3⟩ := h1
  obtain ⟨p2, c2, rfl, hb1, hb2, hb3⟩ := h2
  clear hPP
  by_cases hlen : l1.length = l2.length
  · have hlI : ((l1.length : Int) != (l2.length : Int)) = false := by simp; omega
    go_enter Tryd.func10, Tryd.ntmps10
    go_wp2_with fail
    go_loopw [5] (fun s5 wr => ∃ i : Nat, s5 = .int .i64 (i : Nat) ∧ i ≤ l1.length ∧ Hid (l1.take i = l2.take i) ∧ Hid (Below w.heap.size w wr)) (fun s5 _ => l1.length - (intOf s5).toNat)
    case atStart => exact ⟨0, rfl, Nat.zero_le _, rfl, Below.refl _ _⟩
    case round =>
      obtain ⟨i, rfl, hi, hT, hB⟩ := hrel
      by_cases hlt : i < l1.length
      · obtain ⟨x, hx⟩ : ∃ x, l1[i]? = some x := ⟨_, List.getElem?_eq_getElem hlt⟩
        obtain ⟨y, hy⟩ : ∃ y, l2[i]? = some y := ⟨_, List.getElem?_eq_getElem (by omega)⟩
        obtain ⟨b1, o1, rfl, k1⟩ : ∃ b o, p1 = some ⟨b, o, none⟩ ∧ wr.cell? ⟨b, o + i, none⟩ = some (.int .i64 x) := by
          rcases ha3 with h | ⟨b, o, rfl, h⟩
          · rw [h] at hlt; simp at hlt
          · exact ⟨b, o, rfl, (hB.out.cell (World.block_lt_of_cell? w _ (h i x hx))).trans (h i x hx)⟩
        obtain ⟨b2, o2, rfl, k2⟩ : ∃ b o, p2 = some ⟨b, o, none⟩ ∧ wr.cell? ⟨b, o + i, none⟩ = some (.int .i64 y) := by
          rcases hb3 with h | ⟨b, o, rfl, h⟩
          · rw [h] at hy; simp at hy
          · exact ⟨b, o, rfl, (hB.out.cell (World.block_lt_of_cell? w _ (h i y hy))).trans (h i y hy)⟩
        have g1 : b1 < wr.heap.size := World.block_lt_of_cell? wr _ k1
        have g2 : b2 < wr.heap.size := World.block_lt_of_cell? wr _ k2
        have hltI : (i : Int) < (l1.length : Int) := by omega
        have hltI2 : (i : Int) < (l2.length : Int) := by omega
        have hi0 : (0 : Int) ≤ (i : Int) := by omega
        have HX := Lib.hid hx
        have HY := Lib.hid hy
        clear hx hy ha3 hb3
        by_cases hxy : x = y
        · have e1 : (x != y) = false := by simp [hxy]
          have HXY := Lib.hid hxy
          clear hxy
          go_wp2_with fail
          go_quiet (fail)
          go_wp2_with fail
          go_roundw
          case rel =>
            refine ⟨i + 1, by go_num, by omega, ?_, ⟨hB.out.os, hB.out.tape, hB.out.output, hB.out.size, hB.out.block⟩⟩
            show l1.take (i + 1) = l2.take (i + 1)
            rw [List.take_add_one, List.take_add_one, HX.out, HY.out, hT.out, HXY.out]
          case measure => simp [intOf]; omega
        · have e1 : (x != y) = true := by simp [hxy]
          have hne : decide (l1 = l2) = false := decide_eq_false (fun e => hxy (by have h1 := HX.out; rw [e, HY.out] at h1; injection h1 with h1; exact h1.symm))
          rw [hne] at HPP
          clear hxy
          go_wp2_with fail
          go_quiet (fail)
          go_wp2_with fail
          rw [← HPP.out]
          exact ⟨rfl, ⟨hB.out.os, hB.out.tape, hB.out.output, hB.out.size, hB.out.block⟩⟩
      · have hge : i = l1.length := by omega
        have hltI : ¬ ((i : Int) < (l1.length : Int)) := by omega
        have he : decide (l1 = l2) = true := decide_eq_true (by
          have h := hT.out
          rw [hge, List.take_length, hlen, List.take_length] at h
          exact h)
        rw [he] at HPP
        go_wp2_with fail
        rw [← HPP.out]
        exact ⟨rfl, hB.out⟩
  · have hlI : ((l1.length : Int) != (l2.length : Int)) = true := by simp; omega
    have hne : decide (l1 = l2) = false := decide_eq_false (fun e => hlen (by rw [e]))
    rw [hne] at HPP
    go_enter Tryd.func10, Tryd.ntmps10
    go_wp2_with fail
    rw [← HPP.out]
    exact ⟨rfl, Below.refl _ _⟩
end Go.Proofs.YtflomcbclofbaaaDoor
