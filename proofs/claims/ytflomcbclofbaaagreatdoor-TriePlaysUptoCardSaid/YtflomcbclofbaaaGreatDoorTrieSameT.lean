/- TRIE: the law's sameTexts. -/
import Derived.Deep.QuietTactic
import Derived.BigQuiet
import Derived.Test.YtflomcbclofbaaaGreatDoorTrieSame
namespace Go.Proofs.YtflomcbclofbaaaGreatDoor
open Go Go.RowKit
attribute [local go_sem ↓] Go.wp_at_zero Go.wp_at_succ

theorem false_of {c : Bool} {P : Prop} (h : c = true ↔ P) (k : ¬ P) : c = false := by cases c with
  | false => rfl
  | true => exact absurd (h.1 rfl) k
set_option maxRecDepth 100000 in
set_option maxHeartbeats 4000000 in
theorem sameTexts_any (w : World) (c : Bool) (v1 v2 : Value) (l1 l2 : List ByteArray) (h1 : Sl w v1 l1) (h2 : Sl w v2 l2) (hc : c = true ↔ l1 = l2) :
    Calls Tryz.prog 14 #[v1, v2] w fun e w' => e = .returned (.bool c) ∧ Below w.heap.size w w' := by
  obtain ⟨PP, hPP⟩ : ∃ PP : Ending → World → Prop, (fun e w' => e = .returned (.bool c) ∧ Below w.heap.size w w') = PP := ⟨_, rfl⟩
  rw [hPP]
  have HPP := Lib.hid hPP
  obtain ⟨p1, c1, rfl, ha1, ha2, ha3⟩ := h1
  obtain ⟨p2, c2, rfl, hb1, hb2, hb3⟩ := h2
  clear hPP
  by_cases hlen : l1.length = l2.length
  · have hlI : ((l1.length : Int) != (l2.length : Int)) = false := by simp; omega
    go_enter Tryz.func14, Tryz.ntmps14
    go_wp2_with fail
    go_loopw [5] (fun s5 wr => ∃ i : Nat, s5 = .int .i64 (i : Nat) ∧ i ≤ l1.length ∧ Hid (l1.take i = l2.take i) ∧ Hid (Below w.heap.size w wr)) (fun s5 _ => l1.length - (intOf s5).toNat)
    case atStart => exact ⟨0, rfl, Nat.zero_le _, rfl, Below.refl _ _⟩
    case round =>
      obtain ⟨i, rfl, hi, hT, hB⟩ := hrel
      by_cases hlt : i < l1.length
      · obtain ⟨x, hx⟩ : ∃ x, l1[i]? = some x := ⟨_, List.getElem?_eq_getElem hlt⟩
        obtain ⟨y, hy⟩ : ∃ y, l2[i]? = some y := ⟨_, List.getElem?_eq_getElem (by omega)⟩
        obtain ⟨b1, o1, rfl, k1⟩ : ∃ b o, p1 = some ⟨b, o, none⟩ ∧ wr.cell? ⟨b, o + i, none⟩ = some (.string x) := by
          rcases ha3 with h | ⟨b, o, rfl, h⟩
          · rw [h] at hlt; simp at hlt
          · exact ⟨b, o, rfl, (hB.out.cell (World.block_lt_of_cell? w _ (h i x hx))).trans (h i x hx)⟩
        obtain ⟨b2, o2, rfl, k2⟩ : ∃ b o, p2 = some ⟨b, o, none⟩ ∧ wr.cell? ⟨b, o + i, none⟩ = some (.string y) := by
          rcases hb3 with h | ⟨b, o, rfl, h⟩
          · rw [h] at hy; simp at hy
          · exact ⟨b, o, rfl, (hB.out.cell (World.block_lt_of_cell? w _ (h i y hy))).trans (h i y hy)⟩
        have g1 : b1 < wr.heap.size := World.block_lt_of_cell? wr _ k1
        have g2 : b2 < wr.heap.size := World.block_lt_of_cell? wr _ k2
        have hltI : (i : Int) < (l1.length : Int) := by omega
        have hltI2 : (i : Int) < (l2.length : Int) := by omega
        have hi0 : (0 : Int) ≤ (i : Int) := by omega
        have HX := Lib.hid hx
        have HY := Lib.hid hy
        clear hx hy ha3 hb3
        by_cases hxy : x = y
        · have e1 : (x.toList == y.toList) = true := by simp [hxy]
          have HXY := Lib.hid hxy
          clear hxy
          go_wp2_with fail
          go_quiet (fail)
          go_wp2_with fail
          go_roundw
          case rel =>
            refine ⟨i + 1, by go_num, by omega, ?_, ⟨hB.out.os, hB.out.tape, hB.out.output, hB.out.size, hB.out.block⟩⟩
            show l1.take (i + 1) = l2.take (i + 1)
            rw [List.take_add_one, List.take_add_one, HX.out, HY.out, hT.out, HXY.out]
          case measure => simp [intOf]; omega
        · have e1 : (x.toList == y.toList) = false := by rw [beq_eq_false_iff_ne]; intro e; rw [ByteArray.toList_eq, ByteArray.toList_eq] at e; exact hxy (bytes_inj e)
          have hne : c = false := false_of hc (fun e => hxy (by have h1 := HX.out; rw [e, HY.out] at h1; injection h1 with h1; exact h1.symm))
          rw [hne] at HPP
          clear hxy
          go_wp2_with fail
          go_quiet (fail)
          go_wp2_with fail
          rw [← HPP.out]
          exact ⟨rfl, ⟨hB.out.os, hB.out.tape, hB.out.output, hB.out.size, hB.out.block⟩⟩
      · have hge : i = l1.length := by omega
        have hltI : ¬ ((i : Int) < (l1.length : Int)) := by omega
        have he : c = true := hc.2 (by
          have h := hT.out
          rw [hge, List.take_length, hlen, List.take_length] at h
          exact h)
        rw [he] at HPP
        go_wp2_with fail
        rw [← HPP.out]
        exact ⟨rfl, hB.out⟩
  · have hlI : ((l1.length : Int) != (l2.length : Int)) = true := by simp; omega
    have hne : c = false := false_of hc (fun e => hlen (by rw [e]))
    rw [hne] at HPP
    go_enter Tryz.func14, Tryz.ntmps14
    go_wp2_with fail
    rw [← HPP.out]
    exact ⟨rfl, Below.refl _ _⟩
end Go.Proofs.YtflomcbclofbaaaGreatDoor
