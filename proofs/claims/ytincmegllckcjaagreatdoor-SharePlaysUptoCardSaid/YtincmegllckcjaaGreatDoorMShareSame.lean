/- TRIE: the law's same. TRIE: what match finds is what the document's Match says. -/
import Derived.Deep.QuietTactic
import Derived.BigQuiet
import Derived.Test.YtincmegllckcjaaGreatDoorMTrieOf
namespace Go.Proofs.YtincmegllckcjaaGreatDoor
section
open Go Go.RowKit
attribute [local go_sem ↓] Go.wp_at_zero Go.wp_at_succ

/-- a slice of numbers, whosever it is -/
def IS (w : World) (v : Value) (l : List Int) : Prop :=
  ∃ p cap, v = .slice p l.length cap ∧ l.length ≤ cap ∧ cap ≤ 9223372036854775807 ∧ (l = [] ∨ ∃ b o, p = some ⟨b, o, none⟩ ∧ ∀ (j : Nat) x, l[j]? = some x → w.cell? ⟨b, o + j, none⟩ = some (.int .i64 x))
theorem IRow.is {W : World} {base : Nat} {v : Value} {zs : List Int} (h : IRow W base v zs) : IS W v zs := by
  rcases h.form with ⟨rfl, rfl⟩ | ⟨g, cap, cur, rfl, -, -, -, h3, h4, -, -, hc⟩
  · exact ⟨none, 0, rfl, Nat.le_refl _, by omega, .inl rfl⟩
  · refine ⟨_, cap, rfl, h3, by unfold maxLen at h4; omega, .inr ⟨g, 0, rfl, fun j x hj => ?_⟩⟩
    have hjl : j < zs.length := (List.getElem?_eq_some_iff.1 hj).1
    rw [Nat.zero_add, hc j hjl]
    unfold List.getD
    rw [hj]; rfl
theorem IS.below {w w' : World} {v : Value} {l : List Int} (h : IS w v l) (hb : Below w.heap.size w w') : IS w' v l := by
  obtain ⟨p, cap, rfl, h1, h2, h3⟩ := h
  refine ⟨p, cap, rfl, h1, h2, ?_⟩
  rcases h3 with h3 | ⟨b, o, rfl, h3⟩
  · exact .inl h3
  · exact .inr ⟨b, o, rfl, fun j x hj => (hb.cell (World.block_lt_of_cell? w _ (h3 j x hj))).trans (h3 j x hj)⟩
set_option maxRecDepth 100000 in
set_option maxHeartbeats 4000000 in
theorem same_any (w : World) (v1 v2 : Value) (l1 l2 : List Int) (h1 : IS w v1 l1) (h2 : IS w v2 l2) :
    Calls Tryz.prog 21 #[v1, v2] w fun e w' => e = .returned (.bool (decide (l1 = l2))) ∧ Below w.heap.size w w' := by
  obtain ⟨PP, hPP⟩ : ∃ PP : Ending → World → Prop, (fun e w' => e = .returned (.bool (decide (l1 = l2))) ∧ Below w.heap.size w w') = PP := ⟨_, rfl⟩
  rw [hPP]
  have HPP := Lib.hid hPP
  obtain ⟨p1, c1, rfl, ha1, ha2, ha3⟩ := h1
  obtain ⟨p2, c2, rfl, hb1, hb2, hb3⟩ := h2
  clear hPP
  by_cases hlen : l1.length = l2.length
  · have hlI : ((l1.length : Int) != (l2.length : Int)) = false := by simp; omega
    go_enter Tryz.func21, Tryz.ntmps21
    go_wp2_with fail
    go_loopw [5] (fun s5 wr => ∃ i : Nat, s5 = .int .i64 (i : Nat) ∧ i ≤ l1.length ∧ Hid (l1.take i = l2.take i) ∧ Hid (Below w.heap.size w wr)) (fun s5 _ => l1.length - (intOf s5).toNat)
    case atStart => exact ⟨0, rfl, Nat.zero_le _, rfl, Below.refl _ _⟩
    case round =>
      obtain ⟨i, rfl, hi, hT, hB⟩ := hrel
      by_cases hlt : i < l1.length
      · obtain ⟨x, hx⟩ : ∃ x, l1[i]? = some x := ⟨_, List.getElem?_eq_getElem hlt⟩
        obtain ⟨y, hy⟩ : ∃ y, l2[i]? = some y := ⟨_, List.getElem?_eq_getElem (by omega)⟩
        obtain ⟨b1, o1, rfl, k1⟩ : ∃ b o, p1 = some ⟨b, o, none⟩ ∧ wr.cell? ⟨b, o + i, none⟩ = some (.int .i64 x) := by
          rcases ha3 with h | ⟨b, o, rfl, h⟩
          · rw [h] at hlt; simp at hlt
          · exact ⟨b, o, rfl, (hB.out.cell (World.block_lt_of_cell? w _ (h i x hx))).trans (h i x hx)⟩
        obtain ⟨b2, o2, rfl, k2⟩ : ∃ b o, p2 = some ⟨b, o, none⟩ ∧ wr.cell? ⟨b, o + i, none⟩ = some (.int .i64 y) := by
          rcases hb3 with h | ⟨b, o, rfl, h⟩
          · rw [h] at hy; simp at hy
          · exact ⟨b, o, rfl, (hB.out.cell (World.block_lt_of_cell? w _ (h i y hy))).trans (h i y hy)⟩
        have g1 : b1 < wr.heap.size := World.block_lt_of_cell? wr _ k1
        have g2 : b2 < wr.heap.size := World.block_lt_of_cell? wr _ k2
        have hltI : (i : Int) < (l1.length : Int) := by omega
        have hltI2 : (i : Int) < (l2.length : Int) := by omega
        have hi0 : (0 : Int) ≤ (i : Int) := by omega
        have HX := Lib.hid hx
        have HY := Lib.hid hy
        clear hx hy ha3 hb3
        by_cases hxy : x = y
        · have e1 : (x != y) = false := by simp [hxy]
          have HXY := Lib.hid hxy
          clear hxy
          go_wp2_with fail
          go_quiet (fail)
          go_wp2_with fail
          go_roundw
          case rel =>
            refine ⟨i + 1, by go_num, by omega, ?_, ⟨hB.out.os, hB.out.tape, hB.out.output, hB.out.size, hB.out.block⟩⟩
            show l1.take (i + 1) = l2.take (i + 1)
            rw [List.take_add_one, List.take_add_one, HX.out, HY.out, hT.out, HXY.out]
          case measure => simp [intOf]; omega
        · have e1 : (x != y) = true := by simp [hxy]
          have hne : decide (l1 = l2) = false := decide_eq_false (fun e => hxy (by have h1 := HX.out; rw [e, HY.out] at h1; injection h1 with h1; exact h1.symm))
          rw [hne] at HPP
          clear hxy
          go_wp2_with fail
          go_quiet (fail)
          go_wp2_with fail
          rw [← HPP.out]
          exact ⟨rfl, ⟨hB.out.os, hB.out.tape, hB.out.output, hB.out.size, hB.out.block⟩⟩
      · have hge : i = l1.length := by omega
        have hltI : ¬ ((i : Int) < (l1.length : Int)) := by omega
        have he : decide (l1 = l2) = true := decide_eq_true (by
          have h := hT.out
          rw [hge, List.take_length, hlen, List.take_length] at h
          exact h)
        rw [he] at HPP
        go_wp2_with fail
        rw [← HPP.out]
        exact ⟨rfl, hB.out⟩
  · have hlI : ((l1.length : Int) != (l2.length : Int)) = true := by simp; omega
    have hne : decide (l1 = l2) = false := decide_eq_false (fun e => hlen (by rw [e]))
    rw [hne] at HPP
    go_enter Tryz.func21, Tryz.ntmps21
    go_wp2_with fail
    rw [← HPP.out]
    exact ⟨rfl, Below.refl _ _⟩
end
section
open Go Go.RowKit

theorem is_lit {x : ByteArray} (c : UInt8) : (x.toList == [c]) = true ↔ x = ⟨#[c]⟩ := by
  rw [beq_iff_eq, ByteArray.toList_eq]
  constructor
  · intro h; exact bytes_inj h
  · rintro rfl; rfl
theorem is_same {x y : ByteArray} : (x.toList == y.toList) = true ↔ x = y := by
  rw [beq_iff_eq, ByteArray.toList_eq, ByteArray.toList_eq]
  constructor
  · exact bytes_inj
  · rintro rfl; rfl
def wildHead : List ByteArray → Bool
  | [] => false
  | x :: _ => wildB x
def plainL (y : ByteArray) : Prop := hasB y.data.toList 43 35 = false
theorem plain_hash {y : ByteArray} (h : plainL y) : y ≠ hashS := by rintro rfl; unfold plainL at h; revert h; decide
theorem plain_plus {y : ByteArray} (h : plainL y) : y ≠ plusS := by rintro rfl; unfold plainL at h; revert h; decide
theorem levOk_hash {f : List ByteArray} (h : levOk (hashS :: f) = true) : f = [] := by
  unfold levOk at h
  have e1 : hasB hashS.data.toList 43 35 = true := by decide
  have e2 : (hashS.toList == [43]) = false := by decide +kernel
  rw [e1, e2] at h
  simp at h
  exact h.1.2
theorem levOk_tail {x : ByteArray} {f : List ByteArray} (h : levOk (x :: f) = true) : levOk f = true := by
  unfold levOk at h
  simp only [Bool.and_eq_true] at h
  exact h.2
theorem agr_agree : ∀ (n : List ByteArray), (∀ y ∈ n, plainL y) → ∀ (wild : Bool) (F : List ByteArray), levOk F = true → (Agr n wild F ↔ agreeB F n = true ∧ (wild = true ∨ wildHead F = false))
  | [], _, wild, F, hF => by
    unfold Agr
    cases F with
    | nil => simp [agreeB, wildHead]
    | cons x f =>
      by_cases hx : x = hashS
      · subst hx
        have hf := levOk_hash hF
        subst hf
        have e1 : agreeB [hashS] [] = true := by decide +kernel
        have e2 : wildHead [hashS] = true := by decide +kernel
        rw [e1, e2]
        simp
      · have e1 : (x.toList == [35]) = false := by
          cases h : (x.toList == [35])
          · rfl
          · exact absurd ((is_lit 35).1 h) hx
        have e2 : agreeB (x :: f) [] = false := by unfold agreeB; rw [e1]; rfl
        rw [e2]
        simp [hx]
  | y :: n, hn, wild, F, hF => by
    have hy := hn y (List.mem_cons_self ..)
    have ih := agr_agree n (fun z hz => hn z (List.mem_cons_of_mem _ hz)) true
    unfold Agr
    cases F with
    | nil => simp [agreeB]
    | cons x f =>
      have hf := levOk_tail hF
      by_cases hx : x = hashS
      · subst hx
        have hf := levOk_hash hF
        subst hf
        have e1 : agreeB [hashS] (y :: n) = true := by
          unfold agreeB
          rw [show (hashS.toList == [35]) = true from (is_lit 35).2 rfl]
          rfl
        have e2 : wildHead [hashS] = true := by decide +kernel
        have e3 : hashS ≠ plusS := by intro e; have := congrArg (fun s => s.data.toList) e; revert this; decide
        rw [e1, e2]
        constructor
        · rintro (⟨h, -⟩ | ⟨F', h, -⟩ | ⟨F', h, -⟩)
          · exact ⟨rfl, .inl h⟩
          · injection h with h; exact absurd h e3
          · injection h with h; exact absurd h.symm (plain_hash hy)
        · rintro ⟨-, h | h⟩
          · exact .inl ⟨h, rfl⟩
          · cases h
      · have e1 : (x.toList == [35]) = false := by
          cases h : (x.toList == [35])
          · rfl
          · exact absurd ((is_lit 35).1 h) hx
        have e2 : agreeB (x :: f) (y :: n) = ((x.toList == [43] || x.toList == y.toList) && agreeB f n) := by
          rw [agreeB, e1]; rfl
        have e4 : wildHead (x :: f) = (x.toList == [43]) := by
          show (x.toList == [43] || x.toList == [35]) = _
          rw [e1, Bool.or_false]
        rw [e2, e4]
        by_cases hp : x = plusS
        · have e5 : (x.toList == [43]) = true := (is_lit 43).2 hp
          rw [e5]
          simp only [Bool.true_or, Bool.true_and]
          constructor
          · rintro (⟨-, h⟩ | ⟨F', h, hw, h2⟩ | ⟨F', h, -⟩)
            · injection h with h; exact absurd h hx
            · injection h with _ h
              subst h
              exact ⟨((ih f hf).1 h2).1, .inl hw⟩
            · injection h with h; exact absurd (h.symm.trans hp) (plain_plus hy)
          · rintro ⟨h, hw | hw⟩
            · exact .inr (.inl ⟨f, by rw [hp], hw, (ih f hf).2 ⟨h, .inl rfl⟩⟩)
            · cases hw
        · have e5 : (x.toList == [43]) = false := by
            cases h : (x.toList == [43])
            · rfl
            · exact absurd ((is_lit 43).1 h) hp
          rw [e5]
          simp only [Bool.false_or, Bool.and_eq_true]
          constructor
          · rintro (⟨-, h⟩ | ⟨F', h, -⟩ | ⟨F', h, h2⟩)
            · injection h with h; exact absurd h hx
            · injection h with h; exact absurd h hp
            · injection h with h1 h
              subst h
              exact ⟨⟨is_same.2 h1, ((ih f hf).1 h2).1⟩, .inr trivial⟩
          · rintro ⟨⟨h1, h⟩, -⟩
            exact .inr (.inr ⟨f, by rw [is_same.1 h1], (ih f hf).2 ⟨h, .inl rfl⟩⟩)
theorem hasB_iff (c d : Int) (l : List UInt8) : hasB l c d = true ↔ ∃ b ∈ l, (((b.toNat : Nat) : Int) == c || ((b.toNat : Nat) : Int) == d) = true := by
  induction l with
  | nil => simp [hasB]
  | cons b l ih =>
    rw [show hasB (b :: l) c d = ((((b.toNat : Nat) : Int) == c || ((b.toNat : Nat) : Int) == d) || hasB l c d) from rfl, Bool.or_eq_true, ih]
    constructor
    · rintro (h | ⟨a, ha, h⟩)
      · exact ⟨b, List.mem_cons_self .., h⟩
      · exact ⟨a, List.mem_cons_of_mem _ ha, h⟩
    · rintro ⟨a, ha, h⟩
      rcases List.mem_cons.1 ha with rfl | ha
      · exact .inl h
      · exact .inr ⟨a, ha, h⟩
theorem mem_splitS (l : List UInt8) : ∀ x ∈ splitS l, ∀ c ∈ x, c ∈ l := by
  induction l with
  | nil => intro x hx c hc; unfold splitS at hx; rw [List.mem_singleton] at hx; subst hx; cases hc
  | cons b l ih =>
    intro x hx c hc
    unfold splitS at hx
    split at hx
    · rcases List.mem_cons.1 hx with rfl | hx
      · cases hc
      · exact List.mem_cons_of_mem _ (ih x hx c hc)
    · split at hx
      · rename_i h; exact absurd h (splitS_ne l)
      · rename_i h t heq
        rw [heq] at ih
        rcases List.mem_cons.1 hx with rfl | hx
        · rcases List.mem_cons.1 hc with rfl | hc
          · exact List.mem_cons_self ..
          · exact List.mem_cons_of_mem _ (ih h (List.mem_cons_self ..) c hc)
        · exact List.mem_cons_of_mem _ (ih x (List.mem_cons_of_mem _ hx) c hc)
theorem name_plain {n : ByteArray} (h : nameB n.data.toList = true) : ∀ y ∈ levels n, plainL y := by
  intro y hy
  obtain ⟨z, hz, rfl⟩ := List.mem_map.1 hy
  unfold nameB at h
  simp only [Bool.and_eq_true, Bool.not_eq_true'] at h
  unfold plainL
  have e : (ba z).data.toList = z := by simp [ba]
  rw [e]
  cases hz2 : hasB z 43 35 with
  | false => rfl
  | true =>
    obtain ⟨b, hb, h3⟩ := (hasB_iff 43 35 z).1 hz2
    have := (hasB_iff 43 35 n.data.toList).2 ⟨b, mem_splitS _ z hz b hb, h3⟩
    rw [h.2] at this
    cases this
theorem agr_match {f n : ByteArray} (hf : filterB f = true) (hn : nameB n.data.toList = true) : Agr (levels n) (!dollarB n.data.toList) (levels f) ↔ matchB f n = true := by
  have hl : levOk (levels f) = true := by unfold filterB at hf; simp only [Bool.and_eq_true] at hf; exact hf.2
  rw [agr_agree (levels n) (name_plain hn) _ _ hl]
  unfold matchB
  rw [hf, hn]
  have e : wildHead (levels f) = wildB (headS f) := by
    unfold headS
    cases h : levels f with
    | nil => exact absurd h (levels_ne f)
    | cons a r => rfl
  rw [e]
  cases dollarB n.data.toList <;> cases wildB (headS f) <;> simp
theorem heard_match {l : Subs} (h : ∀ x ∈ l, filterB x.1 = true) (s : ByteArray) (z : Int) : heardBy l s z ↔ ∃ f, (f, z) ∈ l ∧ matchB f s = true := by
  unfold heardBy
  constructor
  · rintro ⟨hn, f, hf, ha⟩
    exact ⟨f, hf, (agr_match (h _ hf) hn).1 ha⟩
  · rintro ⟨f, hf, hm⟩
    have hn : nameB s.data.toList = true := by
      unfold matchB at hm
      simp only [Bool.and_eq_true] at hm
      exact hm.2.1
    exact ⟨hn, f, hf, (agr_match (h _ hf) hn).2 hm⟩
end
end Go.Proofs.YtincmegllckcjaaGreatDoor
