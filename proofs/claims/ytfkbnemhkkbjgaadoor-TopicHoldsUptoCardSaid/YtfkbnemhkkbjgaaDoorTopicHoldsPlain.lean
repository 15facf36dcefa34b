/- THE PLAIN LAW of TopicHolds: covers is an order, and meets goes along with it. -/
import Derived.Test.YtfkbnemhkkbjgaaDoorTopicNamesPlainB
namespace Go.Proofs.YtfkbnemhkkbjgaaDoor
open Go Go.RowKit Go.Lib

theorem covers_refl : ∀ A : List ByteArray, coversB A A = true
  | [] => rfl
  | x :: A => by
    cases h : (x.toList == [35])
    · rw [coversB_cons x x A A h h, covers_refl A]; simp
    · exact coversB_hash _ _ _ h

theorem covers_agree : ∀ A B n : List ByteArray, coversB A B = true → agreeB B n = true → agreeB A n = true
  | [], B, n, h, k => by
    cases B with
    | nil => exact k
    | cons y B => simp [coversB] at h
  | x :: A, B, n, h, k => by
    cases hx : (x.toList == [35])
    · cases B with
      | nil => rw [coversB_none x A hx] at h; simp at h
      | cons y B =>
        cases hy : (y.toList == [35])
        · rw [coversB_cons x y A B hx hy, Bool.and_eq_true] at h
          cases n with
          | nil => rw [agreeB_none y B hy] at k; simp at k
          | cons z n =>
            rw [agreeB_cons y z B n hy, Bool.and_eq_true] at k
            rw [agreeB_cons x z A n hx, covers_agree A B n h.2 k.2, Bool.and_true]
            have h1 := h.1
            have k1 := k.1
            simp only [Bool.or_eq_true, beq_iff_eq] at h1 k1 ⊢
            rcases h1 with h1 | h1
            · exact .inl h1
            · rw [h1]; exact k1
        · rw [coversB_stop x y A B hx hy] at h; simp at h
    · exact agreeB_hash _ _ _ hx

theorem covers_trans : ∀ A B C : List ByteArray, coversB A B = true → coversB B C = true → coversB A C = true
  | [], B, C, h, k => by
    cases B with
    | nil => exact k
    | cons y B => simp [coversB] at h
  | x :: A, B, C, h, k => by
    cases hx : (x.toList == [35])
    · cases B with
      | nil => rw [coversB_none x A hx] at h; simp at h
      | cons y B =>
        cases hy : (y.toList == [35])
        · rw [coversB_cons x y A B hx hy, Bool.and_eq_true] at h
          cases C with
          | nil => rw [coversB_none y B hy] at k; simp at k
          | cons z C =>
            cases hz : (z.toList == [35])
            · rw [coversB_cons y z B C hy hz, Bool.and_eq_true] at k
              rw [coversB_cons x z A C hx hz, covers_trans A B C h.2 k.2, Bool.and_true]
              have h1 := h.1
              have k1 := k.1
              simp only [Bool.or_eq_true, beq_iff_eq] at h1 k1 ⊢
              rcases h1 with h1 | h1
              · exact .inl h1
              · rw [h1]; exact k1
            · rw [coversB_stop y z B C hy hz] at k; simp at k
        · rw [coversB_stop x y A B hx hy] at h; simp at h
    · exact coversB_hash _ _ _ hx

theorem sumB_cons (x : ByteArray) (l : List ByteArray) : sumB (x :: l) = x.size + sumB l := by simp [sumB]
theorem size_of_eq {x y : ByteArray} (h : x.toList = y.toList) : x.size = y.size := by
  have := congrArg List.length h
  simpa [ByteArray.toList_eq] using this
theorem leastV_size {x z : ByteArray} (h : (x.toList == [43] || x.toList == z.toList) = true) : (leastV x).size ≤ z.size := by
  unfold leastV
  split
  · show 0 ≤ _; omega
  · rename_i h1
    simp only [Bool.or_eq_true, beq_iff_eq] at h h1
    rw [size_of_eq (h.resolve_left h1)]; exact Nat.le_refl _

theorem least_min : ∀ f n : List ByteArray, agreeB f n = true → (leastB f).length ≤ n.length ∧ sumB (leastB f) ≤ sumB n
  | [], n, _ => by simp [leastB, sumB]
  | x :: f, n, h => by
    unfold leastB
    cases hx : (x.toList == [35])
    · cases n with
      | nil => rw [agreeB_none x f hx] at h; simp at h
      | cons z n =>
        rw [agreeB_cons x z f n hx, Bool.and_eq_true] at h
        have ⟨i1, i2⟩ := least_min f n h.2
        have := leastV_size h.1
        simp only [Bool.false_eq_true, if_false, List.length_cons, sumB_cons]
        omega
    · simp [sumB]

/-- a shortest common name is no longer than any common name; and there is one where there is any -/
theorem short_min : ∀ f g n : List ByteArray, agreeB f n = true → agreeB g n = true → ∃ l, shortB f g = some l ∧ l.length ≤ n.length ∧ sumB l ≤ sumB n
  | [], [], n, _, _ => ⟨[], rfl, by simp, by simp [sumB]⟩
  | [], y :: g, n, h, k => by
    cases n with
    | nil =>
      cases hy : (y.toList == [35])
      · rw [agreeB_none y g hy] at k; simp at k
      · exact ⟨[], by simp [shortB, hy], by simp, by simp [sumB]⟩
    | cons z n => simp [agreeB] at h
  | x :: f, [], n, h, k => by
    cases n with
    | nil =>
      cases hx : (x.toList == [35])
      · rw [agreeB_none x f hx] at h; simp at h
      · exact ⟨[], by simp [shortB, hx], by simp, by simp [sumB]⟩
    | cons z n => simp [agreeB] at k
  | x :: f, y :: g, n, h, k => by
    unfold shortB
    cases hx : (x.toList == [35])
    · cases hy : (y.toList == [35])
      · cases n with
        | nil => rw [agreeB_none x f hx] at h; simp at h
        | cons z n =>
          rw [agreeB_cons x z f n hx, Bool.and_eq_true] at h
          rw [agreeB_cons y z g n hy, Bool.and_eq_true] at k
          obtain ⟨l, hl, h1, h2⟩ := short_min f g n h.2 k.2
          rw [hl]
          simp only [Bool.false_eq_true, if_false, Option.map_some]
          cases hp : (x.toList == [43])
          · have e : x.toList = z.toList := by have := h.1; rw [hp, Bool.false_or, beq_iff_eq] at this; exact this
            have e2 := size_of_eq e
            have k1 := k.1
            rw [← e] at k1
            simp only [Bool.false_eq_true, if_false]
            rw [if_pos k1]
            refine ⟨_, rfl, by simp; omega, ?_⟩
            rw [sumB_cons, sumB_cons]; omega
          · have := leastV_size k.1
            simp only [if_true]
            refine ⟨_, rfl, by simp; omega, ?_⟩
            rw [sumB_cons, sumB_cons]; omega
      · have ⟨i1, i2⟩ := least_min (x :: f) n h
        exact ⟨_, by simp only [Bool.false_eq_true, if_false, if_true], i1, i2⟩
    · have ⟨i1, i2⟩ := least_min (y :: g) n k
      exact ⟨_, by simp only [if_true], i1, i2⟩

theorem short_head {x y z : ByteArray} {f g r : List ByteArray} (hx : (x.toList == [35]) = false) (hy : (y.toList == [35]) = false) (h : shortB (x :: f) (y :: g) = some (z :: r)) :
    ((x.toList == [43]) = true ∧ z = leastV y) ∨ ((x.toList == [43]) = false ∧ z = x ∧ (y.toList == [43] || y.toList == x.toList) = true) := by
  unfold shortB at h
  rw [hx, hy] at h
  simp only [Bool.false_eq_true, if_false] at h
  cases hp : (x.toList == [43])
  · rw [hp] at h
    simp only [Bool.false_eq_true, if_false] at h
    split at h
    · rename_i hc
      obtain ⟨q, _, e⟩ := Option.map_eq_some_iff.1 h
      injection e with e1 e2
      exact .inr ⟨rfl, e1.symm, hc⟩
    · simp at h
  · rw [hp] at h
    simp only [if_true] at h
    obtain ⟨q, _, e⟩ := Option.map_eq_some_iff.1 h
    injection e with e1 e2
    exact .inl ⟨rfl, e1.symm⟩

/-- two filters meet -/
def Met (f g : ByteArray) : Prop := ∃ z r, shortB (wideB f) (wideB g) = some (z :: r) ∧ r.length + sumB (z :: r) ≤ 65535 ∧ (dollarB z.data.toList && ((wideH f).toList == [43] || (wideH g).toList == [43])) = false

theorem com_iff {f g : ByteArray} (hf : filterB f = true) (hg : filterB g = true) : (comB f g).isSome = true ↔ Met f g := by
  unfold comB Met
  rw [hf, hg]
  simp only [Bool.and_self, if_true]
  cases hs : shortB (wideB f) (wideB g) with
  | none => simp
  | some l =>
    have hne : l ≠ [] := by
      obtain ⟨r, hr⟩ := wideB_cons f
      obtain ⟨q, hq⟩ := wideB_cons g
      rw [hr, hq] at hs
      exact shortB_ne (wideB_hd f) (wideB_hd g) hs
    cases l with
    | nil => exact absurd rfl hne
    | cons z r =>
      simp only [Option.bind_some]
      rw [fin_isSome, Bool.and_eq_true, decide_eq_true_eq, Bool.not_eq_true']
      constructor
      · rintro ⟨h1, h2⟩; exact ⟨z, r, rfl, by omega, h2⟩
      · rintro ⟨z', r', e, h1, h2⟩
        injection e with e; injection e with e1 e2; subst e1; subst e2
        exact ⟨by omega, h2⟩

theorem leastV_of {y : ByteArray} (h : (y.toList == [43]) = false) : leastV y = y := by simp [leastV, h]
theorem leastV_plus {y : ByteArray} (h : (y.toList == [43]) = true) : leastV y = ⟨#[]⟩ := by simp [leastV, h]
theorem ba_ext {x y : ByteArray} (h : x.toList = y.toList) : x = y := by
  rw [ByteArray.toList_eq, ByteArray.toList_eq] at h; exact ByteArray.ext (Array.toList_inj.1 h)
theorem dollarB_nil : dollarB (⟨#[]⟩ : ByteArray).data.toList = false := rfl
theorem plus_dollar {x : ByteArray} (h : (x.toList == [43]) = true) : dollarB x.data.toList = false := dollarB_plus x (by simpa using h)

theorem met_symm {f g : ByteArray} (h : Met f g) : Met g f := by
  obtain ⟨z, r, hs, hn, hd⟩ := h
  obtain ⟨a, ha⟩ := wideB_cons f
  obtain ⟨b, hb⟩ := wideB_cons g
  have fh := wideB_hd f
  have gh := wideB_hd g
  have ⟨a1, a2⟩ := shortB_agree _ _ _ hs
  obtain ⟨l, hl, l1, l2⟩ := short_min _ _ _ a2 a1
  rw [ha, hb] at hs hl
  have k := short_head fh gh hs
  cases l with
  | nil => exact absurd rfl (shortB_ne gh fh hl)
  | cons z' r' =>
    have k' := short_head gh fh hl
    refine ⟨z', r', by rw [ha, hb]; exact hl, by simp at l1; omega, ?_⟩
    generalize wideH f = x at *
    generalize wideH g = y at *
    have np : ∀ {t : ByteArray}, (t.toList == [43]) = false → ¬ (t.toList == [43]) = true := fun h e => by rw [h] at e; cases e
    have pn : ∀ {t : ByteArray}, (t.toList == [43]) = true → ¬ (t.toList == [43]) = false := fun h e => by rw [h] at e; cases e
    cases hx : (x.toList == [43]) <;> cases hy : (y.toList == [43])
    · simp
    · have k1 := (k.resolve_left (fun e => np hx e.1)).2.1
      have k2 := (k'.resolve_right (fun e => pn hy e.1)).2
      rw [hx, hy, k1, Bool.false_or, Bool.and_true] at hd
      rw [k2, leastV_of hx, Bool.or_false, Bool.and_true]
      exact hd
    · have k1 := (k.resolve_right (fun e => pn hx e.1)).2
      have k2 := (k'.resolve_left (fun e => np hy e.1)).2.1
      rw [hx, k1, leastV_of hy, Bool.true_or, Bool.and_true] at hd
      rw [k2, Bool.false_or, Bool.and_true]
      exact hd
    · have k2 := (k'.resolve_right (fun e => pn hy e.1)).2
      rw [k2, leastV_plus hx]; rfl

/-- what covers g meets all that g meets -/
theorem met_cov {f g h : ByteArray} (hc : coversB (wideB f) (wideB g) = true) (hd : ((wideH f).toList == [43] && dollarB (wideH g).data.toList) = false) (hm : Met g h) : Met f h := by
  obtain ⟨z, r, hs, hn, hd2⟩ := hm
  obtain ⟨a, ha⟩ := wideB_cons f
  obtain ⟨b, hb⟩ := wideB_cons g
  obtain ⟨c, hcc⟩ := wideB_cons h
  have fh := wideB_hd f
  have gh := wideB_hd g
  have hh := wideB_hd h
  have ⟨a1, a2⟩ := shortB_agree _ _ _ hs
  obtain ⟨l, hl, l1, l2⟩ := short_min _ _ _ (covers_agree _ _ _ hc a1) a2
  rw [hb, hcc] at hs
  rw [ha, hcc] at hl
  rw [ha, hb, coversB_cons _ _ _ _ fh gh, Bool.and_eq_true] at hc
  have k := short_head gh hh hs
  cases l with
  | nil => exact absurd rfl (shortB_ne fh hh hl)
  | cons z' r' =>
    have k' := short_head fh hh hl
    refine ⟨z', r', by rw [ha, hcc]; exact hl, by simp at l1; omega, ?_⟩
    have hc1 := hc.1
    clear hl hs hc l1 l2 hn a1 a2
    generalize wideH f = x at *
    generalize wideH g = y at *
    generalize wideH h = t at *
    have np : ∀ {t : ByteArray}, (t.toList == [43]) = false → ¬ (t.toList == [43]) = true := fun h e => by rw [h] at e; cases e
    have pn : ∀ {t : ByteArray}, (t.toList == [43]) = true → ¬ (t.toList == [43]) = false := fun h e => by rw [h] at e; cases e
    cases hx : (x.toList == [43])
    · have k2 := (k'.resolve_left (fun e => np hx e.1)).2.1
      rw [hx, Bool.false_or] at hc1
      have e : x = y := toList_inj.1 hc1
      subst e
      have k1 := (k.resolve_left (fun e => np hx e.1)).2.1
      rw [hx, k1] at hd2
      rw [k2]; exact hd2
    · have k2 := (k'.resolve_right (fun e => pn hx e.1)).2
      rw [hx, Bool.true_and] at hd
      rw [k2, Bool.true_or, Bool.and_true]
      cases ht : (t.toList == [43])
      · rw [leastV_of ht]
        cases hy : (y.toList == [43])
        · have k1 := (k.resolve_left (fun e => np hy e.1)).2.2
          rw [ht, Bool.false_or] at k1
          have e : t = y := toList_inj.1 k1
          rw [e]; exact hd
        · have k1 := (k.resolve_right (fun e => pn hy e.1)).2
          rw [hy, k1, leastV_of ht, Bool.true_or, Bool.and_true] at hd2
          exact hd2
      · rw [leastV_plus ht]; rfl

theorem filter_size {g : ByteArray} (h : filterB g = true) : g.size ≤ 65535 := by
  unfold filterB plainB at h
  simp only [Bool.and_eq_true, decide_eq_true_eq] at h
  have : g.data.toList.length = g.size := by simp
  omega
theorem leastB_size : ∀ l : List ByteArray, (leastB l).length ≤ l.length ∧ sumB (leastB l) ≤ sumB l
  | [] => by simp [leastB, sumB]
  | x :: l => by
    have ⟨i1, i2⟩ := leastB_size l
    have h : (leastV x).size ≤ x.size := leastV_size (by simp)
    unfold leastB
    split
    · simp [sumB]
    · simp only [List.length_cons, sumB_cons]; omega
theorem wide_least_size {g : ByteArray} (h : filterB g = true) : (leastB (wideB g)).length + sumB (leastB (wideB g)) ≤ 65536 := by
  have hs := filter_size h
  unfold wideB
  split
  · have e : leastB [⟨#[43]⟩, ⟨#[35]⟩] = [⟨#[]⟩] := by simp [leastB, leastV, ByteArray.toList_eq]
    rw [e]; decide
  · split
    · have e : leastB [⟨#[]⟩, ⟨#[43]⟩, ⟨#[35]⟩] = [⟨#[]⟩, ⟨#[]⟩] := by simp [leastB, leastV, ByteArray.toList_eq]
      rw [e]; decide
    · have ⟨i1, i2⟩ := leastB_size (levels g)
      obtain ⟨r, hr⟩ := levels_head g
      have := joinB_size (headS g) r
      rw [← hr, join_levels] at this
      rw [hr] at i1
      simp only [List.length_cons] at i1
      rw [hr] at this ⊢ i2
      omega
theorem met_refl {g : ByteArray} (h : filterB g = true) : Met g g := by
  have hw := wide_least_size h
  obtain ⟨b, hb⟩ := wideB_cons g
  have gh := wideB_hd g
  have al := agree_least (wideB g)
  obtain ⟨l, hl, l1, l2⟩ := short_min _ _ _ al al
  have hl' := hl
  rw [hb] at hl
  cases l with
  | nil => exact absurd rfl (shortB_ne gh gh hl)
  | cons z r =>
    have k := short_head gh gh hl
    refine ⟨z, r, hl', by simp at l1; omega, ?_⟩
    cases hx : ((wideH g).toList == [43])
    · simp
    · have k1 := (k.resolve_right (fun e => by rw [hx] at e; cases e.1)).2
      rw [k1, leastV_plus hx]; rfl
end Go.Proofs.YtfkbnemhkkbjgaaDoor
