/- THE PLAIN LAW of TopicHolds: of covers, meets and match. -/
import Derived.Test.YtfkbnemhkkbjgaaDoorTopicHoldsPlain
namespace Go.Proofs.YtfkbnemhkkbjgaaDoor
open Go Go.RowKit Go.Lib

theorem cov_parts {f g : ByteArray} (h : covB f g = true) : coversB (wideB f) (wideB g) = true ∧ ((wideH f).toList == [43] && dollarB (wideH g).data.toList) = false := by
  unfold covB at h
  simp only [Bool.and_eq_true, Bool.not_eq_true'] at h
  exact ⟨h.2.2.2, h.2.2.1⟩
theorem cov_mk {f g : ByteArray} (hf : filterB f = true) (hg : filterB g = true) (h : coversB (wideB f) (wideB g) = true) (hd : ((wideH f).toList == [43] && dollarB (wideH g).data.toList) = false) : covB f g = true := by
  unfold covB; rw [hf, hg, hd, h]; rfl

theorem holds_refl {f : ByteArray} (hf : filterB f = true) : covB f f = true := by
  refine cov_mk hf hf (covers_refl _) ?_
  cases hx : ((wideH f).toList == [43])
  · rfl
  · rw [plus_dollar hx]; rfl

theorem holds_trans {f g h : ByteArray} (hf : filterB f = true) (hh : filterB h = true) (h1 : covB f g = true) (h2 : covB g h = true) : covB f h = true := by
  obtain ⟨c1, d1⟩ := cov_parts h1
  obtain ⟨c2, d2⟩ := cov_parts h2
  refine cov_mk hf hh (covers_trans _ _ _ c1 c2) ?_
  obtain ⟨b, hb⟩ := wideB_cons g
  obtain ⟨c, hc⟩ := wideB_cons h
  rw [hb, hc, coversB_cons _ _ _ _ (wideB_hd g) (wideB_hd h), Bool.and_eq_true] at c2
  cases hx : ((wideH f).toList == [43])
  · rfl
  · rw [hx, Bool.true_and] at d1
    rw [Bool.true_and]
    cases hy : ((wideH g).toList == [43])
    · have := c2.1
      rw [hy, Bool.false_or] at this
      rw [← toList_inj.1 this]; exact d1
    · rw [hy, Bool.true_and] at d2; exact d2

theorem holds_meet {f g : ByteArray} (hf : filterB f = true) (hg : filterB g = true) (h1 : covB f g = true) : (comB f g).isSome = true := by
  obtain ⟨c1, d1⟩ := cov_parts h1
  exact (com_iff hf hg).2 (met_cov c1 d1 (met_refl hg))
theorem holds_meets {f g h : ByteArray} (hf : filterB f = true) (hg : filterB g = true) (hh : filterB h = true) (h1 : covB f g = true) (h2 : (comB g h).isSome = true) : (comB f h).isSome = true := by
  obtain ⟨c1, d1⟩ := cov_parts h1
  exact (com_iff hf hh).2 (met_cov c1 d1 ((com_iff hg hh).1 h2))
theorem holds_symm {f g : ByteArray} (hf : filterB f = true) (hg : filterB g = true) : (comB g f).isSome = (comB f g).isSome :=
  bool_eq ⟨fun h => (com_iff hf hg).2 (met_symm ((com_iff hg hf).1 h)), fun h => (com_iff hg hf).2 (met_symm ((com_iff hf hg).1 h))⟩

theorem wideH_eq {g : ByteArray} (h : ((headS g).toList == [35]) = false) : wideH g = headS g := by
  unfold wideH wideB
  rw [h]
  cases h2 : (g.toList == [47, 35])
  · rfl
  · have hl := levels_hash h2
    unfold headS; rw [hl]; rfl

theorem levels_wide {f : ByteArray} {n : List ByteArray} (hn : n ≠ []) (hn2 : n ≠ [⟨#[]⟩]) (h : agreeB (levels f) n = true) : agreeB (wideB f) n = true := by
  unfold wideB
  have e43 : ((⟨#[43]⟩ : ByteArray).toList == [35]) = false := by simp [ByteArray.toList_eq]
  have p43 : ((⟨#[43]⟩ : ByteArray).toList == [43]) = true := by simp [ByteArray.toList_eq]
  have e35 : ((⟨#[35]⟩ : ByteArray).toList == [35]) = true := by simp [ByteArray.toList_eq]
  have e0 : ((⟨#[]⟩ : ByteArray).toList == [35]) = false := by simp [ByteArray.toList_eq]
  have e01 : ((⟨#[]⟩ : ByteArray).toList == [43]) = false := by simp [ByteArray.toList_eq]
  split
  · cases n with
    | nil => exact absurd rfl hn
    | cons z n => rw [agreeB_cons _ _ _ _ e43, p43, agreeB_hash _ _ _ e35]; rfl
  · split
    · rename_i h2
      rw [levels_hash h2] at h
      cases n with
      | nil => exact absurd rfl hn
      | cons z n =>
        rw [agreeB_cons _ _ _ _ e0, e01, Bool.false_or, Bool.and_eq_true] at h
        have hz : (⟨#[]⟩ : ByteArray) = z := toList_inj.1 h.1
        subst hz
        cases n with
        | nil => exact absurd rfl hn2
        | cons t n =>
          rw [agreeB_cons _ _ _ _ e0, agreeB_cons _ _ _ _ e43, p43, agreeB_hash _ _ _ e35]; simp
    · exact h

theorem name_ne {n : ByteArray} (h : nameB n.data.toList = true) : levels n ≠ [⟨#[]⟩] := by
  intro e
  have h1 := join_levels n
  rw [e] at h1
  have h2 := nameB_size h
  rw [← h1] at h2
  simp [joinB, joinS, ba] at h2
  exact absurd h2 (by decide)

theorem holds_match {f g n : ByteArray} (hf : filterB f = true) (h1 : covB f g = true) (h2 : matchB g n = true) : matchB f n = true := by
  obtain ⟨c1, d1⟩ := cov_parts h1
  unfold matchB at h2
  simp only [Bool.and_eq_true, Bool.not_eq_true'] at h2
  obtain ⟨hg, hn, hw, ha⟩ := h2
  unfold matchB
  rw [hf, hn, wide_levels (levels_ne n) (covers_agree _ _ _ c1 (levels_wide (levels_ne n) (name_ne hn) ha))]
  simp only [Bool.true_and, Bool.and_true, Bool.not_eq_true']
  cases hx : wildB (headS f)
  · rfl
  · rw [Bool.true_and]
    rw [wild_wide hx, Bool.true_and] at d1
    cases hd : dollarB n.data.toList
    · rfl
    · exfalso
      rw [hd, Bool.and_true] at hw
      unfold wildB at hw
      rw [Bool.or_eq_false_iff] at hw
      rw [wideH_eq hw.2] at d1
      obtain ⟨r, hr⟩ := levels_head g
      obtain ⟨q, hq⟩ := levels_head n
      rw [hr, hq, agreeB_cons _ _ _ _ hw.2, hw.1, Bool.false_or, Bool.and_eq_true] at ha
      rw [toList_inj.1 ha.1] at d1
      have := dollar_join (headS n) q
      rw [← hq, join_levels, hd, d1] at this
      simp at this
end Go.Proofs.YtfkbnemhkkbjgaaDoor
