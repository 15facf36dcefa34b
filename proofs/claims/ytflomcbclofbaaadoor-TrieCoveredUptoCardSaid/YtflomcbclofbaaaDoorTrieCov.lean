/- TRIE: what is covered is matched (out of the topic chapter's texts). -/
import Derived.Test.YtflomcbclofbaaaDoorTopicRefE
namespace Go.Proofs.YtflomcbclofbaaaDoor
open Go Go.RowKit Go.Lib

/-- a common name's text -/
def joinB (l : List ByteArray) : ByteArray := ba (joinS (l.map fun x => x.data.toList))
theorem dollar_join (x : ByteArray) (r : List ByteArray) : dollarB (joinB (x :: r)).data.toList = dollarB x.data.toList := by
  unfold joinB
  have e : ∀ l : List UInt8, (ba l).data.toList = l := fun l => by simp [ba]
  rw [e]
  cases r with
  | nil => rfl
  | cons y r =>
    simp only [List.map_cons, joinS]
    cases x.data.toList with
    | nil => rfl
    | cons c t => rfl
theorem levels_hash {f : ByteArray} (h : (f.toList == [47, 35]) = true) : levels f = [⟨#[]⟩, ⟨#[35]⟩] := by
  have e : f.data.toList = [47, 35] := by rw [ByteArray.toList_eq] at h; simpa using h
  unfold levels; rw [e]; rfl
theorem levels_head (f : ByteArray) : ∃ r, levels f = headS f :: r := by
  unfold headS
  cases h : levels f with
  | nil => exact absurd h (levels_ne f)
  | cons x r => exact ⟨r, rfl⟩
theorem wide_levels {f : ByteArray} {n : List ByteArray} (hn : n ≠ []) (h : agreeB (wideB f) n = true) : agreeB (levels f) n = true := by
  unfold wideB at h
  split at h
  · rename_i hh
    obtain ⟨r, hr⟩ := levels_head f
    rw [hr]; exact agreeB_hash _ _ _ hh
  · split at h
    · rename_i hh
      rw [levels_hash hh]
      cases n with
      | nil => exact absurd rfl hn
      | cons y n =>
        simp [agreeB, ByteArray.toList_eq] at h ⊢
        exact h.1
    · exact h
theorem wild_wide {f : ByteArray} (h : wildB (headS f) = true) : ((wideH f).toList == [43]) = true := by
  unfold wildB at h
  unfold wideH wideB
  split
  · simp [ByteArray.toList_eq]
  · rename_i hh
    split
    · rename_i h2
      have hl := levels_hash h2
      obtain ⟨r, hr⟩ := levels_head f
      rw [hl] at hr
      have : headS f = ⟨#[]⟩ := by injection hr with h _; exact h.symm
      rw [this] at h
      simp [ByteArray.toList_eq] at h
    · have h1 : ((headS f).toList == [35]) = false := by simpa using hh
      rw [h1, Bool.or_false] at h
      exact h
theorem toList_inj {x y : ByteArray} : (x.toList == y.toList) = true ↔ x = y := by
  rw [beq_iff_eq, ByteArray.toList_eq, ByteArray.toList_eq]
  constructor
  · intro h; exact ByteArray.ext (Array.toList_inj.1 h)
  · rintro rfl; rfl
theorem join_levels (s : ByteArray) : joinB (levels s) = s := by
  unfold joinB levels
  rw [List.map_map]
  have : ((fun x : ByteArray => x.data.toList) ∘ ba) = id := by funext l; simp [ba]
  rw [this, List.map_id, joinS_split]; simp [ba]
theorem covers_agree : ∀ A B n : List ByteArray, coversB A B = true → agreeB B n = true → agreeB A n = true
  | [], B, n, h, k => by
    cases B with
    | nil => exact k
    | cons y B => simp [coversB] at h
  | x :: A, B, n, h, k => by
    cases hx : (x.toList == [35])
    · cases B with
      | nil => rw [coversB_none x A hx] at h; simp at h
      | cons y B =>
        cases hy : (y.toList == [35])
        · rw [coversB_cons x y A B hx hy, Bool.and_eq_true] at h
          cases n with
          | nil => rw [agreeB_none y B hy] at k; simp at k
          | cons z n =>
            rw [agreeB_cons y z B n hy, Bool.and_eq_true] at k
            rw [agreeB_cons x z A n hx, covers_agree A B n h.2 k.2, Bool.and_true]
            have h1 := h.1
            have k1 := k.1
            simp only [Bool.or_eq_true, beq_iff_eq] at h1 k1 ⊢
            rcases h1 with h1 | h1
            · exact .inl h1
            · rw [h1]; exact k1
        · rw [coversB_stop x y A B hx hy] at h; simp at h
    · exact agreeB_hash _ _ _ hx
theorem cov_parts {f g : ByteArray} (h : covB f g = true) : coversB (wideB f) (wideB g) = true ∧ ((wideH f).toList == [43] && dollarB (wideH g).data.toList) = false := by
  unfold covB at h
  simp only [Bool.and_eq_true, Bool.not_eq_true'] at h
  exact ⟨h.2.2.2, h.2.2.1⟩
theorem wideH_eq {g : ByteArray} (h : ((headS g).toList == [35]) = false) : wideH g = headS g := by
  unfold wideH wideB
  rw [h]
  cases h2 : (g.toList == [47, 35])
  · rfl
  · have hl := levels_hash h2
    unfold headS; rw [hl]; rfl
theorem levels_wide {f : ByteArray} {n : List ByteArray} (hn : n ≠ []) (hn2 : n ≠ [⟨#[]⟩]) (h : agreeB (levels f) n = true) : agreeB (wideB f) n = true := by
  unfold wideB
  have e43 : ((⟨#[43]⟩ : ByteArray).toList == [35]) = false := by simp [ByteArray.toList_eq]
  have p43 : ((⟨#[43]⟩ : ByteArray).toList == [43]) = true := by simp [ByteArray.toList_eq]
  have e35 : ((⟨#[35]⟩ : ByteArray).toList == [35]) = true := by simp [ByteArray.toList_eq]
  have e0 : ((⟨#[]⟩ : ByteArray).toList == [35]) = false := by simp [ByteArray.toList_eq]
  have e01 : ((⟨#[]⟩ : ByteArray).toList == [43]) = false := by simp [ByteArray.toList_eq]
  split
  · cases n with
    | nil => exact absurd rfl hn
    | cons z n => rw [agreeB_cons _ _ _ _ e43, p43, agreeB_hash _ _ _ e35]; rfl
  · split
    · rename_i h2
      rw [levels_hash h2] at h
      cases n with
      | nil => exact absurd rfl hn
      | cons z n =>
        rw [agreeB_cons _ _ _ _ e0, e01, Bool.false_or, Bool.and_eq_true] at h
        have hz : (⟨#[]⟩ : ByteArray) = z := toList_inj.1 h.1
        subst hz
        cases n with
        | nil => exact absurd rfl hn2
        | cons t n =>
          rw [agreeB_cons _ _ _ _ e0, agreeB_cons _ _ _ _ e43, p43, agreeB_hash _ _ _ e35]; simp
    · exact h
theorem name_ne {n : ByteArray} (h : nameB n.data.toList = true) : levels n ≠ [⟨#[]⟩] := by
  intro e
  have h1 := join_levels n
  rw [e] at h1
  have h2 := nameB_size h
  rw [← h1] at h2
  simp [joinB, joinS, ba] at h2
  exact absurd h2 (by decide)
theorem holds_match {f g n : ByteArray} (hf : filterB f = true) (h1 : covB f g = true) (h2 : matchB g n = true) : matchB f n = true := by
  obtain ⟨c1, d1⟩ := cov_parts h1
  unfold matchB at h2
  simp only [Bool.and_eq_true, Bool.not_eq_true'] at h2
  obtain ⟨hg, hn, hw, ha⟩ := h2
  unfold matchB
  rw [hf, hn, wide_levels (levels_ne n) (covers_agree _ _ _ c1 (levels_wide (levels_ne n) (name_ne hn) ha))]
  simp only [Bool.true_and, Bool.and_true, Bool.not_eq_true']
  cases hx : wildB (headS f)
  · rfl
  · rw [Bool.true_and]
    rw [wild_wide hx, Bool.true_and] at d1
    cases hd : dollarB n.data.toList
    · rfl
    · exfalso
      rw [hd, Bool.and_true] at hw
      unfold wildB at hw
      rw [Bool.or_eq_false_iff] at hw
      rw [wideH_eq hw.2] at d1
      obtain ⟨r, hr⟩ := levels_head g
      obtain ⟨q, hq⟩ := levels_head n
      rw [hr, hq, agreeB_cons _ _ _ _ hw.2, hw.1, Bool.false_or, Bool.and_eq_true] at ha
      rw [toList_inj.1 ha.1] at d1
      have := dollar_join (headS n) q
      rw [← hq, join_levels, hd, d1] at this
      simp at this
end Go.Proofs.YtflomcbclofbaaaDoor
