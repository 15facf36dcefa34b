/- THE PLAIN LAW of TopicMeets: a common name is one. -/
import Derived.Test.YtfkbnemhkkbjgaaDoorTopicMeetsPlain
namespace Go.Proofs.YtfkbnemhkkbjgaaDoor
open Go Go.RowKit Go.Lib

theorem levels_hash {f : ByteArray} (h : (f.toList == [47, 35]) = true) : levels f = [⟨#[]⟩, ⟨#[35]⟩] := by
  have e : f.data.toList = [47, 35] := by rw [ByteArray.toList_eq] at h; simpa using h
  unfold levels; rw [e]; rfl
theorem levels_head (f : ByteArray) : ∃ r, levels f = headS f :: r := by
  unfold headS
  cases h : levels f with
  | nil => exact absurd h (levels_ne f)
  | cons x r => exact ⟨r, rfl⟩
theorem filter_ne {f : ByteArray} (h : filterB f = true) : f.data.toList ≠ [] := by
  unfold filterB plainB at h
  intro e; rw [e] at h; simp at h

theorem wide_levels {f : ByteArray} {n : List ByteArray} (hn : n ≠ []) (h : agreeB (wideB f) n = true) : agreeB (levels f) n = true := by
  unfold wideB at h
  split at h
  · rename_i hh
    obtain ⟨r, hr⟩ := levels_head f
    rw [hr]; exact agreeB_hash _ _ _ hh
  · split at h
    · rename_i hh
      rw [levels_hash hh]
      cases n with
      | nil => exact absurd rfl hn
      | cons y n =>
        simp [agreeB, ByteArray.toList_eq] at h ⊢
        exact h.1
    · exact h

theorem empty_a {f : ByteArray} (hf : filterB f = true) (h : agreeB (wideB f) [⟨#[]⟩] = true) : agreeB (levels f) [⟨#[97]⟩] = true := by
  unfold wideB at h
  split at h
  · rename_i hh
    obtain ⟨r, hr⟩ := levels_head f
    rw [hr]; exact agreeB_hash _ _ _ hh
  · rename_i hh1
    split at h
    · simp [agreeB, ByteArray.toList_eq] at h
    · rename_i hh2
      have hlo : levOk (levels f) = true := by unfold filterB at hf; rw [Bool.and_eq_true] at hf; exact hf.2
      obtain ⟨r, hr⟩ := levels_head f
      have h1 : ((headS f).toList == [35]) = false := by simpa using hh1
      rw [hr] at h ⊢
      simp only [agreeB, h1, Bool.false_eq_true, if_false, Bool.and_eq_true, Bool.or_eq_true] at h ⊢
      refine ⟨?_, h.2⟩
      rcases h.1 with h3 | h3
      · exact .inl h3
      · exfalso
        have he : (headS f).toList = [] := by simpa [ByteArray.toList_eq] using h3
        have he' : (headS f).data.toList = [] := by rw [← ByteArray.toList_eq]; exact he
        cases r with
        | nil =>
          have hj := joinS_split f.data.toList
          have hs : splitS f.data.toList = [(headS f).data.toList] := by
            have := congrArg (List.map fun z : ByteArray => z.data.toList) hr
            simpa [levels, List.map_map, Function.comp_def, ba] using this
          rw [hs, he'] at hj
          exact filter_ne hf hj.symm
        | cons y r =>
          have h2 := h.2
          cases hy : (y.toList == [35])
          · simp [agreeB, hy] at h2
          · rw [hr] at hlo
            have hb : hasB y.data.toList 43 35 = true := by
              have : y.data.toList = [35] := by rw [← ByteArray.toList_eq]; simpa using hy
              rw [this]; rfl
            have hy2 : y.toList = [35] := by simpa using hy
            have hr0 : r = [] := by
              simp only [levOk, hb, hy2] at hlo
              simp at hlo
              exact hlo.2.1
            subst hr0
            have := slash_hash f (headS f) y hr
            rw [he, hy2] at this
            exact hh2 this

theorem wild_wide {f : ByteArray} (h : wildB (headS f) = true) : ((wideH f).toList == [43]) = true := by
  unfold wildB at h
  unfold wideH wideB
  split
  · simp [ByteArray.toList_eq]
  · rename_i hh
    split
    · rename_i h2
      have hl := levels_hash h2
      obtain ⟨r, hr⟩ := levels_head f
      rw [hl] at hr
      have : headS f = ⟨#[]⟩ := by injection hr with h _; exact h.symm
      rw [this] at h
      simp [ByteArray.toList_eq] at h
    · have h1 : ((headS f).toList == [35]) = false := by simpa using hh
      rw [h1, Bool.or_false] at h
      exact h

theorem joinB_nil {l : List ByteArray} (hl : l ≠ []) (h : (joinB l).toList = []) : l = [⟨#[]⟩] := by
  rw [ByteArray.toList_eq] at h
  unfold joinB at h
  rw [ba_data] at h
  match l, hl with
  | [x], _ =>
    simp [joinS] at h
    congr 1
    exact ByteArray.ext (by simpa using h)
  | x :: y :: r, _ => simp [joinS] at h

theorem levels_join {l : List ByteArray} (hl : l ≠ []) (h : ∀ x ∈ l, okN x) : levels (joinB l) = l := by
  unfold levels joinB
  rw [ba_data, split_join _ (by simpa using hl) (by
    intro x hx
    obtain ⟨y, hy, rfl⟩ := List.mem_map.1 hx
    exact (h y hy).2.2.1), List.map_map]
  conv => rhs; rw [← List.map_id l]
  apply List.map_congr_left
  intro x _
  simp [ba]

theorem name_join {l : List ByteArray} (hj : (joinB l).toList ≠ []) (h : ∀ x ∈ l, okN x) (hs : (joinB l).size ≤ 65535) : nameB (joinB l).data.toList = true := by
  have hj' : (joinB l).data.toList ≠ [] := by rw [← ByteArray.toList_eq]; exact hj
  have hs' : (joinB l).data.toList.length ≤ 65535 := by simpa using hs
  have hv : Lib.validD (joinB l).data.toList = true := by
    unfold joinB; rw [ba_data, valid_join, List.all_eq_true]
    intro x hx
    obtain ⟨y, hy, rfl⟩ := List.mem_map.1 hx
    exact (h y hy).1
  have hz : hasB (joinB l).data.toList 0 0 = false := by
    unfold joinB; rw [ba_data, hasB_join 0 0 rfl, List.any_eq_false]
    intro x hx
    obtain ⟨y, hy, rfl⟩ := List.mem_map.1 hx
    simp [(h y hy).2.1]
  have hw : hasB (joinB l).data.toList 43 35 = false := by
    unfold joinB; rw [ba_data, hasB_join 43 35 rfl, List.any_eq_false]
    intro x hx
    obtain ⟨y, hy, rfl⟩ := List.mem_map.1 hx
    simp [(h y hy).2.2.2]
  unfold nameB plainB
  rw [hv, hz, hw]
  simp only [Bool.not_false, Bool.and_true, Bool.and_eq_true, Bool.not_eq_true', List.isEmpty_eq_false_iff, decide_eq_true_eq]
  exact ⟨hj', hs'⟩

theorem name_a : nameB (⟨#[97]⟩ : ByteArray).data.toList = true := by
  unfold nameB plainB
  have : Lib.validD (⟨#[97]⟩ : ByteArray).data.toList = true := by
    show Lib.validD [97] = true
    rw [Lib.validD_cons 97 [] (by decide)]; rfl
  rw [this]; rfl
theorem levels_a : levels (⟨#[97]⟩ : ByteArray) = [⟨#[97]⟩] := rfl

theorem comFin_some {p : Bool} {t s : ByteArray} (h : comFin p t = some s) : t = s ∧ (dollarB s.data.toList && p) = false ∧ s.size ≤ 65535 := by
  unfold comFin at h
  by_cases hc : ((dollarB t.data.toList && p) || decide (65535 < t.size)) = true
  · rw [if_pos hc] at h; simp at h
  · rw [if_neg hc] at h
    have h' : t = s := by simpa using h
    subst h'
    simp only [Bool.or_eq_true, decide_eq_true_eq, not_or, Bool.not_eq_true] at hc
    exact ⟨rfl, hc.1, by omega⟩

theorem com_spec {f g s : ByteArray} (h : comB f g = some s) : filterB f = true ∧ filterB g = true ∧ nameB s.data.toList = true ∧ agreeB (levels f) (levels s) = true ∧ agreeB (levels g) (levels s) = true ∧
    (dollarB s.data.toList && ((wideH f).toList == [43] || (wideH g).toList == [43])) = false := by
  unfold comB at h
  split at h
  · rename_i hfg
    rw [Bool.and_eq_true] at hfg
    obtain ⟨hf, hg⟩ := hfg
    obtain ⟨l, hl, hc⟩ := Option.bind_eq_some_iff.1 h
    have ⟨a1, a2⟩ := shortB_agree _ _ _ hl
    have hok := shortB_ok _ _ _ (wide_ok hf) (wide_ok hg) hl
    have hne : l ≠ [] := by
      obtain ⟨r, hr⟩ := wideB_cons f
      obtain ⟨q, hq⟩ := wideB_cons g
      rw [hr, hq] at hl
      exact shortB_ne (wideB_hd f) (wideB_hd g) hl
    obtain ⟨hs, hcond⟩ := comFin_some hc
    refine ⟨hf, hg, ?_⟩
    by_cases h0 : (joinB l).toList = []
    · rw [h0] at hs
      have hs' : (⟨#[97]⟩ : ByteArray) = s := by simpa using hs
      subst hs'
      have hl0 := joinB_nil hne h0
      subst hl0
      rw [levels_a]
      exact ⟨name_a, empty_a hf a1, empty_a hg a2, hcond.1⟩
    · have h1 : ((joinB l).toList == []) = false := by simpa using h0
      rw [h1] at hs
      have hs' : joinB l = s := by simpa using hs
      subst hs'
      rw [levels_join hne hok]
      exact ⟨name_join h0 hok (by omega), wide_levels hne a1, wide_levels hne a2, hcond.1⟩
  · simp at h

theorem com_match {f g s : ByteArray} (h : comB f g = some s) : matchB f s = true ∧ matchB g s = true := by
  obtain ⟨h1, h2, h3, h4, h5, h6⟩ := com_spec h
  unfold matchB
  rw [h1, h2, h3, h4, h5]
  refine ⟨?_, ?_⟩
  · cases hw : wildB (headS f)
    · rfl
    · rw [wild_wide hw] at h6; simp only [Bool.true_or, Bool.and_true] at h6; rw [h6]; rfl
  · cases hw : wildB (headS g)
    · rfl
    · rw [wild_wide hw] at h6; simp only [Bool.or_true, Bool.and_true] at h6; rw [h6]; rfl
end Go.Proofs.YtfkbnemhkkbjgaaDoor
