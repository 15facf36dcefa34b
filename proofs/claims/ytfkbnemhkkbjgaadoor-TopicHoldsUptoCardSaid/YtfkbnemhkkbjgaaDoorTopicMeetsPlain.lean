/- THE PLAIN LAW of TopicMeets: a common name is one. -/
import Derived.Test.YtfkbnemhkkbjgaaDoorTopicValid
namespace Go.Proofs.YtfkbnemhkkbjgaaDoor
open Go Go.RowKit Go.Lib

theorem agree_least : ∀ f : List ByteArray, agreeB f (leastB f) = true
  | [] => rfl
  | x :: f => by
    unfold leastB
    cases h : (x.toList == [35])
    · simp only [Bool.false_eq_true, if_false, agreeB, h]
      rw [agree_least f]
      unfold leastV
      cases h2 : (x.toList == [43]) <;> simp
    · simp [agreeB, h]

theorem shortB_agree : ∀ f g l : List ByteArray, shortB f g = some l → agreeB f l = true ∧ agreeB g l = true
  | [], [], l, h => by simp [shortB] at h; subst h; exact ⟨rfl, rfl⟩
  | [], y :: g, l, h => by
    unfold shortB at h; split at h
    · rename_i hy; simp at h; subst h; exact ⟨rfl, by simp [agreeB, hy]⟩
    · simp at h
  | x :: f, [], l, h => by
    unfold shortB at h; split at h
    · rename_i hy; simp at h; subst h; exact ⟨by simp [agreeB, hy], rfl⟩
    · simp at h
  | x :: f, y :: g, l, h => by
    unfold shortB at h
    cases hx : (x.toList == [35])
    · cases hy : (y.toList == [35])
      · rw [hx, hy] at h
        simp only [Bool.false_eq_true, if_false] at h
        cases hx2 : (x.toList == [43])
        · rw [hx2] at h
          simp only [Bool.false_eq_true, if_false] at h
          split at h
          · rename_i hc
            obtain ⟨r, hr, rfl⟩ := Option.map_eq_some_iff.1 h
            have ⟨i1, i2⟩ := shortB_agree f g r hr
            refine ⟨by simp [agreeB, hx, i1], ?_⟩
            simp only [agreeB, hy, Bool.false_eq_true, if_false, i2, Bool.and_true]
            exact hc
          · simp at h
        · rw [hx2] at h
          simp only [if_true] at h
          obtain ⟨r, hr, rfl⟩ := Option.map_eq_some_iff.1 h
          have ⟨i1, i2⟩ := shortB_agree f g r hr
          refine ⟨by simp only [agreeB, hx, hx2, Bool.false_eq_true, if_false, i1]; rfl, ?_⟩
          simp only [agreeB, hy, Bool.false_eq_true, if_false, i2, Bool.and_true]
          unfold leastV
          cases h2 : (y.toList == [43]) <;> simp
      · rw [hx, hy] at h
        simp at h; subst h
        exact ⟨by have := agree_least (x :: f); exact this, by simp [agreeB, hy]⟩
    · rw [hx] at h
      simp at h; subst h
      exact ⟨by simp [agreeB, hx], agree_least (y :: g)⟩

/-- a level of a filter -/
def okL (x : ByteArray) : Prop := Lib.validD x.data.toList = true ∧ hasB x.data.toList 0 0 = false ∧ (∀ c ∈ x.data.toList, (c == 47) = false) ∧ (hasB x.data.toList 43 35 = true → x.toList = [43] ∨ x.toList = [35])
/-- a level of a name -/
def okN (x : ByteArray) : Prop := Lib.validD x.data.toList = true ∧ hasB x.data.toList 0 0 = false ∧ (∀ c ∈ x.data.toList, (c == 47) = false) ∧ hasB x.data.toList 43 35 = false
theorem okN_empty : okN ⟨#[]⟩ := ⟨rfl, rfl, fun c hc => by simp at hc, rfl⟩
theorem okN_of {x : ByteArray} (h : okL x) (h1 : (x.toList == [35]) = false) (h2 : (x.toList == [43]) = false) : okN x := by
  refine ⟨h.1, h.2.1, h.2.2.1, ?_⟩
  cases hb : hasB x.data.toList 43 35
  · rfl
  · rcases h.2.2.2 hb with h3 | h3 <;> simp [h3] at h1 h2
theorem okN_least {x : ByteArray} (h : okL x) (h1 : (x.toList == [35]) = false) : okN (leastV x) := by
  unfold leastV
  cases h2 : (x.toList == [43])
  · exact okN_of h h1 h2
  · exact okN_empty
theorem leastB_ok : ∀ l : List ByteArray, (∀ x ∈ l, okL x) → ∀ x ∈ leastB l, okN x
  | [], _, x, hx => by simp [leastB] at hx
  | y :: l, h, x, hx => by
    unfold leastB at hx
    cases h1 : (y.toList == [35])
    · rw [h1] at hx
      simp only [Bool.false_eq_true, if_false] at hx
      rcases List.mem_cons.1 hx with rfl | hx
      · exact okN_least (h y (by simp)) h1
      · exact leastB_ok l (fun z hz => h z (by simp [hz])) x hx
    · rw [h1] at hx; simp at hx
theorem shortB_ok : ∀ f g l : List ByteArray, (∀ x ∈ f, okL x) → (∀ x ∈ g, okL x) → shortB f g = some l → ∀ x ∈ l, okN x
  | [], [], l, _, _, h, x, hx => by simp [shortB] at h; subst h; simp at hx
  | [], y :: g, l, _, _, h, x, hx => by
    unfold shortB at h; split at h <;> simp at h; subst h; simp at hx
  | y :: f, [], l, _, _, h, x, hx => by
    unfold shortB at h; split at h <;> simp at h; subst h; simp at hx
  | x :: f, y :: g, l, hf, hg, h, z, hz => by
    have hf' : ∀ x ∈ f, okL x := fun z hz => hf z (by simp [hz])
    have hg' : ∀ x ∈ g, okL x := fun z hz => hg z (by simp [hz])
    unfold shortB at h
    cases hx : (x.toList == [35])
    · cases hy : (y.toList == [35])
      · rw [hx, hy] at h
        simp only [Bool.false_eq_true, if_false] at h
        cases hx2 : (x.toList == [43])
        · rw [hx2] at h
          simp only [Bool.false_eq_true, if_false] at h
          split at h
          · obtain ⟨r, hr, rfl⟩ := Option.map_eq_some_iff.1 h
            rcases List.mem_cons.1 hz with rfl | hz
            · exact okN_of (hf _ (by simp)) hx hx2
            · exact shortB_ok f g r hf' hg' hr z hz
          · simp at h
        · rw [hx2] at h
          simp only [if_true] at h
          obtain ⟨r, hr, rfl⟩ := Option.map_eq_some_iff.1 h
          rcases List.mem_cons.1 hz with rfl | hz
          · exact okN_least (hg _ (by simp)) hy
          · exact shortB_ok f g r hf' hg' hr z hz
      · rw [hx, hy] at h
        simp at h; subst h
        exact leastB_ok _ hf z hz
    · rw [hx] at h
      simp at h; subst h
      exact leastB_ok _ hg z hz

theorem ba_data (l : List UInt8) : (ba l).data.toList = l := by simp [ba]

theorem levOk_mem : ∀ l : List ByteArray, levOk l = true → ∀ x ∈ l, hasB x.data.toList 43 35 = true → x.toList = [43] ∨ x.toList = [35]
  | [], _, x, hx, _ => by simp at hx
  | y :: l, h, x, hx, hb => by
    unfold levOk at h
    rw [Bool.and_eq_true] at h
    rcases List.mem_cons.1 hx with rfl | hx
    · have := h.1
      rw [hb] at this
      simp at this
      rcases this with h1 | h1
      · exact .inl h1
      · exact .inr h1.1
    · exact levOk_mem l h.2 x hx hb

theorem filter_levels {f : ByteArray} (h : filterB f = true) : ∀ x ∈ levels f, okL x := by
  intro x hx
  unfold filterB at h
  rw [Bool.and_eq_true] at h
  have hp := h.1
  unfold plainB at hp
  simp only [Bool.and_eq_true, Bool.not_eq_true'] at hp
  obtain ⟨⟨⟨_, _⟩, hv⟩, hz⟩ := hp
  obtain ⟨y, hy, rfl⟩ := List.mem_map.1 hx
  have hd : (ba y).data.toList = y := ba_data y
  refine ⟨?_, ?_, ?_, levOk_mem _ h.2 _ hx⟩
  · rw [hd]; exact valid_split _ hv y hy
  · rw [hd]; exact hasB_split 0 0 rfl _ hz y hy
  · rw [hd]; exact split_no _ y hy

theorem okL_lit (b : UInt8) (h : b = 43 ∨ b = 35) : okL ⟨#[b]⟩ := by
  refine ⟨?_, ?_, ?_, ?_⟩
  · rcases h with rfl | rfl <;> (rw [show (⟨#[_]⟩ : ByteArray).data.toList = [_] from rfl, Lib.validD_cons _ _ (by decide)]; rfl)
  · rcases h with rfl | rfl <;> rfl
  · rcases h with rfl | rfl <;> (intro c hc; simp at hc; subst hc; rfl)
  · intro _; rcases h with rfl | rfl
    · left; simp [ByteArray.toList_eq]
    · right; simp [ByteArray.toList_eq]
theorem wide_ok {f : ByteArray} (h : filterB f = true) : ∀ x ∈ wideB f, okL x := by
  intro x hx
  unfold wideB at hx
  split at hx
  · simp at hx; rcases hx with rfl | rfl
    · exact okL_lit 43 (.inl rfl)
    · exact okL_lit 35 (.inr rfl)
  · split at hx
    · simp at hx; rcases hx with rfl | rfl | rfl
      · exact ⟨rfl, rfl, fun c hc => by simp at hc, fun h => by simp [hasB] at h⟩
      · exact okL_lit 43 (.inl rfl)
      · exact okL_lit 35 (.inr rfl)
    · exact filter_levels h x hx
end Go.Proofs.YtfkbnemhkkbjgaaDoor
