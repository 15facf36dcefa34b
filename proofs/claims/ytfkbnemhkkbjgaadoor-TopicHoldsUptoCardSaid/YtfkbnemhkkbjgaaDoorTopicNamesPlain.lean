/- THE PLAIN LAW of TopicNames: a name is a filter that has just itself. -/
import Derived.Test.YtfkbnemhkkbjgaaDoorTopicMeetsPlainB
namespace Go.Proofs.YtfkbnemhkkbjgaaDoor
open Go Go.RowKit Go.Lib

def noW (x : ByteArray) : Prop := hasB x.data.toList 43 35 = false
theorem noW_43 {x : ByteArray} (h : noW x) : (x.toList == [43]) = false := by
  cases h1 : (x.toList == [43])
  · rfl
  · have : x.data.toList = [43] := by rw [← ByteArray.toList_eq]; simpa using h1
    unfold noW at h; rw [this] at h; simp [hasB] at h
theorem noW_35 {x : ByteArray} (h : noW x) : (x.toList == [35]) = false := by
  cases h1 : (x.toList == [35])
  · rfl
  · have : x.data.toList = [35] := by rw [← ByteArray.toList_eq]; simpa using h1
    unfold noW at h; rw [this] at h; simp [hasB] at h
theorem toList_inj {x y : ByteArray} : (x.toList == y.toList) = true ↔ x = y := by
  rw [beq_iff_eq, ByteArray.toList_eq, ByteArray.toList_eq]
  constructor
  · intro h; exact ByteArray.ext (Array.toList_inj.1 h)
  · rintro rfl; rfl

theorem name_levels {a : ByteArray} (h : nameB a.data.toList = true) : ∀ x ∈ levels a, noW x := by
  unfold nameB at h
  simp only [Bool.and_eq_true, Bool.not_eq_true'] at h
  intro x hx
  obtain ⟨y, hy, rfl⟩ := List.mem_map.1 hx
  unfold noW; rw [ba_data]; exact hasB_split 43 35 rfl _ h.2 y hy
theorem levOk_noW : ∀ l : List ByteArray, (∀ x ∈ l, noW x) → levOk l = true
  | [], _ => rfl
  | x :: r, h => by
    have h1 : hasB x.data.toList 43 35 = false := h x (by simp)
    unfold levOk; rw [h1, levOk_noW r (fun z hz => h z (by simp [hz]))]; rfl
theorem name_filter {a : ByteArray} (h : nameB a.data.toList = true) : filterB a = true := by
  have hl := levOk_noW _ (name_levels h)
  unfold nameB at h
  unfold filterB
  rw [hl]
  simp only [Bool.and_eq_true] at h
  rw [h.1]; rfl
theorem levels_inj {a b : ByteArray} (h : levels a = levels b) : a = b := by
  have e : ∀ s : ByteArray, joinB (levels s) = s := fun s => by
    unfold joinB levels
    rw [List.map_map]
    have : ((fun x : ByteArray => x.data.toList) ∘ ba) = id := by funext l; simp [ba]
    rw [this, List.map_id, joinS_split]; simp [ba]
  rw [← e a, h, e b]
theorem join_levels (s : ByteArray) : joinB (levels s) = s := by
  unfold joinB levels
  rw [List.map_map]
  have : ((fun x : ByteArray => x.data.toList) ∘ ba) = id := by funext l; simp [ba]
  rw [this, List.map_id, joinS_split]; simp [ba]
theorem agree_noW : ∀ A B : List ByteArray, (∀ x ∈ A, noW x) → (agreeB A B = true ↔ A = B)
  | [], B, _ => by cases B <;> simp [agreeB]
  | x :: A, [], h => by simp [agreeB, noW_35 (h x (by simp))]
  | x :: A, y :: B, h => by
    have ih := agree_noW A B (fun z hz => h z (by simp [hz]))
    simp only [agreeB, noW_35 (h x (by simp)), noW_43 (h x (by simp)), Bool.false_eq_true, if_false, Bool.false_or, Bool.and_eq_true, ih, toList_inj, List.cons.injEq]
theorem covers_noW : ∀ A B : List ByteArray, (∀ x ∈ A, noW x) → (∀ x ∈ B, noW x) → (coversB A B = true ↔ A = B)
  | [], B, _, _ => by cases B <;> simp [coversB]
  | x :: A, [], h, _ => by simp [coversB, noW_35 (h x (by simp))]
  | x :: A, y :: B, h, k => by
    have ih := covers_noW A B (fun z hz => h z (by simp [hz])) (fun z hz => k z (by simp [hz]))
    simp only [coversB, noW_35 (h x (by simp)), noW_35 (k y (by simp)), noW_43 (h x (by simp)), Bool.false_eq_true, if_false, Bool.false_or, Bool.and_eq_true, ih, toList_inj, List.cons.injEq]
theorem short_noW : ∀ A B : List ByteArray, (∀ x ∈ A, noW x) → (∀ x ∈ B, noW x) → shortB A B = if A = B then some A else none
  | [], [], _, _ => rfl
  | [], y :: B, _, k => by simp [shortB, noW_35 (k y (by simp))]
  | x :: A, [], h, _ => by simp [shortB, noW_35 (h x (by simp))]
  | x :: A, y :: B, h, k => by
    have ih := short_noW A B (fun z hz => h z (by simp [hz])) (fun z hz => k z (by simp [hz]))
    unfold shortB
    rw [noW_35 (h x (by simp)), noW_35 (k y (by simp)), noW_43 (h x (by simp)), noW_43 (k y (by simp)), ih]
    simp only [Bool.false_eq_true, if_false, Bool.false_or]
    by_cases hxy : x = y
    · subst hxy
      by_cases hAB : A = B
      · subst hAB; simp
      · simp [hAB]
    · have h1 : ¬ (y.toList == x.toList) = true := by rw [toList_inj]; exact fun e => hxy e.symm
      rw [if_neg h1, if_neg (by simp [hxy])]
theorem name_wide {a : ByteArray} (h : nameB a.data.toList = true) : wideB a = levels a := by
  have hn := name_levels h
  unfold wideB
  obtain ⟨r, hr⟩ := levels_head a
  have h0 : noW (headS a) := hn _ (by rw [hr]; simp)
  rw [noW_35 h0]
  cases h2 : (a.toList == [47, 35])
  · simp
  · have hl := levels_hash h2
    have := hn ⟨#[35]⟩ (by rw [hl]; simp)
    unfold noW at this; simp [hasB] at this
end Go.Proofs.YtfkbnemhkkbjgaaDoor
