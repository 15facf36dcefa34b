/- THE PLAIN LAW of TopicNames: match, covers, meets of two names are their equality. -/
import Derived.Test.YtfkbnemhkkbjgaaDoorTopicNamesPlain
namespace Go.Proofs.YtfkbnemhkkbjgaaDoor
open Go Go.RowKit Go.Lib

theorem name_wild {a : ByteArray} (h : nameB a.data.toList = true) : wildB (headS a) = false := by
  obtain ⟨r, hr⟩ := levels_head a
  have h0 : noW (headS a) := name_levels h _ (by rw [hr]; simp)
  unfold wildB; rw [noW_35 h0, noW_43 h0]; rfl
theorem name_wideH {a : ByteArray} (h : nameB a.data.toList = true) : ((wideH a).toList == [43]) = false := by
  obtain ⟨r, hr⟩ := wideB_cons a
  exact noW_43 (name_levels h _ (by rw [← name_wide h, hr]; simp))
theorem bool_eq {p q : Bool} (h : p = true ↔ q = true) : p = q := by cases p <;> cases q <;> simp_all

theorem names_match {a b : ByteArray} (ha : nameB a.data.toList = true) (hb : nameB b.data.toList = true) : matchB a b = (a.toList == b.toList) := by
  unfold matchB
  rw [name_filter ha, hb, name_wild ha]
  apply bool_eq
  simp only [Bool.true_and, Bool.false_and, Bool.not_false, agree_noW _ _ (name_levels ha), toList_inj]
  exact ⟨levels_inj, fun e => by rw [e]⟩
theorem names_cov {a b : ByteArray} (ha : nameB a.data.toList = true) (hb : nameB b.data.toList = true) : covB a b = (a.toList == b.toList) := by
  unfold covB
  rw [name_filter ha, name_filter hb, name_wideH ha, name_wide ha, name_wide hb]
  apply bool_eq
  simp only [Bool.true_and, Bool.false_and, Bool.not_false, covers_noW _ _ (name_levels ha) (name_levels hb), toList_inj]
  exact ⟨levels_inj, fun e => by rw [e]⟩
theorem names_com {a b : ByteArray} (ha : nameB a.data.toList = true) (hb : nameB b.data.toList = true) : (comB a b).isSome = (a.toList == b.toList) := by
  unfold comB
  rw [name_filter ha, name_filter hb, name_wideH ha, name_wideH hb, name_wide ha, name_wide hb, short_noW _ _ (name_levels ha) (name_levels hb)]
  by_cases hab : a = b
  · subst hab
    have h1 : (a.toList == a.toList) = true := by simp
    have hne : ¬ a.toList = [] := by rw [ByteArray.toList_eq]; exact filter_ne (name_filter ha)
    have h2 : (a.toList == []) = false := by simpa using hne
    have hsz : a.size ≤ 65535 := by
      unfold nameB plainB at ha
      simp only [Bool.and_eq_true, decide_eq_true_eq] at ha
      have : a.data.toList.length = a.size := by simp
      omega
    rw [h1]
    simp only [Bool.and_self, if_true, Option.bind_some, join_levels, h2, Bool.false_eq_true, if_false, Bool.or_self]
    unfold comFin
    have : ¬ 65535 < a.size := by omega
    simp [this]
  · have h1 : ¬ levels a = levels b := fun e => hab (levels_inj e)
    have h2 : (a.toList == b.toList) = false := by
      cases h : (a.toList == b.toList)
      · rfl
      · exact absurd (toList_inj.1 h) hab
    rw [h2]; simp [h1]
end Go.Proofs.YtfkbnemhkkbjgaaDoor
