/- valid texts, put together by slashes. -/
import Derived.Test.YtfkbnemhkkbjgaaDoorTopicRefH
import Derived.Lib.ValidLaws
namespace Go.Proofs.YtfkbnemhkkbjgaaDoor
open Go Go.RowKit Go.Lib

theorem accLo_fin : ∀ b : Fin 256, (Lib.firstT b.val % 8 = 2 ∨ Lib.firstT b.val % 8 = 3 ∨ Lib.firstT b.val % 8 = 4) → 128 ≤ Lib.accLo (Lib.firstT b.val / 16) := by decide +kernel
theorem accLo_ge (b : UInt8) : (Lib.firstT b.toNat % 8 = 2 ∨ Lib.firstT b.toNat % 8 = 3 ∨ Lib.firstT b.toNat % 8 = 4) → 128 ≤ Lib.accLo (Lib.firstT b.toNat / 16) := accLo_fin ⟨b.toNat, b.toNat_lt⟩

theorem checkN_slash (a b : List UInt8) (sz lo hi : Nat) (hlo : (sz = 2 ∨ sz = 3 ∨ sz = 4) → 128 ≤ lo) (ha : a ≠ []) :
    Lib.checkN (a ++ 47 :: b).length ((a ++ 47 :: b).getD 1 0).toNat ((a ++ 47 :: b).getD 2 0).toNat ((a ++ 47 :: b).getD 3 0).toNat sz lo hi = Lib.checkN a.length (a.getD 1 0).toNat (a.getD 2 0).toNat (a.getD 3 0).toNat sz lo hi := by
  have h47 : (47 : UInt8).toNat = 47 := rfl
  have h0 : (0 : UInt8).toNat = 0 := rfl
  match a, ha with
  | [c], _ =>
    simp only [List.cons_append, List.nil_append, List.length_cons, List.length_nil, List.getD_cons_succ, List.getD_cons_zero, List.getD_nil, h47, h0, Lib.checkN]
    repeat' split
    all_goals first | rfl | (exfalso; omega)
  | [c, d], _ =>
    simp only [List.cons_append, List.nil_append, List.length_cons, List.length_nil, List.getD_cons_succ, List.getD_cons_zero, List.getD_nil, h47, h0, Lib.checkN]
    repeat' split
    all_goals first | rfl | (exfalso; omega)
  | [c, d, e], _ =>
    simp only [List.cons_append, List.nil_append, List.length_cons, List.length_nil, List.getD_cons_succ, List.getD_cons_zero, List.getD_nil, h47, h0, Lib.checkN]
    repeat' split
    all_goals first | rfl | (exfalso; omega)
  | c :: d :: e :: f :: t, _ =>
    simp only [List.cons_append, List.length_cons, List.length_append, List.getD_cons_succ, List.getD_cons_zero, Lib.checkN]
    repeat' split
    all_goals first | rfl | (exfalso; omega)

theorem checkN_le {n b1 b2 b3 sz lo hi k : Nat} (h : Lib.checkN n b1 b2 b3 sz lo hi = some k) : k ≤ n ∧ 0 < k := by
  unfold Lib.checkN at h
  repeat' split at h
  all_goals first | (simp at h; done) | (simp at h; omega)

theorem validD_slash (b : List UInt8) : ∀ (n : Nat) (a : List UInt8), a.length ≤ n → Lib.validD (a ++ 47 :: b) = (Lib.validD a && Lib.validD b)
  | _, [], _ => by
    rw [List.nil_append, Lib.validD_cons 47 b (by decide)]; rfl
  | 0, c :: t, h => by simp at h
  | n + 1, c :: t, h => by
    simp only [List.length_cons] at h
    by_cases hc : c.toNat < 128
    · rw [List.cons_append, Lib.validD_cons c _ hc, Lib.validD_cons c _ hc]
      exact validD_slash b n t (by omega)
    · have hlead : 128 ≤ ((c :: t).getD 0 0).toNat := by simpa using hc
      have hlead2 : 128 ≤ (((c :: t) ++ 47 :: b).getD 0 0).toNat := by simpa using hc
      rw [Lib.validD_lead _ (by simp) hlead, Lib.validD_lead _ (by simp) hlead2]
      have e0 : ((c :: t) ++ 47 :: b).getD 0 0 = (c :: t).getD 0 0 := rfl
      rw [e0, checkN_slash (c :: t) b _ _ _ (accLo_ge _) (by simp)]
      cases hk : Lib.checkN (c :: t).length ((c :: t).getD 1 0).toNat ((c :: t).getD 2 0).toNat ((c :: t).getD 3 0).toNat (Lib.firstT ((c :: t).getD 0 0).toNat % 8) (Lib.accLo (Lib.firstT ((c :: t).getD 0 0).toNat / 16)) (Lib.accHi (Lib.firstT ((c :: t).getD 0 0).toNat / 16)) with
      | none => rfl
      | some k =>
        have ⟨hk1, hk2⟩ := checkN_le hk
        simp only
        rw [List.drop_append_of_le_length hk1]
        exact validD_slash b n _ (by rw [List.length_drop, List.length_cons]; omega)

theorem valid_slash (a b : List UInt8) : Lib.validD (a ++ 47 :: b) = (Lib.validD a && Lib.validD b) := validD_slash b _ a (Nat.le_refl _)

theorem valid_join : ∀ l : List (List UInt8), Lib.validD (joinS l) = l.all Lib.validD
  | [] => rfl
  | [x] => by simp [joinS]
  | x :: y :: r => by
    simp only [joinS]; rw [valid_slash, valid_join (y :: r)]; rfl

theorem hasB_append (a b : List UInt8) (c d : Int) : hasB (a ++ b) c d = (hasB a c d || hasB b c d) := by simp [hasB]
theorem hasB_join (c d : Int) (h : ((47 : Int) == c || (47 : Int) == d) = false) : ∀ l : List (List UInt8), hasB (joinS l) c d = l.any fun x => hasB x c d
  | [] => rfl
  | [x] => by simp [joinS]
  | x :: y :: r => by
    have e : hasB (47 :: joinS (y :: r)) c d = (((47 : Int) == c || (47 : Int) == d) || hasB (joinS (y :: r)) c d) := rfl
    simp only [joinS]; rw [hasB_append, e, h, hasB_join c d h (y :: r)]; rfl

theorem split_append (a b : List UInt8) (ha : ∀ c ∈ a, (c == 47) = false) : splitS (a ++ 47 :: b) = a :: splitS b := by
  induction a with
  | nil => simp [splitS]
  | cons c a ih =>
    have h1 := ha c (by simp)
    rw [List.cons_append, splitS, h1, ih (fun d hd => ha d (by simp [hd]))]; rfl
theorem split_one (a : List UInt8) (ha : ∀ c ∈ a, (c == 47) = false) : splitS a = [a] := by
  induction a with
  | nil => rfl
  | cons c a ih =>
    have h1 := ha c (by simp)
    rw [splitS, h1, ih (fun d hd => ha d (by simp [hd]))]; rfl
theorem split_join : ∀ l : List (List UInt8), l ≠ [] → (∀ x ∈ l, ∀ c ∈ x, (c == 47) = false) → splitS (joinS l) = l
  | [], h, _ => absurd rfl h
  | [x], _, h => split_one x (h x (by simp))
  | x :: y :: r, _, h => by
    simp only [joinS]
    rw [split_append _ _ (h x (by simp)), split_join (y :: r) (by simp) (fun z hz => h z (by simp at hz ⊢; exact .inr hz))]
theorem split_no : ∀ (l : List UInt8), ∀ x ∈ splitS l, ∀ c ∈ x, (c == 47) = false
  | [], x, hx, c, hc => by simp [splitS] at hx; subst hx; simp at hc
  | d :: l, x, hx, c, hc => by
    unfold splitS at hx
    split at hx
    · rcases List.mem_cons.1 hx with rfl | hx
      · simp at hc
      · exact split_no l x hx c hc
    · rename_i hd
      obtain ⟨y, r, hy⟩ := splitS_hd l
      rw [hy] at hx
      simp only [List.mem_cons] at hx
      rcases hx with rfl | hx
      · rcases List.mem_cons.1 hc with rfl | hc
        · simpa using hd
        · exact split_no l y (by rw [hy]; simp) c hc
      · exact split_no l x (by rw [hy]; simp [hx]) c hc
theorem valid_split (l : List UInt8) (h : Lib.validD l = true) : ∀ x ∈ splitS l, Lib.validD x = true := by
  have := valid_join (splitS l)
  rw [joinS_split, h] at this
  intro x hx
  exact List.all_eq_true.1 this.symm x hx
theorem hasB_split (c d : Int) (h0 : ((47 : Int) == c || (47 : Int) == d) = false) (l : List UInt8) (h : hasB l c d = false) : ∀ x ∈ splitS l, hasB x c d = false := by
  have := hasB_join c d h0 (splitS l)
  rw [joinS_split, h] at this
  intro x hx
  have := List.any_eq_false.1 this.symm x hx
  simpa using this
end Go.Proofs.YtfkbnemhkkbjgaaDoor
