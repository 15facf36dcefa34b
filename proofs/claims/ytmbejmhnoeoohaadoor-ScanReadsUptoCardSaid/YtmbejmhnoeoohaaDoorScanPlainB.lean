/- PLAIN: laws of the words of scan. No program stands in this text. -/
import Derived.Test.YtmbejmhnoeoohaaDoorScanPlain
namespace Go.Proofs.YtmbejmhnoeoohaaDoor
open Go Go.RowKit

theorem runS_le (p : UInt8 → Bool) : ∀ l : List UInt8, runS p l ≤ l.length
  | [] => Nat.le_refl _
  | c :: r => by have := runS_le p r; unfold runS; split <;> simp <;> omega
theorem runS_pos (p : UInt8 → Bool) (c : UInt8) (r : List UInt8) (h : p c = true) : 0 < runS p (c :: r) := by simp [runS, h]

theorem lineS_le : ∀ l : List UInt8, lineS l ≤ l.length
  | [] => Nat.le_refl _
  | c :: r => by have := lineS_le r; unfold lineS; split <;> simp; omega

theorem cmtS_cons (a : UInt8) (r : List UInt8) : cmtS (a :: r) = if a = 42 ∧ r.head? = some 47 then some 2 else (cmtS r).map (· + 1) := by
  cases r with
  | nil => simp [cmtS]
  | cons b t =>
    by_cases h : a = 42 ∧ b = 47
    · obtain ⟨rfl, rfl⟩ := h; simp [cmtS]
    · rw [if_neg (by simpa using h)]
      rw [cmtS]
      intro t' e1 e2
      exact h ⟨e1, by injection e2⟩
theorem cmtS_le : ∀ (l : List UInt8) (k : Nat), cmtS l = some k → k ≤ l.length ∧ 2 ≤ k
  | [], k, h => by simp [cmtS] at h
  | a :: r, k, h => by
    rw [cmtS_cons] at h
    split at h
    · rename_i hh
      cases r with
      | nil => simp at hh
      | cons b t => simp at h; subst h; simp
    · obtain ⟨j, hj, rfl⟩ := Option.map_eq_some_iff.1 h
      have := cmtS_le r j hj
      simp; omega

theorem skipN_blank {c : UInt8} (r : List UInt8) (h : clsS c.toNat = 3) : skipN (c :: r) = some 1 := by simp [skipN, h]
theorem skipN_line (r : List UInt8) : skipN (35 :: r) = some (lineS r + 1) := by simp [skipN, clsS]
theorem skipN_cmt (r : List UInt8) : skipN (47 :: 42 :: r) = (cmtS r).map (· + 2) := by simp [skipN, clsS]
theorem skipN_zero {c : UInt8} {r : List UInt8} (h1 : ¬ clsS c.toNat = 3) (h2 : ¬ c = 35) (h3 : ¬ (c = 47 ∧ r.head? = some 42)) : skipN (c :: r) = some 0 := by
  simp only [skipN]; rw [if_neg h1, if_neg h2, if_neg h3]
theorem skipN_le {l : List UInt8} {n : Nat} (h : skipN l = some n) : n ≤ l.length := by
  cases l with
  | nil => simp [skipN] at h; omega
  | cons c r =>
    by_cases h1 : clsS c.toNat = 3
    · rw [skipN_blank r h1] at h; injection h with h; simp; omega
    · by_cases h2 : c = 35
      · subst h2; rw [skipN_line] at h; injection h with h; have := lineS_le r; simp; omega
      · by_cases h3 : c = 47 ∧ r.head? = some 42
        · obtain ⟨rfl, h4⟩ := h3
          cases r with
          | nil => simp at h4
          | cons b t =>
            obtain rfl : b = 42 := by simpa using h4
            rw [skipN_cmt] at h
            obtain ⟨j, hj, rfl⟩ := Option.map_eq_some_iff.1 h
            have := cmtS_le _ j hj
            simp; omega
        · rw [skipN_zero h1 h2 h3] at h; injection h with h; omega

theorem qS_le : ∀ (n : Nat) (l : List UInt8) (x : List UInt8 × Nat), l.length ≤ n → qS l = some x → x.2 ≤ l.length ∧ 0 < x.2
  | n, [], x, _, h => by simp [qS] at h
  | 0, c :: r, x, hn, h => by simp at hn
  | n + 1, c :: r, x, hn, h => by
    simp only [List.length_cons] at hn
    unfold qS at h
    split at h
    · simp at h; subst h; simp
    · split at h
      · simp at h
      · split at h
        · split at h
          · simp at h
          · rename_i d r2
            simp only [List.length_cons] at hn ⊢
            split at h
            · obtain ⟨y, hy, rfl⟩ := Option.map_eq_some_iff.1 h
              have := qS_le n r2 y (by omega) hy
              simp only; omega
            · split at h
              · split at h
                · rename_i g hh r3
                  simp only [List.length_cons] at hn ⊢
                  split at h
                  · obtain ⟨y, hy, rfl⟩ := Option.map_eq_some_iff.1 h
                    have := qS_le n r3 y (by omega) hy
                    simp only; omega
                  · simp at h
                · simp at h
              · simp at h
        · obtain ⟨y, hy, rfl⟩ := Option.map_eq_some_iff.1 h
          have := qS_le n r y (by omega) hy
          simp only [List.length_cons]; omega

theorem oneS_word {c : UInt8} (r : List UInt8) (p : Nat) (h : clsS c.toNat = 1) : oneS (c :: r) p =
    if kindS ((c :: r).take (runS alnB (c :: r))) = 0 then (if 32 < runS alnB (c :: r) then 63 else 0, ⟨1, p, p + runS alnB (c :: r), 0, []⟩) else (0, ⟨kindS ((c :: r).take (runS alnB (c :: r))), p, p + runS alnB (c :: r), 0, []⟩) := by
  show oneC c r p = _; unfold oneC; rw [if_pos h]
theorem oneS_num {c : UInt8} (r : List UInt8) (p : Nat) (h : clsS c.toNat = 2) : oneS (c :: r) p =
    (if 18446744073709551615 < numV ((c :: r).take (runS digB (c :: r))) ∨ (c = 48 ∧ 1 < runS digB (c :: r)) then 64 else 0, ⟨2, p, p + runS digB (c :: r), numV ((c :: r).take (runS digB (c :: r))), []⟩) := by
  show oneC c r p = _; unfold oneC; rw [if_neg (by omega), if_pos h]
theorem oneS_text_none (r : List UInt8) (p : Nat) (h : qS r = none) : oneS (34 :: r) p = (65, ⟨0, p, p, 0, []⟩) := by
  show oneC 34 r p = _; unfold oneC; rw [if_neg (by decide), if_neg (by decide), if_pos rfl, h]
theorem oneS_text_some (r : List UInt8) (p : Nat) {x : List UInt8 × Nat} (h : qS r = some x) : oneS (34 :: r) p = (0, ⟨3, p, p + x.2 + 1, 0, x.1⟩) := by
  show oneC 34 r p = _; unfold oneC; rw [if_neg (by decide), if_neg (by decide), if_pos rfl, h]
theorem oneS_two {c : UInt8} {r : List UInt8} (p : Nat) (h1 : ¬ clsS c.toNat = 1) (h2 : ¬ clsS c.toNat = 2) (h3 : ¬ c = 34) (h4 : 2 ≤ (c :: r).length ∧ kindS ((c :: r).take 2) ≠ 0) :
    oneS (c :: r) p = (0, ⟨kindS ((c :: r).take 2), p, p + 2, 0, []⟩) := by
  show oneC c r p = _; unfold oneC; rw [if_neg h1, if_neg h2, if_neg h3, if_pos h4]
theorem oneS_mark {c : UInt8} {r : List UInt8} (p : Nat) (h1 : ¬ clsS c.toNat = 1) (h2 : ¬ clsS c.toNat = 2) (h3 : ¬ c = 34) (h4 : ¬ (2 ≤ (c :: r).length ∧ kindS ((c :: r).take 2) ≠ 0)) (h5 : kindS [c] ≠ 0) :
    oneS (c :: r) p = (0, ⟨kindS [c], p, p + 1, 0, []⟩) := by
  show oneC c r p = _; unfold oneC; rw [if_neg h1, if_neg h2, if_neg h3, if_neg h4, if_pos h5]
theorem oneS_none {c : UInt8} {r : List UInt8} (p : Nat) (h1 : ¬ clsS c.toNat = 1) (h2 : ¬ clsS c.toNat = 2) (h3 : ¬ c = 34) (h4 : ¬ (2 ≤ (c :: r).length ∧ kindS ((c :: r).take 2) ≠ 0)) (h5 : ¬ kindS [c] ≠ 0) :
    oneS (c :: r) p = (61, ⟨0, p, p, 0, []⟩) := by
  show oneC c r p = _; unfold oneC; rw [if_neg h1, if_neg h2, if_neg h3, if_neg h4, if_neg h5]

/-- a token that is one lies behind its place, and within the text -/
theorem oneS_stop {l : List UInt8} {p : Nat} (h : (oneS l p).1 = 0) : p < (oneS l p).2.stop ∧ (oneS l p).2.stop ≤ p + l.length := by
  cases l with
  | nil => simp [oneS] at h
  | cons c r =>
    by_cases h1 : clsS c.toNat = 1
    · have hp := runS_pos alnB c r (by simp [alnB, h1])
      have hl := runS_le alnB (c :: r)
      have e : (oneS (c :: r) p).2.stop = p + runS alnB (c :: r) := by
        rw [oneS_word r p h1]; split <;> rfl
      rw [e]; omega
    · by_cases h2 : clsS c.toNat = 2
      · have hp := runS_pos digB c r (by simp [digB, h2])
        have hl := runS_le digB (c :: r)
        rw [oneS_num r p h2]; simp only; omega
      · by_cases h3 : c = 34
        · subst h3
          cases hq : qS r with
          | none => rw [oneS_text_none r p hq] at h; simp at h
          | some x =>
            have := qS_le _ r x (Nat.le_refl _) hq
            rw [oneS_text_some r p hq]; simp only [List.length_cons]; omega
        · by_cases h4 : 2 ≤ (c :: r).length ∧ kindS ((c :: r).take 2) ≠ 0
          · rw [oneS_two p h1 h2 h3 h4]; simp only; omega
          · by_cases h5 : kindS [c] ≠ 0
            · rw [oneS_mark p h1 h2 h3 h4 h5]; simp only [List.length_cons]; omega
            · rw [oneS_none p h1 h2 h3 h4 h5] at h; simp at h

theorem scanF_fuel : ∀ (f g : Nat) (l : List UInt8) (p r : Nat), l.length ≤ f → l.length ≤ g → scanF f l p r = scanF g l p r
  | 0, 0, l, p, r, _, _ => rfl
  | 0, g + 1, l, p, r, h, _ => by
    have : l = [] := List.eq_nil_of_length_eq_zero (by omega)
    subst this; simp [scanF]
  | f + 1, 0, l, p, r, _, h => by
    have : l = [] := List.eq_nil_of_length_eq_zero (by omega)
    subst this; simp [scanF]
  | f + 1, g + 1, l, p, r, h1, h2 => by
    unfold scanF
    by_cases hl : l = []
    · simp [hl]
    · rw [if_neg hl, if_neg hl]
      have hpos : 0 < l.length := by cases l with | nil => exact absurd rfl hl | cons c t => simp
      cases hs : skipN l with
      | none => rfl
      | some n =>
        cases n with
        | succ n =>
          simp only
          exact scanF_fuel f g _ _ _ (by rw [List.length_drop]; omega) (by rw [List.length_drop]; omega)
        | zero =>
          simp only
          by_cases c1 : (oneS l p).1 = 61
          · rw [if_pos c1, if_pos c1]
          · rw [if_neg c1, if_neg c1]
            by_cases c2 : r = 0
            · rw [if_pos c2, if_pos c2]
            · rw [if_neg c2, if_neg c2]
              by_cases c3 : (oneS l p).1 ≠ 0
              · rw [if_pos c3, if_pos c3]
              · rw [if_neg c3, if_neg c3]
                have := oneS_stop (l := l) (p := p) (by omega)
                congr 1
                exact scanF_fuel f g _ _ _ (by rw [List.length_drop]; omega) (by rw [List.length_drop]; omega)

theorem scanAt_nil (p r : Nat) : scanAt [] p r = .toks [] := rfl
theorem scanAt_open {l : List UInt8} (hl : l ≠ []) (p r : Nat) (h : skipN l = none) : scanAt l p r = .bad p 62 := by
  unfold scanAt
  cases l with
  | nil => exact absurd rfl hl
  | cons c t => simp only [List.length_cons, scanF]; rw [if_neg hl, h]
theorem scanAt_skip {l : List UInt8} {n : Nat} (p r : Nat) (h : skipN l = some n) (hn : 0 < n) : scanAt l p r = scanAt (l.drop n) (p + n) r := by
  have hle := skipN_le h
  unfold scanAt
  cases l with
  | nil => simp at hle; omega
  | cons c t =>
    conv => lhs; simp only [List.length_cons, scanF]
    rw [if_neg (by simp), h]
    obtain ⟨m, rfl⟩ : ∃ m, n = m + 1 := ⟨n - 1, by omega⟩
    simp only
    exact scanF_fuel _ _ _ _ _ (by rw [List.length_drop]; simp) (Nat.le_refl _)
theorem scanAt_tok {l : List UInt8} (hl : l ≠ []) (p r : Nat) (h : skipN l = some 0) :
    scanAt l p r = if (oneS l p).1 = 61 then .bad p 61 else if r = 0 then .bad p 66 else if (oneS l p).1 ≠ 0 then .bad p (oneS l p).1 else
      consS (oneS l p).2 (scanAt (l.drop ((oneS l p).2.stop - p)) (oneS l p).2.stop (r - 1)) := by
  unfold scanAt
  cases l with
  | nil => exact absurd rfl hl
  | cons c t =>
    conv => lhs; simp only [List.length_cons, scanF]
    rw [if_neg hl, h]
    simp only
    by_cases c1 : (oneS (c :: t) p).1 = 61
    · rw [if_pos c1, if_pos c1]
    · rw [if_neg c1, if_neg c1]
      by_cases c2 : r = 0
      · rw [if_pos c2, if_pos c2]
      · rw [if_neg c2, if_neg c2]
        by_cases c3 : (oneS (c :: t) p).1 ≠ 0
        · rw [if_pos c3, if_pos c3]
        · rw [if_neg c3, if_neg c3]
          have := oneS_stop (l := c :: t) (p := p) (by omega)
          congr 1
          exact scanF_fuel _ _ _ _ _ (by rw [List.length_drop]; simp only [List.length_cons]; omega) (Nat.le_refl _)
end Go.Proofs.YtmbejmhnoeoohaaDoor
