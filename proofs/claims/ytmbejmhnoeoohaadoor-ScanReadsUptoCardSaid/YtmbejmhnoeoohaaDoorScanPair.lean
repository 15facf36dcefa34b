/- PLAIN: a token's own bytes with a blank behind say the same. -/
import Derived.Test.YtmbejmhnoeoohaaDoorScanGap
namespace Go.Proofs.YtmbejmhnoeoohaaDoor
open Go Go.RowKit

theorem runS_app (p : UInt8 → Bool) : ∀ (l z : List UInt8), p 32 = false → runS p (l.take (runS p l) ++ 32 :: z) = runS p l
  | [], z, h => by simp [runS, h]
  | c :: r, z, h => by
    by_cases hc : p c = true
    · have e : runS p (c :: r) = runS p r + 1 := by simp [runS, hc]
      have e2 : ∀ y, runS p (c :: y) = runS p y + 1 := fun y => by simp [runS, hc]
      rw [e, List.take_succ_cons, List.cons_append, e2, runS_app p r z h]
    · have e : runS p (c :: r) = 0 := by simp [runS, hc]
      rw [e]
      simp [runS, h]
/-- a text's bytes do not ask what stands behind them -/
theorem qS_app : ∀ (n : Nat) (l z : List UInt8) (x : List UInt8 × Nat), l.length ≤ n → qS l = some x → qS (l.take x.2 ++ z) = some x
  | n, [], z, x, _, h => by simp [qS] at h
  | 0, c :: r, z, x, hn, h => by simp at hn
  | n + 1, c :: r, z, x, hn, h => by
    simp only [List.length_cons] at hn
    unfold qS at h
    split at h
    · rename_i hc
      simp at h; subst h
      simp only [List.take_succ_cons, List.cons_append]
      unfold qS; rw [if_pos hc]
    · rename_i hc
      split at h
      · simp at h
      · rename_i hr
        split at h
        · rename_i h92
          split at h
          · simp at h
          · rename_i d r2
            simp only [List.length_cons] at hn
            split at h
            · rename_i hd
              obtain ⟨y, hy, rfl⟩ := Option.map_eq_some_iff.1 h
              have := qS_app n r2 z y (by omega) hy
              simp only [List.take_succ_cons, List.cons_append]
              unfold qS
              rw [if_neg hc, if_neg hr, if_pos h92]
              simp only
              rw [if_pos hd, this]; rfl
            · rename_i hd
              split at h
              · rename_i hx
                split at h
                · rename_i g hh r3
                  simp only [List.length_cons] at hn
                  split at h
                  · rename_i hg
                    obtain ⟨y, hy, rfl⟩ := Option.map_eq_some_iff.1 h
                    have := qS_app n r3 z y (by omega) hy
                    simp only [List.take_succ_cons, List.cons_append]
                    unfold qS
                    rw [if_neg hc, if_neg hr, if_pos h92]
                    simp only
                    rw [if_neg hd, if_pos hx, if_pos hg, this]; rfl
                  · simp at h
                · simp at h
              · simp at h
        · rename_i h92
          obtain ⟨y, hy, rfl⟩ := Option.map_eq_some_iff.1 h
          have := qS_app n r z y (by omega) hy
          simp only [List.take_succ_cons, List.cons_append]
          unfold qS
          rw [if_neg hc, if_neg hr, if_neg h92, this]; rfl

theorem kind_blank (c : UInt8) : kindS [c, 32] = 0 := by
  simp [kindS, wordsS, kFrom]
theorem take_app {α : Type} (l z : List α) (n : Nat) (h : n ≤ l.length) : (l.take n ++ z).take n = l.take n := by
  rw [List.take_append_of_le_length (by rw [List.length_take]; omega), List.take_take, Nat.min_self]

/-- a token's own bytes, a blank behind them, say the same token -/
theorem tok_alone {l : List UInt8} {p : Nat} {t : Tok} (h : oneS l p = (0, t)) (z : List UInt8) (q : Nat) :
    oneS (l.take (t.stop - p) ++ 32 :: z) q = (0, ⟨t.kind, q, q + (t.stop - p), t.num, t.text⟩) := by
  cases l with
  | nil => simp [oneS] at h
  | cons c r =>
    by_cases h1 : clsS c.toNat = 1
    · rw [oneS_word r p h1] at h
      have hp := runS_pos alnB c r (by simp [alnB, h1])
      have hl := runS_le alnB (c :: r)
      have ha := runS_app alnB (c :: r) z (by decide)
      have ht := take_app (c :: r) (32 :: z) _ hl
      generalize runS alnB (c :: r) = n at *
      obtain ⟨m, rfl⟩ : ∃ m, n = m + 1 := ⟨n - 1, by omega⟩
      have e : t.stop - p = m + 1 := by
        split at h
        · injection h with _ h; rw [← h]; simp
        · injection h with _ h; rw [← h]; simp
      rw [e]
      rw [List.take_succ_cons, List.cons_append] at ha ht ⊢
      rw [oneS_word _ q h1, ha, ht]
      rw [List.take_succ_cons] at h
      split at h
      · rename_i hk
        injection h with h' h; rw [← h, if_pos hk]; simp [h']
      · rename_i hk
        injection h with h' h; rw [← h, if_neg hk]
    · by_cases h2 : clsS c.toNat = 2
      · rw [oneS_num r p h2] at h
        have hp := runS_pos digB c r (by simp [digB, h2])
        have hl := runS_le digB (c :: r)
        have ha := runS_app digB (c :: r) z (by decide)
        have ht := take_app (c :: r) (32 :: z) _ hl
        generalize runS digB (c :: r) = n at *
        obtain ⟨m, rfl⟩ : ∃ m, n = m + 1 := ⟨n - 1, by omega⟩
        injection h with h' h
        subst h
        simp only [Nat.add_sub_cancel_left]
        rw [List.take_succ_cons, List.cons_append] at ha ht ⊢
        rw [oneS_num _ q h2, ha, ht]
        rw [List.take_succ_cons] at h'
        rw [h']
      · by_cases h3 : c = 34
        · subst h3
          cases hq : qS r with
          | none => rw [oneS_text_none r p hq] at h; injection h with h _; cases h
          | some x =>
            rw [oneS_text_some r p hq] at h
            injection h with _ h
            subst h
            simp only [show p + x.2 + 1 - p = x.2 + 1 by omega]
            rw [List.take_succ_cons, List.cons_append, oneS_text_some _ q (qS_app _ r (32 :: z) x (Nat.le_refl _) hq)]
            rfl
        · by_cases h4 : 2 ≤ (c :: r).length ∧ kindS ((c :: r).take 2) ≠ 0
          · rw [oneS_two p h1 h2 h3 h4] at h
            injection h with _ h
            subst h
            simp only [Nat.add_sub_cancel_left]
            have ht := take_app (c :: r) (32 :: z) 2 h4.1
            obtain ⟨d, r, rfl⟩ : ∃ d r', r = d :: r' := by
              cases r with
              | nil => simp at h4
              | cons d r => exact ⟨d, r, rfl⟩
            simp only [List.take_succ_cons, List.take_zero, List.cons_append, List.nil_append] at h4 ⊢
            rw [oneS_two (r := d :: 32 :: z) q h1 h2 h3 ⟨by simp, h4.2⟩]
            rfl
          · by_cases h5 : kindS [c] ≠ 0
            · rw [oneS_mark p h1 h2 h3 h4 h5] at h
              injection h with _ h
              subst h
              simp only [Nat.add_sub_cancel_left]
              simp only [List.take_succ_cons, List.take_zero, List.cons_append, List.nil_append]
              rw [oneS_mark (r := 32 :: z) q h1 h2 h3 (fun hh => hh.2 (kind_blank c)) h5]
            · rw [oneS_none p h1 h2 h3 h4 h5] at h; injection h with h _; cases h

/-- nothing is skipped ahead of a token's own bytes -/
theorem skip_alone {l : List UInt8} {p : Nat} {t : Tok} (h : oneS l p = (0, t)) (h0 : skipN l = some 0) (z : List UInt8) : skipN (l.take (t.stop - p) ++ 32 :: z) = some 0 := by
  obtain ⟨s1, s2⟩ := oneS_stop (l := l) (p := p) (by rw [h])
  rw [h] at s1 s2
  simp only at s1 s2
  obtain ⟨m, hm⟩ : ∃ m, t.stop - p = m + 1 := ⟨t.stop - p - 1, by omega⟩
  rw [hm]
  cases l with
  | nil => simp at s2; omega
  | cons c r =>
    rw [List.take_succ_cons, List.cons_append]
    have h1 : ¬ clsS c.toNat = 3 := by
      intro e; rw [skipN_blank r e] at h0; cases h0
    have h2 : ¬ c = 35 := by
      intro e; subst e; rw [skipN_line] at h0; injection h0 with h0; omega
    have h3 : ¬ c = 47 := by
      intro e; subst e
      have : (oneS (47 :: r) p).1 = 0 := by rw [h]
      rw [oneS_none p (by decide) (by decide) (by decide)] at this
      · cases this
      · rintro ⟨hl, hk⟩
        cases r with
        | nil => simp at hl
        | cons d r =>
          refine hk ?_
          show kindS [47, d] = 0
          simp [kindS, wordsS, kFrom]
      · simp [kindS, wordsS, kFrom]
    exact skipN_zero h1 h2 (fun hh => h3 hh.1)

/-- the first token of a scan, and what is left -/
theorem scan_first {l : List UInt8} {a r : Nat} {t : Tok} {ts : List Tok} (ha : a ≤ l.length) (h : scanAt (l.drop a) a r = .toks (t :: ts)) :
    skipN (l.drop t.pos) = some 0 ∧ oneS (l.drop t.pos) t.pos = (0, t) ∧ r ≠ 0 ∧ t.stop ≤ l.length ∧ scanAt (l.drop t.stop) t.stop (r - 1) = .toks ts := by
  obtain ⟨i1, i2, i3, _⟩ := gapF_law (l.drop a).length (l.drop a) (Nat.le_refl _)
  generalize gapF (l.drop a).length (l.drop a) = g at *
  rw [List.length_drop] at i1
  rw [i2, List.drop_drop] at h
  rw [List.drop_drop] at i3
  by_cases hg : a + g = l.length
  · rw [List.drop_of_length_le (by omega), scanAt_nil] at h
    injection h with h; cases h
  · have hne : l.drop (a + g) ≠ [] := by intro e; have := congrArg List.length e; rw [List.length_drop] at this; simp at this; omega
    rcases i3 with h0 | h0
    · rw [scanAt_tok hne _ _ h0] at h
      by_cases c1 : (oneS (l.drop (a + g)) (a + g)).1 = 61
      · rw [if_pos c1] at h; cases h
      · rw [if_neg c1] at h
        by_cases c2 : r = 0
        · rw [if_pos c2] at h; cases h
        · rw [if_neg c2] at h
          by_cases c3 : (oneS (l.drop (a + g)) (a + g)).1 ≠ 0
          · rw [if_pos c3] at h; cases h
          · rw [if_neg c3] at h
            have c4 : (oneS (l.drop (a + g)) (a + g)).1 = 0 := by omega
            obtain ⟨s1, s2⟩ := oneS_stop c4
            have s3 := oneS_pos (l.drop (a + g)) (a + g)
            obtain ⟨ts', e1, e2⟩ := consS_toks h
            injection e1 with e1 e3
            subst e3
            rw [← e1] at e2 s1 s2 s3
            rw [List.length_drop] at s2
            rw [s3]
            refine ⟨h0, Prod.ext c4 e1.symm, c2, by omega, ?_⟩
            rw [List.drop_drop, show a + g + (t.stop - (a + g)) = t.stop by omega] at e2
            exact e2
    · rw [scanAt_open hne _ _ h0] at h; cases h

def glueS (l : List UInt8) (ts : List Tok) : List UInt8 := ts.flatMap fun t => (l.drop t.pos).take (t.stop - t.pos) ++ [32]
def coreT (t : Tok) : Nat × Nat × List UInt8 := (t.kind, t.num, t.text)
theorem scan_glue (l : List UInt8) : ∀ (ts : List Tok) (a r q : Nat), a ≤ l.length → scanAt (l.drop a) a r = .toks ts → ∃ us, scanAt (glueS l ts) q r = .toks us ∧ us.map coreT = ts.map coreT
  | [], a, r, q, _, _ => ⟨[], rfl, rfl⟩
  | t :: ts, a, r, q, ha, h => by
    obtain ⟨h0, h1, h2, h3, h4⟩ := scan_first ha h
    obtain ⟨us, hu, hc⟩ := scan_glue l ts t.stop (r - 1) (q + (t.stop - t.pos) + 1) h3 h4
    have e : glueS l (t :: ts) = (l.drop t.pos).take (t.stop - t.pos) ++ 32 :: glueS l ts := by simp [glueS]
    rw [e]
    generalize glueS l ts = z at *
    have k1 := tok_alone h1 z q
    have k2 := skip_alone h1 h0 z
    have hX : ((l.drop t.pos).take (t.stop - t.pos)).length = t.stop - t.pos := by rw [List.length_take, List.length_drop]; omega
    refine ⟨⟨t.kind, q, q + (t.stop - t.pos), t.num, t.text⟩ :: us, ?_, by simp [hc, coreT]⟩
    rw [scanAt_tok (by simp) _ _ k2, k1]
    rw [if_neg (by simp), if_neg h2, if_neg (by simp)]
    simp only
    rw [Nat.add_sub_cancel_left, List.drop_append_of_le_length (by rw [hX]; omega), List.drop_of_length_le (by rw [hX]; omega), List.nil_append,
      scanAt_skip _ _ (skipN_blank z (c := 32) (by decide)) (by omega)]
    rw [List.drop_succ_cons, List.drop_zero, hu]
    rfl
end Go.Proofs.YtmbejmhnoeoohaaDoor
