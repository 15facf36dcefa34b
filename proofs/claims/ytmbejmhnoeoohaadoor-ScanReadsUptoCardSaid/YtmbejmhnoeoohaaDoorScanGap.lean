/- PLAIN: what stands between tokens is blanks and comments alone. -/
import Derived.Test.YtmbejmhnoeoohaaDoorScanPlainB
namespace Go.Proofs.YtmbejmhnoeoohaaDoor
open Go Go.RowKit

theorem lineS_take : ∀ (l : List UInt8) (k : Nat), lineS l ≤ k → lineS (l.take k) = lineS l
  | [], k, _ => by simp [lineS]
  | c :: r, 0, h => by
    simp only [lineS] at h ⊢
    split at h
    · rename_i hc; simp [lineS, hc]
    · omega
  | c :: r, k + 1, h => by
    simp only [List.take_succ_cons, lineS] at h ⊢
    by_cases hc : c = 10
    · rw [if_pos hc, if_pos hc]
    · rw [if_neg hc] at h
      rw [if_neg hc, if_neg hc, lineS_take r k (by omega)]
theorem cmtS_take : ∀ (l : List UInt8) (k j : Nat), cmtS l = some j → j ≤ k → cmtS (l.take k) = some j
  | [], k, j, h, _ => by simp [cmtS] at h
  | a :: r, 0, j, h, hk => by have := (cmtS_le _ _ h).2; omega
  | a :: r, k + 1, j, h, hk => by
    rw [List.take_succ_cons, cmtS_cons]
    rw [cmtS_cons] at h
    by_cases hc : a = 42 ∧ r.head? = some 47
    · rw [if_pos hc] at h
      obtain rfl : 2 = j := by injection h
      obtain ⟨k', rfl⟩ : ∃ k', k = k' + 1 := ⟨k - 1, by omega⟩
      rw [if_pos ⟨hc.1, by rw [List.head?_take]; simp [hc.2]⟩]
    · rw [if_neg hc] at h
      obtain ⟨i, hi, rfl⟩ := Option.map_eq_some_iff.1 h
      have hi2 := (cmtS_le _ _ hi).2
      rw [if_neg (fun hh => hc ⟨hh.1, by
        have h2 := hh.2
        rw [List.head?_take, if_neg (by omega)] at h2; exact h2⟩), cmtS_take r k i hi (by omega)]
      rfl
theorem skipN_take {l : List UInt8} {n m : Nat} (h : skipN l = some n) (hn : 0 < n) (hm : n ≤ m) : skipN (l.take m) = some n := by
  cases l with
  | nil => simp [skipN] at h; omega
  | cons c r =>
    obtain ⟨k, rfl⟩ : ∃ k, m = k + 1 := ⟨m - 1, by omega⟩
    rw [List.take_succ_cons]
    by_cases h1 : clsS c.toNat = 3
    · rw [skipN_blank _ h1] at h ⊢; exact h
    · by_cases h2 : c = 35
      · subst h2
        rw [skipN_line] at h ⊢
        injection h with h
        rw [lineS_take r k (by omega), h]
      · by_cases h3 : c = 47 ∧ r.head? = some 42
        · obtain ⟨rfl, h4⟩ := h3
          cases r with
          | nil => simp at h4
          | cons b t =>
            obtain rfl : b = 42 := by simpa using h4
            rw [skipN_cmt] at h
            obtain ⟨j, hj, rfl⟩ := Option.map_eq_some_iff.1 h
            obtain ⟨k', rfl⟩ : ∃ k', k = k' + 1 := ⟨k - 1, by omega⟩
            rw [List.take_succ_cons, skipN_cmt, cmtS_take t k' j hj (by omega)]; rfl
        · rw [skipN_zero h1 h2 h3] at h; injection h with h; omega

/-- how many bytes of blanks and comments stand here -/
def gapF : Nat → List UInt8 → Nat
  | 0, _ => 0
  | f + 1, l => match skipN l with
    | some (n + 1) => n + 1 + gapF f (l.drop (n + 1))
    | _ => 0
theorem gapF_law : ∀ (f : Nat) (l : List UInt8), l.length ≤ f → gapF f l ≤ l.length ∧ (∀ p r, scanAt l p r = scanAt (l.drop (gapF f l)) (p + gapF f l) r) ∧
    (skipN (l.drop (gapF f l)) = some 0 ∨ skipN (l.drop (gapF f l)) = none) ∧ ∀ p r, scanAt (l.take (gapF f l)) p r = .toks []
  | 0, l, h => by
    obtain rfl : l = [] := List.eq_nil_of_length_eq_zero (by omega)
    exact ⟨Nat.le_refl _, fun _ _ => rfl, .inl rfl, fun _ _ => rfl⟩
  | f + 1, l, h => by
    unfold gapF
    cases hs : skipN l with
    | none => exact ⟨Nat.zero_le _, fun _ _ => rfl, .inr hs, fun _ _ => rfl⟩
    | some n =>
      cases n with
      | zero => exact ⟨Nat.zero_le _, fun _ _ => rfl, .inl hs, fun _ _ => rfl⟩
      | succ n =>
        have hle := skipN_le hs
        obtain ⟨i1, i2, i3, i4⟩ := gapF_law f (l.drop (n + 1)) (by rw [List.length_drop]; omega)
        simp only
        generalize gapF f (l.drop (n + 1)) = g at *
        rw [List.length_drop] at i1
        refine ⟨by omega, fun p r => ?_, ?_, fun p r => ?_⟩
        · rw [scanAt_skip p r hs (by omega), i2, List.drop_drop, show p + (n + 1) + g = p + (n + 1 + g) by omega]
        · rw [List.drop_drop] at i3; exact i3
        · rw [scanAt_skip p r (skipN_take hs (by omega) (show n + 1 ≤ n + 1 + g by omega)) (by omega), List.drop_take, show n + 1 + g - (n + 1) = g by omega]
          exact i4 _ _
def gapS (l : List UInt8) : Nat := gapF l.length l

theorem oneS_pos (l : List UInt8) (p : Nat) : (oneS l p).2.pos = p := by
  cases l with
  | nil => rfl
  | cons c r =>
    show (oneC c r p).2.pos = p
    unfold oneC
    repeat' split
    all_goals rfl

/-- what is left to scan, when k tokens are read, from place a on -/
def Bt (l : List UInt8) (ts : List Tok) (k a : Nat) : Prop := a ≤ l.length ∧ ∃ r, scanAt (l.drop a) a r = .toks (ts.drop k)
theorem bt_start {l : List UInt8} {ts : List Tok} (h : scanAt l 0 16384 = .toks ts) : Bt l ts 0 0 := ⟨Nat.zero_le _, _, h⟩

theorem consS_toks {t : Tok} {g : Got} {ts : List Tok} (h : consS t g = .toks ts) : ∃ ts', ts = t :: ts' ∧ g = .toks ts' := by
  cases g with
  | toks l => injection h with h; exact ⟨l, h.symm, rfl⟩
  | bad p e => cases h

theorem bt_split {l : List UInt8} {ts : List Tok} {k a : Nat} (h : Bt l ts k a) : a + gapS (l.drop a) ≤ l.length ∧ (∀ p r, scanAt ((l.drop a).take (gapS (l.drop a))) p r = .toks []) ∧
    ((ts.drop k = [] ∧ a + gapS (l.drop a) = l.length) ∨ ∃ t r, ts.drop k = t :: ts.drop (k + 1) ∧ t.pos = a + gapS (l.drop a) ∧ oneS (l.drop t.pos) t.pos = (0, t) ∧ t.pos < t.stop ∧ t.stop ≤ l.length ∧ scanAt (l.drop t.stop) t.stop r = .toks (ts.drop (k + 1))) := by
  obtain ⟨ha, r, hr⟩ := h
  obtain ⟨i1, i2, i3, i4⟩ := gapF_law (l.drop a).length (l.drop a) (Nat.le_refl _)
  rw [show gapF (l.drop a).length (l.drop a) = gapS (l.drop a) from rfl] at *
  generalize gapS (l.drop a) = g at *
  rw [List.length_drop] at i1
  rw [i2, List.drop_drop] at hr
  rw [List.drop_drop] at i3
  refine ⟨by omega, i4, ?_⟩
  by_cases hg : a + g = l.length
  · left
    rw [List.drop_of_length_le (by omega), scanAt_nil] at hr
    injection hr with hr
    exact ⟨hr.symm, hg⟩
  · right
    have hne : l.drop (a + g) ≠ [] := by intro e; have := congrArg List.length e; rw [List.length_drop] at this; simp at this; omega
    rcases i3 with h0 | h0
    · rw [scanAt_tok hne _ _ h0] at hr
      by_cases c1 : (oneS (l.drop (a + g)) (a + g)).1 = 61
      · rw [if_pos c1] at hr; cases hr
      · rw [if_neg c1] at hr
        by_cases c2 : r = 0
        · rw [if_pos c2] at hr; cases hr
        · rw [if_neg c2] at hr
          by_cases c3 : (oneS (l.drop (a + g)) (a + g)).1 ≠ 0
          · rw [if_pos c3] at hr; cases hr
          · rw [if_neg c3] at hr
            have c4 : (oneS (l.drop (a + g)) (a + g)).1 = 0 := by omega
            obtain ⟨s1, s2⟩ := oneS_stop c4
            have s3 := oneS_pos (l.drop (a + g)) (a + g)
            obtain ⟨ts', e1, e2⟩ := consS_toks hr
            rw [List.length_drop] at s2
            have e3 : ts.drop (k + 1) = ts' := by
              have : ts.drop (k + 1) = (ts.drop k).drop 1 := by rw [List.drop_drop]
              rw [this, e1]; rfl
            refine ⟨(oneS (l.drop (a + g)) (a + g)).2, r - 1, ?_, s3, ?_, by omega, by omega, ?_⟩
            · rw [e1, e3]
            · rw [s3]; exact Prod.ext c4 rfl
            · rw [List.drop_drop] at e2
              rw [show a + g + ((oneS (l.drop (a + g)) (a + g)).2.stop - (a + g)) = (oneS (l.drop (a + g)) (a + g)).2.stop by omega] at e2
              rw [e2, e3]
    · rw [scanAt_open hne _ _ h0] at hr; cases hr

theorem bt_tok {l : List UInt8} {ts : List Tok} {k a : Nat} {t : Tok} (h : Bt l ts k a) (hl : l.length ≤ 65536) (ht : ts[k]? = some t) :
    a ≤ t.pos ∧ t.pos < t.stop ∧ t.stop ≤ l.length ∧ scanS ((l.drop a).take (t.pos - a)) = .toks [] ∧ Bt l ts (k + 1) t.stop := by
  obtain ⟨h1, h2, h3⟩ := bt_split h
  have hd : (ts.drop k).head? = some t := by rw [List.head?_drop]; exact ht
  rcases h3 with ⟨e, _⟩ | ⟨t', r, e, hp, _, hs, hs2, hr⟩
  · rw [e] at hd; cases hd
  · obtain rfl : t' = t := by rw [e] at hd; injection hd
    refine ⟨by omega, hs, hs2, ?_, hs2, r, hr⟩
    rw [hp, show a + gapS (l.drop a) - a = gapS (l.drop a) by omega]
    unfold scanS
    rw [if_neg (by rw [List.length_take, List.length_drop]; omega)]
    exact h2 _ _
theorem bt_end {l : List UInt8} {ts : List Tok} {a : Nat} (h : Bt l ts ts.length a) (hl : l.length ≤ 65536) : a ≤ l.length ∧ scanS ((l.drop a).take (l.length - a)) = .toks [] := by
  obtain ⟨h1, h2, h3⟩ := bt_split h
  rcases h3 with ⟨_, e⟩ | ⟨t', r, e, _⟩
  · refine ⟨by omega, ?_⟩
    rw [show l.length - a = gapS (l.drop a) by omega]
    unfold scanS
    rw [if_neg (by rw [List.length_take, List.length_drop]; omega)]
    exact h2 _ _
  · rw [List.drop_of_length_le (Nat.le_refl _)] at e; cases e

theorem scanF_bad : ∀ (f : Nat) (l : List UInt8) (p r q e : Nat), l.length ≤ f → scanF f l p r = .bad q e → e ≠ 0 ∧ q ≤ p + l.length
  | 0, l, p, r, q, e, _, h => by simp [scanF] at h
  | f + 1, l, p, r, q, e, hl, h => by
    unfold scanF at h
    by_cases h0 : l = []
    · rw [if_pos h0] at h; cases h
    · rw [if_neg h0] at h
      cases hs : skipN l with
      | none => rw [hs] at h; injection h with h1 h2; omega
      | some n =>
        rw [hs] at h
        cases n with
        | succ n =>
          have hle := skipN_le hs
          have := scanF_bad f _ _ _ _ _ (by rw [List.length_drop]; omega) h
          rw [List.length_drop] at this; omega
        | zero =>
          simp only at h
          by_cases c1 : (oneS l p).1 = 61
          · rw [if_pos c1] at h; injection h with h1 h2; omega
          · rw [if_neg c1] at h
            by_cases c2 : r = 0
            · rw [if_pos c2] at h; injection h with h1 h2; omega
            · rw [if_neg c2] at h
              by_cases c3 : (oneS l p).1 ≠ 0
              · rw [if_pos c3] at h; injection h with h1 h2; omega
              · rw [if_neg c3] at h
                obtain ⟨s1, s2⟩ := oneS_stop (l := l) (p := p) (by omega)
                cases hg : scanF f (l.drop ((oneS l p).2.stop - p)) (oneS l p).2.stop (r - 1) with
                | toks x => rw [hg] at h; cases h
                | bad q' e' =>
                  rw [hg] at h
                  injection h with h1 h2
                  subst h1; subst h2
                  have := scanF_bad f _ _ _ _ _ (by rw [List.length_drop]; omega) hg
                  rw [List.length_drop] at this; omega
theorem scanF_count : ∀ (f : Nat) (l : List UInt8) (p r : Nat) (ts : List Tok), scanF f l p r = .toks ts → ts.length ≤ r
  | 0, l, p, r, ts, h => by simp [scanF] at h; subst h; exact Nat.zero_le _
  | f + 1, l, p, r, ts, h => by
    unfold scanF at h
    by_cases h0 : l = []
    · rw [if_pos h0] at h; injection h with h; subst h; exact Nat.zero_le _
    · rw [if_neg h0] at h
      cases hs : skipN l with
      | none => rw [hs] at h; cases h
      | some n =>
        rw [hs] at h
        cases n with
        | succ n => exact scanF_count f _ _ _ _ h
        | zero =>
          simp only at h
          by_cases c1 : (oneS l p).1 = 61
          · rw [if_pos c1] at h; cases h
          · rw [if_neg c1] at h
            by_cases c2 : r = 0
            · rw [if_pos c2] at h; cases h
            · rw [if_neg c2] at h
              by_cases c3 : (oneS l p).1 ≠ 0
              · rw [if_pos c3] at h; cases h
              · rw [if_neg c3] at h
                obtain ⟨ts', e1, e2⟩ := consS_toks h
                have := scanF_count f _ _ _ _ e2
                rw [e1, List.length_cons]; omega
theorem scanS_bad {l : List UInt8} {q e : Nat} (h : scanS l = .bad q e) : e ≠ 0 ∧ q ≤ l.length := by
  unfold scanS at h
  split at h
  · injection h with h1 h2; omega
  · have := scanF_bad _ _ _ _ _ _ (Nat.le_refl _) h; omega
theorem scanS_toks {l : List UInt8} {ts : List Tok} (h : scanS l = .toks ts) : l.length ≤ 65536 ∧ scanAt l 0 16384 = .toks ts := by
  unfold scanS at h
  split at h
  · cases h
  · exact ⟨by omega, h⟩
end Go.Proofs.YtmbejmhnoeoohaaDoor
