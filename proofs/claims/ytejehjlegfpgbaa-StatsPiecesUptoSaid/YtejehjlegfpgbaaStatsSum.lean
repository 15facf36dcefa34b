/- STATS: the plain law of StatsPieces. -/
import Derived.Test.YtejehjlegfpgbaaStatsPlain
namespace Go.Proofs.Ytejehjlegfpgbaa
open Go Go.RowKit Go.Maps

/-- the counts of three books: the third is the two together -/
def Rel (c1 c2 c3 : Nat → Int) : Prop := ∀ i, c3 i = addJ (i % 9) (c1 i) (c2 i)
theorem Rel.inc_ {c1 c2 c3 : Nat → Int} (h : Rel c1 c2 c3) {j : Nat} (hj : j % 9 ≠ 8) (v : Int) : Rel c1 (inc c2 j v) (inc c3 j v) := by
  intro i
  unfold inc upd
  by_cases e : i = j
  · subst e
    rw [if_pos rfl, if_pos rfl, h i]
    unfold addJ
    rw [if_neg hj, if_neg hj]
    unfold wrap64; omega
  · rw [if_neg e, if_neg e]; exact h i
theorem Rel.max_ {c1 c2 c3 : Nat → Int} (h : Rel c1 c2 c3) {j : Nat} (hj : j % 9 = 8) (v : Int) : Rel c1 (upd c2 j (Max.max (c2 j) v)) (upd c3 j (Max.max (c3 j) v)) := by
  intro i
  unfold upd
  by_cases e : i = j
  · subst e
    rw [if_pos rfl, if_pos rfl, h i]
    unfold addJ
    rw [if_pos hj, if_pos hj]
    omega
  · rw [if_neg e, if_neg e]; exact h i
theorem Rel.done {c1 c2 c3 : Nat → Int} (h : Rel c1 c2 c3) (b : Nat) (er : Int) : Rel c1 (doneC c2 (b * 9) er) (doneC c3 (b * 9) er) := by
  have h4 := h.inc_ (j := b * 9 + 4) (by omega) 1
  unfold doneC
  dsimp only
  by_cases e0 : er = 0
  · rw [if_pos e0, if_pos e0, if_neg (by omega), if_neg (by omega)]; exact h4.inc_ (by omega) 1
  · rw [if_neg e0, if_neg e0]
    by_cases e1 : er = 110
    · rw [if_pos e1, if_pos e1]; exact h4.inc_ (by omega) 1
    · rw [if_neg e1, if_neg e1]; exact h4
theorem Rel.wait {c1 c2 c3 : Nat → Int} (h : Rel c1 c2 c3) (b : Nat) (v : Int) : Rel c1 (waitC c2 (b * 9) v) (waitC c3 (b * 9) v) := by
  have h7 := h.inc_ (j := b * 9 + 7) (by omega) v
  exact h7.max_ (by omega) v
structure Two (s1 s2 s3 : St) : Prop where
  c : Rel s1.c s2.c s3.c
  w : ∀ h, s3.w h = s1.w h ++ s2.w h
  f : ∀ id, s3.f id = match s2.f id with | some t => some t | none => s1.f id
theorem Two.step {n : Nat} {s1 s2 s3 : St} (h : Two s1 s2 s3) {e : Ev} (he : e.k = 7 → s2.f e.i ≠ none) : Two s1 (stepS n s2 e) (stepS n s3 e) := by
  have hf : ∀ id, (stepS n s3 e).f id = match (stepS n s2 e).f id with | some t => some t | none => s1.f id := by
    intro id
    rw [stepS_f, stepS_f]
    by_cases h1 : e.k = 1 ∧ e.i = id
    · rw [if_pos h1, if_pos h1]
    · rw [if_neg h1, if_neg h1]; exact h.f id
  have hcw : Rel s1.c (stepS n s2 e).c (stepS n s3 e).c ∧ ∀ h, (stepS n s3 e).w h = s1.w h ++ (stepS n s2 e).w h := by
    unfold stepS
    by_cases h1 : e.k = 1
    · rw [if_pos h1, if_pos h1]; exact ⟨h.c, h.w⟩
    rw [if_neg h1, if_neg h1]
    by_cases h7 : e.k = 7
    · rw [if_pos h7, if_pos h7]
      unfold doneS
      by_cases hr : InR n e.h
      · rw [if_pos hr, if_pos hr]
        have hfi := h.f e.i
        cases h2 : s2.f e.i with
        | none => exact absurd h2 (he h7)
        | some t =>
          rw [h2] at hfi
          rw [hfi]
          refine ⟨(h.c.done _ _).wait _ _, fun r => ?_⟩
          show upd s3.w _ _ r = s1.w r ++ upd s2.w _ _ r
          unfold upd
          by_cases er : r = e.h.toNat
          · subst er; rw [if_pos rfl, if_pos rfl, h.w, List.append_assoc]
          · rw [if_neg er, if_neg er]; exact h.w r
      · rw [if_neg hr, if_neg hr]; exact ⟨h.c, h.w⟩
    · rw [if_neg h7, if_neg h7]
      have hk4 : ∀ j, kindF e.k = some j → j < 4 := by
        intro j hj
        unfold kindF at hj
        repeat' split at hj
        all_goals first | (injection hj with hj; omega) | cases hj
      cases hk : kindF e.k with
      | none => exact ⟨h.c, h.w⟩
      | some j =>
        have := hk4 j hk
        dsimp only
        by_cases hr : InR n e.h
        · rw [if_pos hr, if_pos hr]; exact ⟨h.c.inc_ (by omega) 1, h.w⟩
        · rw [if_neg hr, if_neg hr]; exact ⟨h.c, h.w⟩
  exact ⟨hcw.1, hcw.2, hf⟩
def PubL (l : List Ev) : Prop := ∀ (i : Nat) (e : Ev), l[i]? = some e → e.k = 7 → pubF (l.take i) e.i ≠ none
theorem readS_append (n : Nat) (l m : List Ev) : readS n (l ++ m) = m.foldl (stepS n) (readS n l) := by unfold readS; rw [List.foldl_append]
theorem two_of {n : Nat} {l more : List Ev} (hl : FitL l) (hP : PubL more) : ∀ k, k ≤ more.length → Two (readS n l) (readS n (more.take k)) (readS n (l ++ more.take k)) := by
  intro k
  induction k with
  | zero =>
    intro _
    have hOk := (refCs_eq (n := n) hl l.length (Nat.le_refl _))
    rw [List.take_length] at hOk
    have hO := hOk.1
    rw [hOk.2] at hO
    rw [List.take_zero, List.append_nil]
    refine ⟨fun i => ?_, fun h => (List.append_nil _).symm, fun id => rfl⟩
    show _ = addJ (i % 9) _ 0
    unfold addJ
    split
    case isTrue h8 => have := hO.2 i h8; omega
    case isFalse => rw [Int.add_zero]; exact (wrap_of (hO.1 i)).symm
  | succ k ih =>
    intro hk
    have ih := ih (by omega)
    have he : more[k]? = some more[k] := List.getElem?_eq_getElem (by omega)
    have e1 : more.take (k + 1) = more.take k ++ [more[k]] := by rw [List.take_add_one, he]; rfl
    have e3 : readS n (l ++ more.take (k + 1)) = stepS n (readS n (l ++ more.take k)) more[k] := by rw [e1, ← List.append_assoc, readS_append]; rfl
    rw [e3, readS_snoc n more k _ he]
    refine ih.step (fun h7 => ?_)
    rw [readS_f]; exact hP k _ he h7

def sumI : List Int → Int
  | [] => 0
  | x :: l => x + sumI l
def maxI : List Int → Int
  | [] => 0
  | x :: l => max x (maxI l)
theorem sumI_app (l m : List Int) : sumI (l ++ m) = sumI l + sumI m := by
  induction l with
  | nil => simp [sumI]
  | cons x l ih => simp only [List.cons_append, sumI, ih]; omega
theorem maxI_nn (l : List Int) : 0 ≤ maxI l := by
  induction l with
  | nil => exact Int.le_refl 0
  | cons x l ih => simp only [maxI]; omega
theorem maxI_app (l m : List Int) : maxI (l ++ m) = max (maxI l) (maxI m) := by
  induction l with
  | nil => have := maxI_nn m; simp only [List.nil_append, maxI]; omega
  | cons x l ih => simp only [List.cons_append, maxI, ih]; omega
theorem sumI_perm {l m : List Int} (h : l.Perm m) : sumI l = sumI m := by
  induction h with
  | nil => rfl
  | cons x _ ih => simp only [sumI, ih]
  | swap x y l => simp only [sumI]; omega
  | trans _ _ h1 h2 => exact h1.trans h2
theorem maxI_perm {l m : List Int} (h : l.Perm m) : maxI l = maxI m := by
  induction h with
  | nil => rfl
  | cons x _ ih => simp only [maxI, ih]
  | swap x y l => simp only [maxI]; omega
  | trans _ _ h1 h2 => exact h1.trans h2
theorem sumI_bd {l : List Int} (h : ∀ x ∈ l, 0 ≤ x ∧ x ≤ 1099511627776) : 0 ≤ sumI l ∧ sumI l ≤ l.length * 1099511627776 := by
  induction l with
  | nil => exact ⟨Int.le_refl 0, by simp [sumI]⟩
  | cons x l ih =>
    have h1 := h x (by simp)
    have h2 := ih (fun y hy => h y (by simp [hy]))
    simp only [sumI, List.length_cons]
    omega
theorem maxI_up : ∀ {l : List Int} {x : Int}, Up (l ++ [x]) → 0 ≤ x → maxI (l ++ [x]) = x := by
  intro l
  induction l with
  | nil => intro x _ h; simp only [List.nil_append, maxI]; omega
  | cons a l ih =>
    intro x h hx
    have h' := List.pairwise_cons.1 h
    have h1 := ih h'.2 hx
    have h2 := of_decide_eq_true (h'.1 x (by simp))
    simp only [List.cons_append, maxI, h1]; omega
/-- what holds of each handler's counts and waits -/
structure Good (s : St) (m : Nat) : Prop where
  s7 : ∀ h, s.c (h * 9 + 7) = sumI (s.w h)
  s8 : ∀ h, s.c (h * 9 + 8) = maxI (s.w h)
  s4 : ∀ h, 0 ≤ s.c (h * 9 + 5) ∧ 0 ≤ s.c (h * 9 + 6) ∧ s.c (h * 9 + 5) + s.c (h * 9 + 6) ≤ s.c (h * 9 + 4) ∧ s.c (h * 9 + 4) ≤ m
  wb : ∀ h, ∀ x ∈ s.w h, 0 ≤ x ∧ x ≤ 1099511627776
  wl : ∀ h, (s.w h).length ≤ m
  fb : ∀ id t, s.f id = some t → 0 ≤ t ∧ t ≤ 1099511627776
theorem done_cells (c : Nat → Int) (b : Nat) (er : Int) : (∀ i, i ≠ b * 9 + 4 → i ≠ b * 9 + 5 → i ≠ b * 9 + 6 → doneC c (b * 9) er i = c i) ∧ doneC c (b * 9) er (b * 9 + 4) = wrap64 (c (b * 9 + 4) + 1) ∧
    doneC c (b * 9) er (b * 9 + 5) = (if er = 0 then wrap64 (c (b * 9 + 5) + 1) else c (b * 9 + 5)) ∧ doneC c (b * 9) er (b * 9 + 6) = (if er = 110 then wrap64 (c (b * 9 + 6) + 1) else c (b * 9 + 6)) := by
  unfold doneC inc upd
  refine ⟨fun i h4 h5 h6 => ?_, ?_, ?_, ?_⟩
  · by_cases e0 : er = 0
    · have e1 : ¬ er = 110 := by omega
      simp [e0, h4, h5]
    · by_cases e1 : er = 110
      · simp [e1, h4, h6]
      · simp [e0, e1, h4]
  all_goals
    by_cases e0 : er = 0
    · have e1 : ¬ er = 110 := by omega
      simp [e0]
    · by_cases e1 : er = 110
      · simp [e1]
      · simp [e0, e1]
theorem Good.step {n : Nat} {s : St} {m : Nat} (h : Good s m) (hm : m < 4194304) {e : Ev} (he : FitE e) :  Good (stepS n s e) (m + 1) := by
  have hfb : ∀ id t, (stepS n s e).f id = some t → 0 ≤ t ∧ t ≤ 1099511627776 := by
    intro id t ht
    rw [stepS_f] at ht
    split at ht
    · injection ht with ht; subst ht; exact he
    · exact h.fb id t ht
  have keep : Good s (m + 1) := ⟨h.s7, h.s8, fun r => by have := h.s4 r; omega, h.wb, fun r => by have := h.wl r; omega, h.fb⟩
  by_cases h1 : e.k = 1
  · have e1 : (stepS n s e).c = s.c ∧ (stepS n s e).w = s.w := by unfold stepS; rw [if_pos h1]; exact ⟨rfl, rfl⟩
    refine ⟨?_, ?_, ?_, ?_, ?_, hfb⟩ <;> (try rw [e1.1]) <;> (try rw [e1.2])
    · exact keep.s7
    · exact keep.s8
    · exact keep.s4
    · exact keep.wb
    · exact keep.wl
  by_cases h7 : e.k = 7
  · have e1 : stepS n s e = doneS n s e := by unfold stepS; rw [if_neg h1, if_pos h7]
    rw [e1]
    rw [e1] at hfb
    unfold doneS at hfb ⊢
    by_cases hr : InR n e.h
    · rw [if_pos hr] at hfb ⊢
      generalize e.h.toNat = b at *
      obtain ⟨q0, q4, q5, q6⟩ := done_cells s.c b e.er
      have i4 := h.s4 b
      have n4 : ∀ r, r ≠ b → doneC s.c (b * 9) e.er (r * 9 + 4) = s.c (r * 9 + 4) ∧ doneC s.c (b * 9) e.er (r * 9 + 5) = s.c (r * 9 + 5) ∧ doneC s.c (b * 9) e.er (r * 9 + 6) = s.c (r * 9 + 6) := fun r hr =>
        ⟨q0 _ (by omega) (by omega) (by omega), q0 _ (by omega) (by omega) (by omega), q0 _ (by omega) (by omega) (by omega)⟩
      have n7 : ∀ r, doneC s.c (b * 9) e.er (r * 9 + 7) = s.c (r * 9 + 7) ∧ doneC s.c (b * 9) e.er (r * 9 + 8) = s.c (r * 9 + 8) := fun r =>
        ⟨q0 _ (by omega) (by omega) (by omega), q0 _ (by omega) (by omega) (by omega)⟩
      have w1 : ∀ z : Int, 0 ≤ z → z ≤ 4194304 → wrap64 (z + 1) = z + 1 := fun z _ _ => by unfold wrap64; omega
      have k4 : ∀ r, 0 ≤ doneC s.c (b * 9) e.er (r * 9 + 5) ∧ 0 ≤ doneC s.c (b * 9) e.er (r * 9 + 6) ∧ doneC s.c (b * 9) e.er (r * 9 + 5) + doneC s.c (b * 9) e.er (r * 9 + 6) ≤ doneC s.c (b * 9) e.er (r * 9 + 4) ∧ doneC s.c (b * 9) e.er (r * 9 + 4) ≤ ((m + 1 : Nat) : Int) := by
        intro r
        by_cases hrb : r = b
        · subst hrb
          have w4 := w1 (s.c (r * 9 + 4)) (by omega) (by omega)
          have w5 := w1 (s.c (r * 9 + 5)) (by omega) (by omega)
          have w6 := w1 (s.c (r * 9 + 6)) (by omega) (by omega)
          rw [q4, q5, q6, w4, w5, w6]
          by_cases e0 : e.er = 0
          · rw [if_pos e0, if_neg (by omega)]; omega
          · rw [if_neg e0]
            by_cases e2 : e.er = 110
            · rw [if_pos e2]; omega
            · rw [if_neg e2]; omega
        · obtain ⟨a1, a2, a3⟩ := n4 r hrb
          rw [a1, a2, a3]; have := h.s4 r; omega
      cases hfe : s.f e.i with
      | none =>
        rw [hfe] at hfb
        exact ⟨fun r => by show doneC _ _ _ _ = _; rw [(n7 r).1]; exact h.s7 r, fun r => by show doneC _ _ _ _ = _; rw [(n7 r).2]; exact h.s8 r, k4, h.wb, fun r => by have := h.wl r; show (s.w r).length ≤ _; omega, hfb⟩
      | some t =>
        rw [hfe] at hfb
        have ht := h.fb _ _ hfe
        unfold FitE at he
        obtain ⟨wv, hwv⟩ : ∃ wv, max (e.a - t) 0 = wv := ⟨_, rfl⟩
        dsimp only at hfb
        dsimp only
        rw [hwv]
        have hb0 : 0 ≤ wv ∧ wv ≤ 1099511627776 := by omega
        have hsb := sumI_bd (h.wb b)
        have hlb := h.wl b
        have c7 : waitC (doneC s.c (b * 9) e.er) (b * 9) wv (b * 9 + 7) = s.c (b * 9 + 7) + wv := by
          unfold waitC inc
          rw [upd_other _ _ (by omega), upd_same, (n7 b).1, h.s7 b]
          unfold wrap64; omega
        have c8 : waitC (doneC s.c (b * 9) e.er) (b * 9) wv (b * 9 + 8) = max (s.c (b * 9 + 8)) wv := by
          unfold waitC inc
          rw [upd_same, upd_other _ _ (by omega), (n7 b).2]
        have co : ∀ i, i ≠ b * 9 + 7 → i ≠ b * 9 + 8 → waitC (doneC s.c (b * 9) e.er) (b * 9) wv i = doneC s.c (b * 9) e.er i := fun i h7 h8 => by
          unfold waitC inc
          rw [upd_other _ _ h8, upd_other _ _ h7]
        refine ⟨fun r => ?_, fun r => ?_, fun r => ?_, fun r x hx => ?_, fun r => ?_, hfb⟩
        · show waitC _ _ _ _ = sumI (upd s.w b _ r)
          by_cases hrb : r = b
          · subst hrb; rw [c7, upd_same, sumI_app, h.s7 r]; simp [sumI]
          · rw [co _ (by omega) (by omega), upd_other _ _ hrb, (n7 r).1]; exact h.s7 r
        · show waitC _ _ _ _ = maxI (upd s.w b _ r)
          by_cases hrb : r = b
          · subst hrb; rw [c8, upd_same, maxI_app, h.s8 r]; simp only [maxI]; omega
          · rw [co _ (by omega) (by omega), upd_other _ _ hrb, (n7 r).2]; exact h.s8 r
        · show 0 ≤ waitC _ _ _ _ ∧ 0 ≤ waitC _ _ _ _ ∧ waitC _ _ _ _ + waitC _ _ _ _ ≤ waitC _ _ _ _ ∧ waitC _ _ _ _ ≤ _
          rw [co (r * 9 + 5) (by omega) (by omega), co (r * 9 + 6) (by omega) (by omega), co (r * 9 + 4) (by omega) (by omega)]; exact k4 r
        · have hx : x ∈ upd s.w b (s.w b ++ [wv]) r := hx
          by_cases hrb : r = b
          · subst hrb; rw [upd_same] at hx
            rcases List.mem_append.1 hx with h1 | h1
            · exact h.wb _ x h1
            · rw [List.mem_singleton] at h1; subst h1; exact hb0
          · rw [upd_other _ _ hrb] at hx; exact h.wb r x hx
        · show (upd s.w b _ r).length ≤ _
          by_cases hrb : r = b
          · subst hrb; rw [upd_same]; simp; omega
          · rw [upd_other _ _ hrb]; have := h.wl r; omega
    · rw [if_neg hr] at hfb ⊢; exact ⟨keep.s7, keep.s8, keep.s4, keep.wb, keep.wl, hfb⟩
  · have hk4 : ∀ j, kindF e.k = some j → j < 4 := by
      intro j hj
      unfold kindF at hj
      repeat' split at hj
      all_goals first | (injection hj with hj; omega) | cases hj
    unfold stepS at hfb ⊢
    rw [if_neg h1, if_neg h7] at hfb ⊢
    cases hk : kindF e.k with
    | none => exact keep
    | some j =>
      rw [hk] at hfb
      dsimp only at hfb ⊢
      by_cases hr : InR n e.h
      · rw [if_pos hr] at hfb ⊢
        have hj := hk4 j hk
        have co : ∀ r q, 4 ≤ q → q < 9 → inc s.c (e.h.toNat * 9 + j) 1 (r * 9 + q) = s.c (r * 9 + q) := fun r q h1 h2 => by unfold inc; exact upd_other _ _ (by omega)
        exact ⟨fun r => by show inc _ _ _ _ = _; rw [co r 7 (by omega) (by omega)]; exact h.s7 r, fun r => by show inc _ _ _ _ = _; rw [co r 8 (by omega) (by omega)]; exact h.s8 r,
          fun r => by show 0 ≤ inc _ _ _ _ ∧ 0 ≤ inc _ _ _ _ ∧ inc _ _ _ _ + inc _ _ _ _ ≤ inc _ _ _ _ ∧ inc _ _ _ _ ≤ _; rw [co r 5 (by omega) (by omega), co r 6 (by omega) (by omega), co r 4 (by omega) (by omega)]; exact keep.s4 r, h.wb, keep.wl, hfb⟩
      · rw [if_neg hr]; exact keep
theorem inv_of {n : Nat} {l : List Ev} (hl : FitL l) (hlen : l.length ≤ 4194304) : ∀ k, k ≤ l.length →  Good (readS n (l.take k)) k := by
  intro k
  induction k with
  | zero => intro _; exact { s7 := fun _ => rfl, s8 := fun _ => rfl, s4 := fun _ => ⟨Int.le_refl 0, Int.le_refl 0, Int.le_refl 0, Int.le_refl 0⟩, wb := (fun _ x hx => by cases hx), wl := fun _ => Nat.le_refl 0, fb := (fun _ t ht => by cases ht) }
  | succ k ih =>
    intro hk
    have he : l[k]? = some l[k] := List.getElem?_eq_getElem (by omega)
    rw [readS_snoc n l k _ he]
    exact (ih (by omega)).step (by omega) (hl _ (List.getElem_mem _))
/-- the last one of a row, 0 if there is none -/
def lastI (l : List Int) : Int := l.getLastD 0
theorem lastI_snoc (l : List Int) (k : Nat) (x : Int) (h : l[k]? = some x) : lastI (l.take (k + 1)) = x := by
  unfold lastI; rw [List.take_add_one, h]; simp
theorem sumI_snoc (l : List Int) (k : Nat) (x : Int) (h : l[k]? = some x) : sumI (l.take (k + 1)) = sumI (l.take k) + x := by
  rw [List.take_add_one, h, sumI_app]; simp [sumI]
theorem lastI_max {l : List Int} (hu : Up l) (h0 : ∀ x ∈ l, 0 ≤ x) : lastI l = maxI l := by
  rcases List.eq_nil_or_concat l with rfl | ⟨m, x, rfl⟩
  · rfl
  · rw [List.concat_eq_append] at *
    rw [maxI_up hu (h0 x (by simp))]; unfold lastI; simp
theorem up_adj {l : List Int} (h : Up l) (i : Nat) (x y : Int) (hx : l[i]? = some x) (hy : l[i + 1]? = some y) : x ≤ y := by
  obtain ⟨h1, e1⟩ := List.getElem?_eq_some_iff.1 hx
  obtain ⟨h2, e2⟩ := List.getElem?_eq_some_iff.1 hy
  have := List.pairwise_iff_getElem.1 h i (i + 1) h1 h2 (by omega)
  rw [e1, e2] at this
  exact of_decide_eq_true this
theorem pub_bad {l : List Ev} (h : ¬ PubL l) : ∃ (n : Nat) (e : Ev), l[n]? = some e ∧ e.k = 7 ∧ pubF (l.take n) e.i = none ∧ ∀ (i : Nat) (x : Ev), i < n → l[i]? = some x → x.k = 7 → pubF (l.take i) x.i ≠ none := by
  have h1 : ∃ n : Nat, ∃ e, l[n]? = some e ∧ e.k = 7 ∧ pubF (l.take n) e.i = none := by
    apply Classical.byContradiction
    intro hn
    exact h (fun i e h1 h2 h3 => hn ⟨i, e, h1, h2, h3⟩)
  have : ∀ n, (∃ e, l[n]? = some e ∧ e.k = 7 ∧ pubF (l.take n) e.i = none) → ∃ (n : Nat) (e : Ev), l[n]? = some e ∧ e.k = 7 ∧ pubF (l.take n) e.i = none ∧ ∀ (i : Nat) (x : Ev), i < n → l[i]? = some x → x.k = 7 → pubF (l.take i) x.i ≠ none := by
    intro n
    induction n using Nat.strongRecOn with
    | _ n ih =>
      rintro ⟨e, h1, h2, h3⟩
      by_cases hm : ∃ m, m < n ∧ ∃ e, l[m]? = some e ∧ e.k = 7 ∧ pubF (l.take m) e.i = none
      · obtain ⟨m, hm1, hm2⟩ := hm; exact ih m hm1 hm2
      · exact ⟨n, e, h1, h2, h3, fun i x hi hx h7 hp => hm ⟨i, hi, x, hx, h7, hp⟩⟩
  obtain ⟨n, hn⟩ := h1
  exact this n hn
end Go.Proofs.Ytejehjlegfpgbaa
