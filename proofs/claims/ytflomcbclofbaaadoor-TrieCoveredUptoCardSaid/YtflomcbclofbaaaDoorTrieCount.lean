/- TRIE: how the reference counts the nodes. -/
import Derived.Test.YtflomcbclofbaaaDoorTrieAwake
namespace Go.Proofs.YtflomcbclofbaaaDoor
open Go Go.RowKit


open Classical in
noncomputable def comm : List ByteArray → List ByteArray → Nat
  | a :: x, b :: y => if a = b then comm x y + 1 else 0
  | _, _ => 0
theorem comm_iff : ∀ (l b : List ByteArray) (j : Nat), j ≤ l.length → (j ≤ comm l b ↔ ∃ r, b = l.take j ++ r)
  | _, b, 0, _ => by simp
  | [], b, j + 1, h => by simp at h
  | a :: x, [], j + 1, h => by
    unfold comm
    simp
  | a :: x, c :: y, j + 1, h => by
    unfold comm
    have ih := comm_iff x y j (by simpa using h)
    by_cases e : a = c
    · subst e
      rw [if_pos rfl]
      constructor
      · intro h1
        obtain ⟨r, hr⟩ := ih.1 (by omega)
        exact ⟨r, by rw [List.take_succ_cons, List.cons_append, ← hr]⟩
      · rintro ⟨r, hr⟩
        rw [List.take_succ_cons, List.cons_append] at hr
        injection hr with _ hr
        have := ih.2 ⟨r, hr⟩
        omega
    · rw [if_neg e]
      constructor
      · intro h1; omega
      · rintro ⟨r, hr⟩
        rw [List.take_succ_cons, List.cons_append] at hr
        injection hr with hr _
        exact absurd hr.symm e
theorem comm_le : ∀ l b : List ByteArray, comm l b ≤ l.length
  | [], b => by simp [comm]
  | a :: x, [] => by simp [comm]
  | a :: x, c :: y => by
    unfold comm
    have := comm_le x y
    split
    · rw [List.length_cons]; omega
    · omega
noncomputable def had (l : List ByteArray) (seen : List (List ByteArray)) : Nat := seen.foldl (fun h b => max h (comm l b)) 0
theorem had_fold (l : List ByteArray) : ∀ (seen : List (List ByteArray)) (h j : Nat), j ≤ seen.foldl (fun h b => max h (comm l b)) h ↔ j ≤ h ∨ ∃ b ∈ seen, j ≤ comm l b
  | [], h, j => by simp
  | c :: seen, h, j => by
    rw [List.foldl_cons, had_fold l seen]
    constructor
    · rintro (h1 | ⟨b, hb, h1⟩)
      · rcases Nat.le_total h (comm l c) with h2 | h2
        · rw [Nat.max_eq_right h2] at h1; exact .inr ⟨c, List.mem_cons_self .., h1⟩
        · rw [Nat.max_eq_left h2] at h1; exact .inl h1
      · exact .inr ⟨b, List.mem_cons_of_mem _ hb, h1⟩
    · rintro (h1 | ⟨b, hb, h1⟩)
      · exact .inl (Nat.le_trans h1 (Nat.le_max_left ..))
      · rcases List.mem_cons.1 hb with rfl | hb
        · exact .inl (Nat.le_trans h1 (Nat.le_max_right ..))
        · exact .inr ⟨b, hb, h1⟩
theorem had_le (l : List ByteArray) (seen : List (List ByteArray)) : had l seen ≤ l.length := by
  rcases (had_fold l seen 0 (had l seen)).1 (Nat.le_refl _) with h | ⟨b, hb, h⟩
  · omega
  · exact Nat.le_trans h (comm_le l b)
/-- the beginnings of lists -/
def begsL (seen : List (List ByteArray)) (p : List ByteArray) : Prop := p ≠ [] ∧ ∃ b ∈ seen, ∃ r, b = p ++ r
noncomputable def countL : List (List ByteArray) → List (List ByteArray) → Nat
  | _, [] => 0
  | seen, l :: L => (l.length - had l seen) + countL (seen ++ [l]) L
theorem count_begs : ∀ (L seen B : List (List ByteArray)), B.Nodup → (∀ p, p ∈ B ↔ begsL seen p) → ∃ B' : List (List ByteArray), B'.Nodup ∧ (∀ p, p ∈ B' ↔ begsL (seen ++ L) p) ∧ B'.length = B.length + countL seen L
  | [], seen, B, h1, h2 => ⟨B, h1, by simpa using h2, by simp [countL]⟩
  | l :: L, seen, B, h1, h2 => by
    have hle := had_le l seen
    have hmem : ∀ p, p ∈ B ++ (List.range (l.length - had l seen)).map (fun i => l.take (had l seen + i + 1)) ↔ begsL (seen ++ [l]) p := by
      intro p
      rw [List.mem_append, h2, List.mem_map]
      constructor
      · rintro (⟨h3, b, hb, h4⟩ | ⟨i, hi, rfl⟩)
        · exact ⟨h3, b, List.mem_append_left _ hb, h4⟩
        · rw [List.mem_range] at hi
          refine ⟨fun e => ?_, l, List.mem_append_right _ (List.mem_singleton.2 rfl), _, (List.take_append_drop _ _).symm⟩
          have := congrArg List.length e
          rw [List.length_take, List.length_nil] at this
          omega
      · rintro ⟨h3, b, hb, r, h4⟩
        rcases List.mem_append.1 hb with hb | hb
        · exact .inl ⟨h3, b, hb, r, h4⟩
        · rw [List.mem_singleton] at hb
          subst hb
          have hp := List.length_pos_iff.2 h3
          have hpl : p.length ≤ b.length := by rw [h4, List.length_append]; omega
          have htk : b.take p.length = p := by rw [h4, List.take_left]
          by_cases hh : p.length ≤ had b seen
          · rcases (had_fold b seen 0 p.length).1 hh with h5 | ⟨c, hc, h5⟩
            · omega
            · obtain ⟨s, hs⟩ := (comm_iff b c p.length hpl).1 h5
              exact .inl ⟨h3, c, hc, s, by rw [hs, htk]⟩
          · refine .inr ⟨p.length - had b seen - 1, List.mem_range.2 (by omega), ?_⟩
            rw [show had b seen + (p.length - had b seen - 1) + 1 = p.length by omega, htk]
    have hnd : (B ++ (List.range (l.length - had l seen)).map (fun i => l.take (had l seen + i + 1))).Nodup := by
      refine List.nodup_append.2 ⟨h1, ?_, fun a ha c hc e => ?_⟩
      · refine List.pairwise_map.2 ((List.nodup_range).imp_of_mem fun {i j} hi hj hne e => hne ?_)
        rw [List.mem_range] at hi hj
        have := congrArg List.length e
        rw [List.length_take, List.length_take] at this
        omega
      · subst e
        obtain ⟨i, hi, e⟩ := List.mem_map.1 hc
        rw [List.mem_range] at hi
        obtain ⟨-, b, hb, r, h4⟩ := (h2 a).1 ha
        have h5 : had l seen + i + 1 ≤ had l seen := (had_fold l seen 0 _).2 (.inr ⟨b, hb, (comm_iff l b _ (by omega)).2 ⟨r, by rw [e]; exact h4⟩⟩)
        omega
    obtain ⟨B', h3, h4, h5⟩ := count_begs L (seen ++ [l]) _ hnd hmem
    refine ⟨B', h3, fun p => by rw [h4]; simp, ?_⟩
    rw [h5, List.length_append, List.length_map, List.length_range]
    show _ = B.length + ((l.length - had l seen) + countL (seen ++ [l]) L)
    omega
end Go.Proofs.YtflomcbclofbaaaDoor
