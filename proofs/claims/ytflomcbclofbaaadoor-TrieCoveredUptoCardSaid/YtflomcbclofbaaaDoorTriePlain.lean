/- TRIE: rising lists. -/
import Derived.Test.YtflomcbclofbaaaDoorProg
namespace Go.Proofs.YtflomcbclofbaaaDoor
open Go

/-- a strict order that compares any two -/
structure Ord3 {α : Type} (lt : α → α → Prop) : Prop where
  tr : ∀ a b c, lt a b → lt b c → lt a c
  ir : ∀ a, ¬ lt a a
  tot : ∀ a b, lt a b ∨ a = b ∨ lt b a
theorem ord_int : Ord3 (fun a b : Int => a < b) := ⟨fun _ _ _ => Int.lt_trans, fun a => Int.lt_irrefl a, fun a b => by omega⟩
section
variable {α : Type} {lt : α → α → Prop} [DecidableRel lt]
/-- how many stand ahead of x -/
def cntL (lt : α → α → Prop) [DecidableRel lt] (l : List α) (x : α) : Nat := l.countP fun y => decide (lt y x)
def insL (lt : α → α → Prop) [DecidableRel lt] (l : List α) (x : α) : List α := l.take (cntL lt l x) ++ x :: l.drop (cntL lt l x)
def delL (lt : α → α → Prop) [DecidableRel lt] (l : List α) (x : α) : List α := l.take (cntL lt l x) ++ l.drop (cntL lt l x + 1)
theorem cntL_le (l : List α) (x : α) : cntL lt l x ≤ l.length := List.countP_le_length
theorem cntL_zero (O : Ord3 lt) {z x : α} {l : List α} (hs : (z :: l).Pairwise lt) (h : ¬ lt z x) : cntL lt (z :: l) x = 0 := by
  rw [List.pairwise_cons] at hs
  unfold cntL
  rw [List.countP_eq_zero]
  intro y hy hd
  have hd' : lt y x := of_decide_eq_true hd
  rcases List.mem_cons.1 hy with rfl | hy
  · exact h hd'
  · exact h (O.tr _ _ _ (hs.1 y hy) hd')
theorem cntL_succ {z x : α} {l : List α} (h : lt z x) : cntL lt (z :: l) x = cntL lt l x + 1 := by
  unfold cntL
  rw [List.countP_cons_of_pos (by simpa using h)]
theorem insL_mem (l : List α) (x y : α) : y ∈ insL lt l x ↔ y = x ∨ y ∈ l := by
  unfold insL
  rw [List.mem_append, List.mem_cons]
  have h := congrArg (fun z => y ∈ z) (List.take_append_drop (cntL lt l x) l)
  simp only [List.mem_append] at h
  rw [← h]
  constructor
  · rintro (h | h | h)
    · exact .inr (.inl h)
    · exact .inl h
    · exact .inr (.inr h)
  · rintro (h | h | h)
    · exact .inr (.inl h)
    · exact .inl h
    · exact .inr (.inr h)
theorem insL_len (l : List α) (x : α) : (insL lt l x).length = l.length + 1 := by
  unfold insL
  have := cntL_le (lt := lt) l x
  rw [List.length_append, List.length_cons, List.length_take, List.length_drop]
  omega
theorem insL_sorted (O : Ord3 lt) {x : α} : ∀ {l : List α}, l.Pairwise lt → x ∉ l → (insL lt l x).Pairwise lt
  | [], _, _ => by simp [insL, cntL]
  | z :: l, hs, hx => by
    by_cases h : lt z x
    · have e : insL lt (z :: l) x = z :: insL lt l x := by unfold insL; rw [cntL_succ h]; rfl
      have hs' := List.pairwise_cons.1 hs
      rw [e, List.pairwise_cons]
      refine ⟨fun y hy => ?_, insL_sorted O hs'.2 (fun hm => hx (List.mem_cons_of_mem _ hm))⟩
      rcases (insL_mem l x y).1 hy with rfl | hy
      · exact h
      · exact hs'.1 y hy
    · have e : insL lt (z :: l) x = x :: z :: l := by unfold insL; rw [cntL_zero O hs h]; rfl
      rw [e, List.pairwise_cons]
      refine ⟨fun y hy => ?_, hs⟩
      have hzx : lt x z := by
        rcases O.tot z x with h1 | h1 | h1
        · exact absurd h1 h
        · exact absurd (h1 ▸ List.mem_cons_self ..) hx
        · exact h1
      rcases List.mem_cons.1 hy with rfl | hy
      · exact hzx
      · exact O.tr _ _ _ hzx ((List.pairwise_cons.1 hs).1 y hy)
theorem delL_spec (O : Ord3 lt) {x : α} : ∀ {l : List α}, l.Pairwise lt → x ∈ l → l[cntL lt l x]? = some x ∧ (delL lt l x).Pairwise lt ∧ (∀ y, y ∈ delL lt l x ↔ y ∈ l ∧ y ≠ x) ∧ (delL lt l x).length + 1 = l.length
  | [], _, hx => by cases hx
  | z :: l, hs, hx => by
    have hs' := List.pairwise_cons.1 hs
    by_cases h : lt z x
    · have e : delL lt (z :: l) x = z :: delL lt l x := by unfold delL; rw [cntL_succ h]; rfl
      have hzx : z ≠ x := fun e => O.ir x (e ▸ h)
      have hxl : x ∈ l := by rcases List.mem_cons.1 hx with rfl | h1; exact absurd rfl hzx; exact h1
      obtain ⟨h1, h2, h3, h4⟩ := delL_spec O hs'.2 hxl
      refine ⟨by rw [cntL_succ h]; exact h1, ?_, fun y => ?_, by rw [e, List.length_cons, List.length_cons, h4]⟩
      · rw [e, List.pairwise_cons]
        exact ⟨fun y hy => hs'.1 y ((h3 y).1 hy).1, h2⟩
      · rw [e, List.mem_cons, List.mem_cons, h3 y]
        constructor
        · rintro (rfl | ⟨h5, h6⟩)
          · exact ⟨.inl rfl, hzx⟩
          · exact ⟨.inr h5, h6⟩
        · rintro ⟨rfl | h5, h6⟩
          · exact .inl rfl
          · exact .inr ⟨h5, h6⟩
    · have hz : z = x := by
        rcases List.mem_cons.1 hx with rfl | h1
        · rfl
        · exact absurd (hs'.1 x h1) h
      subst hz
      have e : delL lt (z :: l) z = l := by unfold delL; rw [cntL_zero O hs h]; rfl
      refine ⟨by rw [cntL_zero O hs h]; rfl, by rw [e]; exact hs'.2, fun y => ?_, by rw [e]; rfl⟩
      rw [e, List.mem_cons]
      constructor
      · intro hy
        exact ⟨.inr hy, fun e2 => O.ir z (by have := hs'.1 y hy; rw [e2] at this; exact this)⟩
      · rintro ⟨rfl | h5, h6⟩
        · exact absurd rfl h6
        · exact h5
omit [DecidableRel lt] in
theorem sorted_ext (O : Ord3 lt) : ∀ {l m : List α}, l.Pairwise lt → m.Pairwise lt → (∀ y, y ∈ l ↔ y ∈ m) → l = m
  | [], [], _, _, _ => rfl
  | [], y :: m, _, _, h => by have := (h y).2 (List.mem_cons_self ..); cases this
  | x :: l, [], _, _, h => by have := (h x).1 (List.mem_cons_self ..); cases this
  | x :: l, y :: m, hl, hm, h => by
    have hl' := List.pairwise_cons.1 hl
    have hm' := List.pairwise_cons.1 hm
    have e : x = y := by
      rcases List.mem_cons.1 ((h x).1 (List.mem_cons_self ..)) with h1 | h1
      · exact h1
      · rcases List.mem_cons.1 ((h y).2 (List.mem_cons_self ..)) with h2 | h2
        · exact h2.symm
        · exact absurd (O.tr _ _ _ (hl'.1 y h2) (hm'.1 x h1)) (O.ir x)
    subst e
    congr 1
    refine sorted_ext O hl'.2 hm'.2 fun z => ?_
    have hz := h z
    rw [List.mem_cons, List.mem_cons] at hz
    constructor
    · intro h1
      rcases hz.1 (.inr h1) with rfl | h2
      · exact absurd (hl'.1 z h1) (O.ir z)
      · exact h2
    · intro h1
      rcases hz.2 (.inr h1) with rfl | h2
      · exact absurd (hm'.1 z h1) (O.ir z)
      · exact h2
omit [DecidableRel lt] in
theorem sorted_nodup (O : Ord3 lt) {l : List α} (h : l.Pairwise lt) : l.Nodup := by
  refine List.Pairwise.imp ?_ h
  intro a b hab e
  subst e
  exact O.ir a hab
/-- once into a rising list -/
def putL (lt : α → α → Prop) [DecidableRel lt] [DecidableEq α] (l : List α) (x : α) : List α := if x ∈ l then l else insL lt l x
theorem putL_mem [DecidableEq α] (l : List α) (x y : α) : y ∈ putL lt l x ↔ y = x ∨ y ∈ l := by
  unfold putL
  split
  · rename_i h
    constructor
    · exact .inr
    · rintro (rfl | h1)
      · exact h
      · exact h1
  · exact insL_mem l x y
theorem putL_sorted [DecidableEq α] (O : Ord3 lt) {l : List α} (h : l.Pairwise lt) (x : α) : (putL lt l x).Pairwise lt := by
  unfold putL
  split
  · exact h
  · rename_i hx
    exact insL_sorted O h hx
theorem putL_len [DecidableEq α] (l : List α) (x : α) : (putL lt l x).length ≤ l.length + 1 := by
  unfold putL
  split
  · omega
  · rw [insL_len]; omega
/-- what stands at the place where x would stand -/
theorem cntL_get (O : Ord3 lt) {x : α} : ∀ {l : List α}, l.Pairwise lt → (x ∈ l ↔ l[cntL lt l x]? = some x)
  | [], _ => by simp
  | z :: l, hs => by
    have hs' := List.pairwise_cons.1 hs
    by_cases h : lt z x
    · rw [cntL_succ h, List.getElem?_cons_succ, ← cntL_get O hs'.2, List.mem_cons]
      constructor
      · rintro (rfl | h1)
        · exact absurd h (O.ir _)
        · exact h1
      · exact .inr
    · rw [cntL_zero O hs h, List.getElem?_cons_zero, List.mem_cons]
      constructor
      · rintro (rfl | h1)
        · rfl
        · exact absurd (hs'.1 x h1) h
      · intro h1
        injection h1 with h1
        exact .inl h1.symm
theorem cntL_before (O : Ord3 lt) {x : α} : ∀ {l : List α}, l.Pairwise lt → ∀ {j : Nat} {y : α}, l[j]? = some y → (lt y x ↔ j < cntL lt l x)
  | [], _, j, y, h => by simp at h
  | z :: l, hs, j, y, h => by
    have hs' := List.pairwise_cons.1 hs
    by_cases hz : lt z x
    · rw [cntL_succ hz]
      cases j with
      | zero => simp at h; subst h; simp [hz]
      | succ j =>
        rw [List.getElem?_cons_succ] at h
        rw [cntL_before O hs'.2 h]
        omega
    · rw [cntL_zero O hs hz]
      constructor
      · intro h1
        cases j with
        | zero => simp at h; subst h; exact absurd h1 hz
        | succ j =>
          rw [List.getElem?_cons_succ] at h
          exact absurd (O.tr _ _ _ (hs'.1 y (List.mem_of_getElem? h)) h1) hz
      · intro h1; omega
end
end Go.Proofs.YtflomcbclofbaaaDoor
