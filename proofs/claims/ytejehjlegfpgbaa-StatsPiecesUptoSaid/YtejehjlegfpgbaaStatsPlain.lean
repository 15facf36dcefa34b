/- STATS: the plain law: what the reference counts is what the program counts; waits that are set in their place are the sorted waits. -/
import Derived.Test.YtejehjlegfpgbaaStatsBase
namespace Go.Proofs.Ytejehjlegfpgbaa
open Go Go.RowKit Go.Maps

/-- when a message was published last -/
def pubF (l : List Ev) (id : Int) : Option Int := l.foldl (fun o e => if e.k = 1 ∧ e.i = id then some e.a else o) none
theorem pubF_snoc (l : List Ev) (k : Nat) (e : Ev) (h : l[k]? = some e) (id : Int) : pubF (l.take (k + 1)) id = if e.k = 1 ∧ e.i = id then some e.a else pubF (l.take k) id := by
  unfold pubF; rw [List.take_add_one, h]; simp [List.foldl_append]
theorem stepS_f (n : Nat) (s : St) (e : Ev) (id : Int) : (stepS n s e).f id = if e.k = 1 ∧ e.i = id then some e.a else s.f id := by
  unfold stepS
  by_cases h1 : e.k = 1
  · rw [if_pos h1]; show put s.f e.i e.a id = _
    unfold put
    by_cases h2 : e.i = id
    · rw [if_pos h2.symm, if_pos ⟨h1, h2⟩]
    · rw [if_neg (fun h => h2 h.symm), if_neg (fun h => h2 h.2)]
  · rw [if_neg h1, if_neg (fun h : e.k = 1 ∧ e.i = id => h1 h.1)]
    by_cases h7 : e.k = 7
    · rw [if_pos h7]; unfold doneS
      split
      · split <;> rfl
      · rfl
    · rw [if_neg h7]
      cases kindF e.k with
      | none => rfl
      | some j => dsimp only; split <;> rfl
theorem readS_f (n : Nat) (l : List Ev) (id : Int) : (readS n l).f id = pubF l id := by
  have H : ∀ (l : List Ev) (s : St) (o : Option Int), s.f id = o → (l.foldl (stepS n) s).f id = l.foldl (fun o e => if e.k = 1 ∧ e.i = id then some e.a else o) o := by
    intro l
    induction l with
    | nil => intro s o h; exact h
    | cons e l ih =>
      intro s o h
      refine ih _ _ ?_
      rw [stepS_f, h]
  exact H l startS none rfl
/-- how long the k-th event was waited for -/
def waitR (l : List Ev) (k : Nat) (e : Ev) : Option Int := (pubF (l.take k) e.i).map fun t => max (e.a - t) 0
/-- what an event adds -/
def oneC (e : Ev) (wt : Option Int) (j : Nat) : Int :=
  if j < 4 then if e.k = (j : Int) + 3 then 1 else 0
  else if e.k = 7 then
    if j = 4 then 1 else if j = 5 then if e.er = 0 then 1 else 0 else if j = 6 then if e.er = 110 then 1 else 0 else wt.getD 0
  else 0
def addJ (j : Nat) (x y : Int) : Int := if j = 8 then max x y else wrap64 (x + y)
def refC (n : Nat) (c : Nat → Int) (e : Ev) (wt : Option Int) : Nat → Int :=
  if InR n e.h then fun i => if e.h.toNat * 9 ≤ i ∧ i < e.h.toNat * 9 + 9 then addJ (i - e.h.toNat * 9) (c i) (oneC e wt (i - e.h.toNat * 9)) else c i
  else c
def OkC (c : Nat → Int) : Prop := (∀ i, Wf (c i)) ∧ ∀ i, i % 9 = 8 → 0 ≤ c i
theorem wrap_wf (z : Int) : Wf (wrap64 z) := by unfold Wf wrap64; omega
theorem addJ_ok {j : Nat} {x y : Int} (hx : Wf x) (hy : Wf y) (h : j = 8 → 0 ≤ x) : Wf (addJ j x y) ∧ (j = 8 → 0 ≤ addJ j x y) := by
  unfold addJ
  by_cases h8 : j = 8
  · rw [if_pos h8]; have := h h8; unfold Wf at *; omega
  · rw [if_neg h8]; exact ⟨wrap_wf _, fun h => absurd h h8⟩
theorem oneC_wf {e : Ev} {wt : Option Int} (hw : ∀ w, wt = some w → Wf w) (j : Nat) : Wf (oneC e wt j) := by
  have h1 : Wf 1 := by unfold Wf; omega
  have h0 : Wf 0 := by unfold Wf; omega
  unfold oneC
  cases wt with
  | none => dsimp only [Option.getD]; repeat' split
            all_goals assumption
  | some w => have := hw w rfl; dsimp only [Option.getD]; repeat' split
              all_goals assumption
theorem refC_ok {n : Nat} {c : Nat → Int} {e : Ev} {wt : Option Int} (h : OkC c) (hw : ∀ w, wt = some w → Wf w) : OkC (refC n c e wt) := by
  unfold refC
  split
  case isFalse => exact h
  refine ⟨fun i => ?_, fun i hi => ?_⟩
  · dsimp only
    split
    case isFalse => exact h.1 i
    exact (addJ_ok (h.1 i) (oneC_wf hw _) (fun h8 => h.2 i (by omega))).1
  · dsimp only
    split
    case isFalse => exact h.2 i hi
    case isTrue h9 => exact (addJ_ok (h.1 i) (oneC_wf hw _) (fun h8 => h.2 i (by omega))).2 (by omega)
theorem wrap_of {z : Int} (h : Wf z) : wrap64 z = z := by unfold Wf at h; unfold wrap64; omega
/-- one event counted by the reference is one event counted by the program -/
theorem refC_step {n : Nat} {s : St} {e : Ev} (h : OkC s.c) : refC n s.c e ((s.f e.i).map fun t => max (e.a - t) 0) = (stepS n s e).c := by
  have hz : ∀ i, wrap64 (s.c i + 0) = s.c i := fun i => by rw [Int.add_zero]; exact wrap_of (h.1 i)
  have h8 : ∀ b, max (s.c (b * 9 + 8)) 0 = s.c (b * 9 + 8) := fun b => by have := h.2 (b * 9 + 8) (by omega); omega
  unfold refC stepS
  by_cases hr : InR n e.h
  · rw [if_pos hr]
    funext i
    generalize hb : e.h.toNat = b
    by_cases hi : b * 9 ≤ i ∧ i < b * 9 + 9
    · rw [if_pos hi]
      obtain ⟨j, hj, rfl⟩ : ∃ j, j < 9 ∧ i = b * 9 + j := ⟨i - b * 9, by omega, by omega⟩
      rw [show b * 9 + j - b * 9 = j by omega]
      by_cases h1 : e.k = 1
      · rw [if_pos h1]
        have : oneC e ((s.f e.i).map fun t => max (e.a - t) 0) j = 0 := by
          unfold oneC
          rw [if_neg (by omega : ¬ e.k = 7), if_neg (by omega : ¬ e.k = (j : Int) + 3)]
          split <;> rfl
        rw [this]; unfold addJ; split
        case isTrue h9 => subst h9; exact h8 b
        case isFalse => exact hz _
      rw [if_neg h1]
      by_cases h7 : e.k = 7
      · rw [if_pos h7]
        unfold doneS
        rw [if_pos hr, hb]
        have ho : ∀ wt, oneC e wt j = if j < 4 then 0 else if j = 4 then 1 else if j = 5 then if e.er = 0 then 1 else 0 else if j = 6 then if e.er = 110 then 1 else 0 else wt.getD 0 := by
          intro wt; unfold oneC; rw [if_pos h7]
          by_cases h4 : j < 4
          · rw [if_pos h4, if_pos h4, if_neg (by omega)]
          · rw [if_neg h4, if_neg h4]
        rw [ho]
        have hd : doneC s.c (b * 9) e.er (b * 9 + j) = if j = 4 then wrap64 (s.c (b * 9 + 4) + 1) else if j = 5 ∧ e.er = 0 then wrap64 (s.c (b * 9 + 5) + 1) else if j = 6 ∧ e.er = 110 then wrap64 (s.c (b * 9 + 6) + 1) else s.c (b * 9 + j) := by
          unfold doneC inc upd
          by_cases e0 : e.er = 0
          · have e1 : ¬ e.er = 110 := by omega
            simp only [e0]
            have hj' : j = 0 ∨ j = 1 ∨ j = 2 ∨ j = 3 ∨ j = 4 ∨ j = 5 ∨ j = 6 ∨ j = 7 ∨ j = 8 := by omega
            rcases hj' with rfl | rfl | rfl | rfl | rfl | rfl | rfl | rfl | rfl <;> simp
          · by_cases e1 : e.er = 110
            · simp only [e1]
              have hj' : j = 0 ∨ j = 1 ∨ j = 2 ∨ j = 3 ∨ j = 4 ∨ j = 5 ∨ j = 6 ∨ j = 7 ∨ j = 8 := by omega
              rcases hj' with rfl | rfl | rfl | rfl | rfl | rfl | rfl | rfl | rfl <;> simp
            · simp only [if_neg e0, if_neg e1]
              have hj' : j = 0 ∨ j = 1 ∨ j = 2 ∨ j = 3 ∨ j = 4 ∨ j = 5 ∨ j = 6 ∨ j = 7 ∨ j = 8 := by omega
              rcases hj' with rfl | rfl | rfl | rfl | rfl | rfl | rfl | rfl | rfl <;> simp [e0, e1]
        have hj' : j = 0 ∨ j = 1 ∨ j = 2 ∨ j = 3 ∨ j = 4 ∨ j = 5 ∨ j = 6 ∨ j = 7 ∨ j = 8 := by omega
        have z7 := hz (b * 9 + 7)
        have z8 := h8 b
        cases s.f e.i with
        | none =>
          show _ = doneC s.c (b * 9) e.er (b * 9 + j)
          rw [hd]
          rcases hj' with rfl | rfl | rfl | rfl | rfl | rfl | rfl | rfl | rfl <;> simp [addJ, wrap_of (h.1 _)]
          · split <;> simp [wrap_of (h.1 _)]
          · split <;> simp [wrap_of (h.1 _)]
          · omega
        | some t =>
          show _ = waitC (doneC s.c (b * 9) e.er) (b * 9) (max (e.a - t) 0) (b * 9 + j)
          rw [Option.map_some]
          generalize max (e.a - t) 0 = wv
          unfold waitC inc upd
          rcases hj' with rfl | rfl | rfl | rfl | rfl | rfl | rfl | rfl | rfl <;> simp at hd <;> simp [addJ, hd, wrap_of (h.1 _)]
          · split <;> simp [wrap_of (h.1 _)]
          · split <;> simp [wrap_of (h.1 _)]
      · rw [if_neg h7]
        have ho : ∀ wt, oneC e wt j = if j < 4 then if e.k = (j : Int) + 3 then 1 else 0 else 0 := by
          intro wt; unfold oneC; rw [if_neg h7]
        rw [ho]
        have hk : kindF e.k = if e.k = 3 then some 0 else if e.k = 4 then some 1 else if e.k = 5 then some 2 else if e.k = 6 then some 3 else none := rfl
        by_cases hk3 : e.k = 3 ∨ e.k = 4 ∨ e.k = 5 ∨ e.k = 6
        · obtain ⟨q, hq4, hq⟩ : ∃ q : Nat, q < 4 ∧ e.k = (q : Int) + 3 := by
            rcases hk3 with h | h | h | h
            · exact ⟨0, by omega, h⟩
            · exact ⟨1, by omega, h⟩
            · exact ⟨2, by omega, h⟩
            · exact ⟨3, by omega, h⟩
          have hkq : kindF e.k = some q := by
            rw [hk, hq]
            have : q = 0 ∨ q = 1 ∨ q = 2 ∨ q = 3 := by omega
            rcases this with rfl | rfl | rfl | rfl <;> rfl
          rw [hkq]; dsimp only; rw [if_pos hr]; dsimp only
          unfold inc
          by_cases hjq : j = q
          · subst hjq
            rw [upd_same, if_pos hq4, if_pos hq]; unfold addJ; rw [if_neg (by omega)]
          · rw [upd_other _ _ (by omega)]
            have : (if j < 4 then if e.k = (j : Int) + 3 then (1 : Int) else 0 else 0) = 0 := by
              split
              · rw [if_neg (by omega)]
              · rfl
            rw [this]; unfold addJ; split
            case isTrue h9 => subst h9; exact h8 b
            case isFalse => exact hz _
        · have hkn : kindF e.k = none := by
            rw [hk, if_neg (by omega), if_neg (by omega), if_neg (by omega), if_neg (by omega)]
          rw [hkn]; dsimp only
          have : (if j < 4 then if e.k = (j : Int) + 3 then (1 : Int) else 0 else 0) = 0 := by
            split
            · rw [if_neg (by omega)]
            · rfl
          rw [this]; unfold addJ; split
          case isTrue h9 => subst h9; exact h8 b
          case isFalse => exact hz _
    · rw [if_neg hi]
      by_cases h1 : e.k = 1
      · rw [if_pos h1]
      rw [if_neg h1]
      have hne : ∀ j, j < 9 → i ≠ b * 9 + j := fun j hj => by omega
      by_cases h7 : e.k = 7
      · rw [if_pos h7]
        unfold doneS
        rw [if_pos hr, hb]
        have n4 := hne 4 (by omega)
        have n5 := hne 5 (by omega)
        have n6 := hne 6 (by omega)
        have n7 := hne 7 (by omega)
        have n8 := hne 8 (by omega)
        have hd : doneC s.c (b * 9) e.er i = s.c i := by
          unfold doneC inc upd; repeat' split
          all_goals first | contradiction | simp [*]
        cases s.f e.i with
        | none => exact hd.symm
        | some t =>
          show _ = waitC (doneC s.c (b * 9) e.er) (b * 9) (max (e.a - t) 0) i
          unfold waitC inc
          rw [upd_other _ _ n8, upd_other _ _ n7, hd]
      · rw [if_neg h7]
        cases hk : kindF e.k with
        | none => rfl
        | some q =>
          dsimp only; rw [if_pos hr]; dsimp only; unfold inc
          have hq : q < 4 := by
            unfold kindF at hk
            repeat' split at hk
            all_goals first | (injection hk with hk; omega) | cases hk
          rw [upd_other _ _ (hne q (by omega))]
  · rw [if_neg hr]
    by_cases h1 : e.k = 1
    · rw [if_pos h1]
    rw [if_neg h1]
    by_cases h7 : e.k = 7
    · rw [if_pos h7]; unfold doneS; rw [if_neg hr]
    · rw [if_neg h7]
      cases kindF e.k with
      | none => rfl
      | some q => dsimp only; rw [if_neg hr]

/-- what the reference has counted of the first k events -/
def refCs (n : Nat) (l : List Ev) : Nat → Nat → Int
  | 0 => fun _ => 0
  | k + 1 => match l[k]? with
    | none => refCs n l k
    | some e => refC n (refCs n l k) e (waitR l k e)
def FitL (l : List Ev) : Prop := ∀ e ∈ l, FitE e
theorem pub_fit {l : List Ev} (h : FitL l) {id t : Int} (hp : pubF l id = some t) : 0 ≤ t ∧ t ≤ 1099511627776 := by
  have H : ∀ (l : List Ev) (o : Option Int), (∀ e ∈ l, FitE e) → (∀ t, o = some t → 0 ≤ t ∧ t ≤ 1099511627776) → ∀ t, l.foldl (fun o e => if e.k = 1 ∧ e.i = id then some e.a else o) o = some t → 0 ≤ t ∧ t ≤ 1099511627776 := by
    intro l
    induction l with
    | nil => intro o _ ho t ht; exact ho t ht
    | cons e l ih =>
      intro o hl ho t ht
      refine ih _ (fun x hx => hl x (by simp [hx])) ?_ t ht
      intro t ht
      dsimp only at ht
      split at ht
      · injection ht with ht; subst ht; exact hl e (by simp)
      · exact ho t ht
  exact H l none h (fun t ht => by cases ht) t hp
theorem fit_take {l : List Ev} (h : FitL l) (k : Nat) : FitL (l.take k) := fun e he => h e (List.mem_of_mem_take he)
theorem waitR_wf {l : List Ev} (h : FitL l) {k : Nat} {e : Ev} (he : FitE e) : ∀ w, waitR l k e = some w → Wf w ∧ 0 ≤ w ∧ w ≤ 1099511627776 := by
  intro w hw
  unfold waitR at hw
  cases hp : pubF (l.take k) e.i with
  | none => rw [hp] at hw; cases hw
  | some t =>
    rw [hp] at hw
    have h1 := pub_fit (fit_take h k) hp
    injection hw with hw
    have hw : max (e.a - t) 0 = w := hw
    unfold FitE at he; unfold Wf; omega
theorem refCs_eq {n : Nat} {l : List Ev} (h : FitL l) : ∀ k, k ≤ l.length → OkC (refCs n l k) ∧ refCs n l k = (readS n (l.take k)).c := by
  intro k
  induction k with
  | zero => intro _; exact ⟨⟨fun _ => by show Wf 0; unfold Wf; omega, fun _ _ => Int.le_refl 0⟩, rfl⟩
  | succ k ih =>
    intro hk
    obtain ⟨h1, h2⟩ := ih (by omega)
    have he : l[k]? = some l[k] := List.getElem?_eq_getElem (by omega)
    have hw := waitR_wf h (k := k) (h l[k] (List.getElem_mem (by omega)))
    have e1 : refCs n l (k + 1) = refC n (refCs n l k) l[k] (waitR l k l[k]) := by
      show (match l[k]? with | none => _ | some e => _) = _
      rw [he]
    rw [e1]
    refine ⟨refC_ok h1 fun w h => (hw w h).1, ?_⟩
    rw [readS_snoc n l k _ he, h2]
    have e2 : waitR l k l[k] = ((readS n (l.take k)).f l[k].i).map fun t => max (l[k].a - t) 0 := by unfold waitR; rw [readS_f]
    rw [e2]
    exact refC_step (h2 ▸ h1)

/-- a wait set among others that rise -/
def insW (w : Int) (l : List Int) : List Int := l.takeWhile (fun x => decide (x ≤ w)) ++ w :: l.dropWhile (fun x => decide (x ≤ w))
def Up (l : List Int) : Prop := l.Pairwise fun x y => decide (x ≤ y) = true
theorem insW_perm (w : Int) (l : List Int) : (insW w l).Perm (l ++ [w]) := by
  unfold insW
  have h1 := List.takeWhile_append_dropWhile (p := fun x => decide (x ≤ w)) (l := l)
  have h2 : (l.takeWhile (fun x => decide (x ≤ w)) ++ w :: l.dropWhile (fun x => decide (x ≤ w))).Perm (w :: (l.takeWhile (fun x => decide (x ≤ w)) ++ l.dropWhile (fun x => decide (x ≤ w)))) := List.perm_middle
  rw [h1] at h2
  exact h2.trans (List.perm_append_comm (l₁ := [w]) (l₂ := l))
theorem insW_up (w : Int) : ∀ l : List Int, Up l → Up (insW w l) := by
  intro l
  induction l with
  | nil => intro _; exact List.pairwise_singleton _ _
  | cons a l ih =>
    intro h
    have h' := List.pairwise_cons.1 h
    unfold insW
    by_cases ha : a ≤ w
    · rw [List.takeWhile_cons, List.dropWhile_cons]
      simp only [ha, decide_true, if_true, List.cons_append]
      refine List.pairwise_cons.2 ⟨fun x hx => ?_, ih h'.2⟩
      have hx' : x ∈ insW w l := hx
      have := (insW_perm w l).mem_iff.1 hx'
      rcases List.mem_append.1 this with h2 | h2
      · exact h'.1 x h2
      · rw [List.mem_singleton] at h2; subst h2; exact decide_eq_true ha
    · rw [List.takeWhile_cons, List.dropWhile_cons]
      simp only [ha, decide_false]
      refine List.pairwise_cons.2 ⟨fun x hx => ?_, h⟩
      have hwa : w ≤ a := by omega
      rcases List.mem_cons.1 hx with h2 | h2
      · subst h2; exact decide_eq_true hwa
      · have := of_decide_eq_true (h'.1 x h2); exact decide_eq_true (by omega)
def srt (l : List Int) : List Int := l.mergeSort fun x y => decide (x ≤ y)
theorem srt_up (l : List Int) : Up (srt l) := List.pairwise_mergeSort (fun a b c h1 h2 => by simp only [decide_eq_true_eq] at *; omega) (fun a b => by simp only [Bool.or_eq_true, decide_eq_true_eq]; omega) l
theorem srt_of {l l' : List Int} (h : Up l') (hp : l'.Perm l) : srt l = l' :=
  List.Perm.eq_of_pairwise (fun a b _ _ h1 h2 => by simp only [decide_eq_true_eq] at h1 h2; omega) (srt_up l) h ((List.mergeSort_perm l _).trans hp.symm)
end Go.Proofs.Ytejehjlegfpgbaa
