/- PARSE: what is fit and how it is written, in plain Lean. PARSE: lists of parts, step by step, in plain Lean. -/
import Derived.Test.YtbdllefnghddcaaGreatDoorPMem
namespace Go.Proofs.YtbdllefnghddcaaGreatDoor
section
open Go

def parW (o i : Int) : Bool := (i == 4 && (o == 4 || o == 5 || o == 6)) || (i == 5 && (o == 5 || o == 6))
mutual
def patW : Wt → Nat → Bool
  | .mk op num l, deep => decide (deep ≤ 32) &&
    (if op = 1 then decide (num = 0) && decide (l.length = 0)
     else if op = 2 then decide (0 ≤ num) && (decide (num < 14) && decide (l.length = 0))
     else if op = 3 then decide (0 ≤ num) && (decide (num < 10) && decide (l.length = 0))
     else if op = 6 then decide (num = 0) && (decide (l.length = 1) && patL op l (deep + 1))
     else if op = 4 ∨ op = 5 then decide (num = 0) && (decide (2 ≤ l.length) && patL op l deep)
     else false)
def patL : Int → List Wt → Nat → Bool
  | _, [], _ => true
  | op, x :: xs, deep => patW x (deep + (if parW op x.op then 1 else 0)) && patL op xs deep
end
mutual
def cntW : Wt → Nat
  | .mk _ _ l => 1 + cntL l
def cntL : List Wt → Nat
  | [] => 0
  | x :: xs => cntW x + cntL xs
end
mutual
def dpW : Wt → Nat → Bool
  | .mk _ _ l, d => decide (d ≤ 68) && dpL l (d + 1)
def dpL : List Wt → Nat → Bool
  | [], _ => true
  | x :: xs, d => dpW x d && dpL xs d
end
theorem cntW_pos (t : Wt) : 1 ≤ cntW t := by obtain ⟨op, num, l⟩ := t; simp [cntW]
def slack (op : Int) : Nat := if op = 4 then 0 else if op = 5 then 1 else 2
mutual
theorem dp_of_pat : ∀ (t : Wt) (d D : Nat), patW t d = true → D ≤ 2 * d + slack t.op → dpW t D = true
  | .mk op num l, d, D, h, hD => by
    rw [patW] at h
    rw [dpW]
    simp only [Bool.and_eq_true, decide_eq_true_eq] at h ⊢
    have hD : D ≤ 2 * d + slack op := hD
    have hs : slack op ≤ 2 := by unfold slack; split <;> (try split) <;> omega
    refine ⟨by omega, ?_⟩
    obtain ⟨h32, h⟩ := h
    split at h
    · simp only [Bool.and_eq_true, decide_eq_true_eq] at h
      rw [List.eq_nil_of_length_eq_zero h.2, dpL]
    · split at h
      · simp only [Bool.and_eq_true, decide_eq_true_eq] at h
        rw [List.eq_nil_of_length_eq_zero h.2.2, dpL]
      · split at h
        · simp only [Bool.and_eq_true, decide_eq_true_eq] at h
          rw [List.eq_nil_of_length_eq_zero h.2.2, dpL]
        · split at h
          · rename_i h6
            simp only [Bool.and_eq_true, decide_eq_true_eq] at h
            refine dpL_of_pat op l (d + 1) (D + 1) h.2.2 (fun x => ?_)
            subst h6
            have : slack 6 = 2 := by decide
            unfold slack parW
            by_cases h4 : x = 4 <;> by_cases h5 : x = 5 <;> simp [h4, h5] <;> omega
          · split at h
            · rename_i h45
              simp only [Bool.and_eq_true, decide_eq_true_eq] at h
              refine dpL_of_pat op l d (D + 1) h.2.2 (fun x => ?_)
              have hs4 : slack 4 = 0 := by decide
              have hs5 : slack 5 = 1 := by decide
              rcases h45 with rfl | rfl
              · unfold slack parW
                by_cases h4 : x = 4 <;> by_cases h5 : x = 5 <;> simp [h4, h5] <;> omega
              · unfold slack parW
                by_cases h4 : x = 4 <;> by_cases h5 : x = 5 <;> simp [h4, h5] <;> omega
            · cases h
theorem dpL_of_pat : ∀ (op : Int) (l : List Wt) (d D : Nat), patL op l d = true → (∀ x : Int, D ≤ 2 * (d + (if parW op x then 1 else 0)) + slack x) → dpL l D = true
  | _, [], _, _, _, _ => by rw [dpL]
  | op, x :: xs, d, D, h, hD => by
    rw [patL, Bool.and_eq_true] at h
    rw [dpL, Bool.and_eq_true]
    exact ⟨dp_of_pat x _ D h.1 (hD x.op), dpL_of_pat op xs d D h.2 hD⟩
end
def rightB (t : Wt) : Bool := patW t 0 && decide (cntW t ≤ 16384)
theorem right_dp {t : Wt} (h : patW t 0 = true) : dpW t 0 = true := dp_of_pat t 0 0 h (Nat.zero_le _)

def markB (op : Int) : List UInt8 := if op = 4 then [32, 124, 32] else if op = 5 then [32, 38, 32] else []
mutual
def wrW : Wt → List UInt8
  | .mk op num l => if op = 1 then anyWord else if op = 2 then kindWords.getD num.toNat [] else if op = 3 then faceWords.getD num.toNat []
    else (if op = 6 then [33] else []) ++ wrL op l true
def wrL : Int → List Wt → Bool → List UInt8
  | _, [], _ => []
  | op, x :: xs, first => (if first then [] else markB op) ++ ((if parW op x.op then [40] ++ wrW x ++ [41] else wrW x) ++ wrL op xs false)
end
theorem kw_len (n : Nat) : (kindWords.getD n []).length ≤ 9 := by
  by_cases h : n < 14
  · have : ∀ i : Fin 14, (kindWords.getD i.val []).length ≤ 9 := by decide
    exact this ⟨n, h⟩
  · rw [List.getD_eq_getElem?_getD, List.getElem?_eq_none (by simpa [kindWords] using h)]; simp
theorem fw_len (n : Nat) : (faceWords.getD n []).length ≤ 9 := by
  by_cases h : n < 10
  · have : ∀ i : Fin 10, (faceWords.getD i.val []).length ≤ 9 := by decide
    exact this ⟨n, h⟩
  · rw [List.getD_eq_getElem?_getD, List.getElem?_eq_none (by simpa [faceWords] using h)]; simp
theorem markB_len (op : Int) : (markB op).length ≤ 3 := by unfold markB; split <;> (try split) <;> simp
mutual
theorem wrW_len : ∀ t : Wt, (wrW t).length ≤ 15 * cntW t - 5
  | .mk op num l => by
    rw [wrW, cntW]
    split
    · simp [anyWord]; omega
    · split
      · have := kw_len num.toNat; omega
      · split
        · have := fw_len num.toNat; omega
        · have := wrL_len op l true
          rw [List.length_append]
          split <;> simp <;> omega
theorem wrL_len : ∀ (op : Int) (l : List Wt) (b : Bool), (wrL op l b).length ≤ 15 * cntL l
  | _, [], _ => by simp [wrL]
  | op, x :: xs, b => by
    rw [wrL, cntL]
    have h1 := wrW_len x
    have h2 := wrL_len op xs false
    have h3 := markB_len op
    have h4 := cntW_pos x
    cases b <;> simp only [Bool.false_eq_true, if_false, if_true, List.length_append, List.length_nil] <;> split <;> simp <;> omega
end
def nameB (s : ByteArray) : Bool := match scanS s.data.toList with
  | .toks [t] => (t.kind == 1) && ((t.pos == 0) && (t.stop == s.data.toList.length))
  | _ => false
def namesB (us : List Us) : Bool := us.all fun u => nameB u.name
def zeroW (t : Wt) : Bool := decide (t.op = 0) && (decide (t.num = 0) && decide (t.l.length = 0))
def whenB (w : Bool) (t : Wt) : Bool := if w then rightB t else zeroW t
def coreB (c : CoreT) : Bool := nameB c.word && ((c.has || (decide (c.num = 0) && !c.minus)) && namesB c.caps)
def noCoreB (c : CoreT) : Bool := decide (c.word.size = 0) && (!c.has && (!c.minus && (decide (c.num = 0) && decide (c.caps.length = 0))))
def wrapB (w : WrapT) : Bool := nameB w.word && ((decide (w.sub.size = 0) || nameB w.sub) && (decide (w.nums.length ≤ 2) && (namesB w.caps && whenB w.when_ w.want)))
def headB (d : HandT) : Bool := nameB d.name && (namesB d.after && ((d.room || (decide (d.inbox = 0) && decide (d.drop.name.size = 0))) && (decide (d.drop.name.size = 0) || nameB d.drop.name)))
def handB (d : HandT) : Bool := headB d && ((if d.of_.name.size = 0 then coreB d.core else nameB d.of_.name && noCoreB d.core) && d.wraps.all wrapB)
def routeB (r : RouteT) : Bool := nameB r.to.name && (decide (r.filter.name.size ≤ 65535) && (!(r.when_ && r.els) && whenB r.when_ r.want))
def fitT (t : TreeT) : Bool := t.hands.all handB && t.routes.all routeB
end
section
open Go

theorem patL_all (op : Int) (d : Nat) : ∀ l : List Wt, patL op l d = l.all fun x => patW x (d + if parW op x.op then 1 else 0)
 | [] => by rw [patL]; rfl
 | x :: xs => by rw [patL, patL_all op d xs]; rfl
theorem take_snoc {α : Type} {l : List α} {j : Nat} {x : α} (h : l[j]? = some x) : l.take (j + 1) = l.take j ++ [x] := by
 rw [List.take_add_one, h]; rfl
theorem patL_step {op : Int} {l : List Wt} {d j : Nat} {x : Wt} (h : l[j]? = some x) (h1 : patL op (l.take j) d = true) (h2 : patW x (d + if parW op x.op then 1 else 0) = true) : patL op (l.take (j + 1)) d = true := by
 rw [patL_all] at h1 ⊢
 rw [take_snoc h, List.all_append, h1]
 simp only [List.all_cons, List.all_nil, Bool.and_true, Bool.true_and]
 exact h2
theorem patL_not {op : Int} {l : List Wt} {d j : Nat} {x : Wt} (h : l[j]? = some x) (h2 : patW x (d + if parW op x.op then 1 else 0) = false) : patL op l d = false := by
 rw [patL_all]
 by_cases hc : (l.all fun x => patW x (d + if parW op x.op then 1 else 0)) = true
 ·have := (List.all_eq_true.1 hc) x (List.mem_of_getElem? h)
  rw [h2] at this
  cases this
 ·simpa using hc
theorem cntL_sum : ∀ l : List Wt, cntL l = (l.map cntW).sum
 | [] => by rw [cntL]; rfl
 | x :: xs => by rw [cntL, cntL_sum xs]; rfl
theorem cntL_step {l : List Wt} {j : Nat} {x : Wt} (h : l[j]? = some x) : cntL (l.take (j + 1)) = cntL (l.take j) + cntW x := by
 rw [cntL_sum, cntL_sum, take_snoc h, List.map_append, List.sum_append]
 simp
theorem cntL_take_le : ∀ (l : List Wt) (j : Nat), cntL (l.take j) ≤ cntL l
 | [], _ => by simp
 | x :: xs, 0 => by rw [List.take_zero, cntL]; omega
 | x :: xs, j + 1 => by
  rw [List.take_succ_cons, cntL, cntL]
  have := cntL_take_le xs j
  omega
theorem dpL_all (d : Nat) : ∀ l : List Wt, dpL l d = l.all fun x => dpW x d
 | [] => by rw [dpL]; rfl
 | x :: xs => by rw [dpL, dpL_all d xs]; rfl
theorem dpL_step {l : List Wt} {d j : Nat} {x : Wt} (h : l[j]? = some x) (h1 : dpL (l.take j) d = true) (h2 : dpW x d = true) : dpL (l.take (j + 1)) d = true := by
 rw [dpL_all] at h1 ⊢
 rw [take_snoc h, List.all_append, h1]
 simp [h2]
theorem dpL_not {l : List Wt} {d j : Nat} {x : Wt} (h : l[j]? = some x) (h2 : dpW x d = false) : dpL l d = false := by
 rw [dpL_all]
 by_cases hc : (l.all fun x => dpW x d) = true
 ·have := (List.all_eq_true.1 hc) x (List.mem_of_getElem? h)
  rw [h2] at this
  cases this
 ·simpa using hc
def pieceW (op : Int) (x : Wt) : List UInt8 := if parW op x.op then [40] ++ (wrW x ++ [41]) else wrW x
theorem wrL_app (op : Int) : ∀ (l : List Wt) (b : Bool) (x : Wt), wrL op (l ++ [x]) b = wrL op l b ++ ((if b && l.isEmpty then [] else markB op) ++ pieceW op x)
 | [], b, x => by
  rw [List.nil_append, wrL, wrL, wrL, pieceW]
  cases b <;> simp
 | y :: ys, b, x => by
  rw [List.cons_append, wrL, wrL_app op ys false x, wrL]
  simp
theorem wrL_step {op : Int} {l : List Wt} {j : Nat} {x : Wt} (h : l[j]? = some x) : wrL op (l.take (j + 1)) true = wrL op (l.take j) true ++ ((if j = 0 then [] else markB op) ++ pieceW op x) := by
 have hj := (List.getElem?_eq_some_iff.1 h).1
 rw [take_snoc h, wrL_app]
 congr 1
 congr 1
 cases j with
 | zero => simp
 | succ j =>
  have : (l.take (j + 1)).isEmpty = false := by
   cases hl : l with
   | nil => rw [hl] at hj; simp at hj
   | cons y ys => simp
  rw [this]
  simp
theorem wrL_take_le (op : Int) (l : List Wt) (j : Nat) : (wrL op (l.take j) true).length ≤ 15 * cntL l := by
 have h1 := wrL_len op (l.take j) true
 have h2 := cntL_take_le l j
 omega
end
end Go.Proofs.YtbdllefnghddcaaGreatDoor
