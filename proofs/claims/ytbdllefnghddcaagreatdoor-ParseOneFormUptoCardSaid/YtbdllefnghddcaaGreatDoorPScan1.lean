/- PLAIN: what the layer scan answers, over lists of bytes. No program stands in this text. PLAIN: laws of the words of scan. No program stands in this text. PLAIN: the steps of a quoted text. -/
import Derived.WalkKit
import Derived.Lib.Hide
import Derived.Lib.Bytealg
import Derived.Lib.Index
namespace Go.Proofs.YtbdllefnghddcaaGreatDoor
section
open Go Go.RowKit

def wordsS : List (List UInt8) := [[97, 102, 116, 101, 114], [99, 97, 112, 115], [100, 114, 111, 112], [101, 108, 115, 101], [104, 97, 110, 100, 108, 101, 114], [105, 110, 98, 111, 120], [111, 102], [111, 112, 101, 110], [114, 111, 117, 116, 101], [119, 104, 101, 110], [119, 105, 116, 104], [33], [38], [40], [41], [44], [45], [45, 62], [58], [59], [61], [124]]
def kFrom : List (List UInt8) → Nat → List UInt8 → Nat
 | [], _, _ => 0
 | x :: r, n, s => if x = s then n else kFrom r (n + 1) s
def kindS (s : List UInt8) : Nat := kFrom wordsS 4 s
def ba (l : List UInt8) : ByteArray := ⟨l.toArray⟩
def textS (k : Int) : List UInt8 := if k < 4 then [] else wordsS.getD (k - 4).toNat []

def clsS (n : Nat) : Nat :=
 if 48 ≤ n ∧ n ≤ 57 then 2 else if n = 95 ∨ (97 ≤ n ∧ n ≤ 122) ∨ (65 ≤ n ∧ n ≤ 90) then 1 else if n = 32 ∨ n = 9 ∨ n = 13 ∨ n = 10 then 3 else 0
def digB (c : UInt8) : Bool := clsS c.toNat == 2
def letB (c : UInt8) : Bool := clsS c.toNat == 1
def alnB (c : UInt8) : Bool := clsS c.toNat == 2 || clsS c.toNat == 1
def hexS (n : Nat) : Int := if 48 ≤ n ∧ n ≤ 57 then (n : Int) - 48 else if 97 ≤ n ∧ n ≤ 102 then (n : Int) - 87 else if 65 ≤ n ∧ n ≤ 70 then (n : Int) - 55 else -1

def lineS : List UInt8 → Nat
 | [] => 0
 | c :: r => if c = 10 then 0 else lineS r + 1
def cmtS : List UInt8 → Option Nat
 | 42 :: 47 :: _ => some 2
 | _ :: r => (cmtS r).map (· + 1)
 | [] => none
def skipN : List UInt8 → Option Nat
 | [] => some 0
 | c :: r => if clsS c.toNat = 3 then some 1 else if c = 35 then some (lineS r + 1) else if c = 47 ∧ r.head? = some 42 then (cmtS r.tail).map (· + 2) else some 0

def runS (p : UInt8 → Bool) : List UInt8 → Nat
 | [] => 0
 | c :: r => if p c then runS p r + 1 else 0

def numV (l : List UInt8) : Nat := l.foldl (fun n c => 10 * n + (c.toNat - 48)) 0

def qS : List UInt8 → Option (List UInt8 × Nat)
 | [] => none
 | c :: r =>
  if c = 34 then some ([], 1) else if c.toNat < 32 ∨ 126 < c.toNat then none else
  if c = 92 then match r with
   | [] => none
   | d :: r2 => if d = 34 ∨ d = 92 then (qS r2).map fun x => (d :: x.1, x.2 + 2) else if d = 120 then match r2 with
     | g :: h :: r3 => if 0 ≤ hexS g.toNat ∧ 0 ≤ hexS h.toNat then (qS r3).map fun x => (UInt8.ofNat (16 * (hexS g.toNat).toNat + (hexS h.toNat).toNat) :: x.1, x.2 + 4) else none
     | _ => none
    else none
  else (qS r).map fun x => (c :: x.1, x.2 + 1)

structure Tok where
 kind : Nat
 pos : Nat
 stop : Nat
 num : Nat
 text : List UInt8
deriving DecidableEq

def oneC (c : UInt8) (r : List UInt8) (p : Nat) : Nat × Tok :=
 if clsS c.toNat = 1 then
  (if kindS ((c :: r).take (runS alnB (c :: r))) = 0 then (if 32 < runS alnB (c :: r) then 63 else 0, ⟨1, p, p + runS alnB (c :: r), 0, []⟩) else (0, ⟨kindS ((c :: r).take (runS alnB (c :: r))), p, p + runS alnB (c :: r), 0, []⟩))
 else if clsS c.toNat = 2 then
  (if 18446744073709551615 < numV ((c :: r).take (runS digB (c :: r))) ∨ (c = 48 ∧ 1 < runS digB (c :: r)) then 64 else 0, ⟨2, p, p + runS digB (c :: r), numV ((c :: r).take (runS digB (c :: r))), []⟩)
 else if c = 34 then match qS r with
  | none => (65, ⟨0, p, p, 0, []⟩)
  | some x => (0, ⟨3, p, p + x.2 + 1, 0, x.1⟩)
 else if 2 ≤ (c :: r).length ∧ kindS ((c :: r).take 2) ≠ 0 then (0, ⟨kindS ((c :: r).take 2), p, p + 2, 0, []⟩)
 else if kindS [c] ≠ 0 then (0, ⟨kindS [c], p, p + 1, 0, []⟩)
 else (61, ⟨0, p, p, 0, []⟩)
def oneS (l : List UInt8) (p : Nat) : Nat × Tok := match l with
 | [] => (61, ⟨0, p, p, 0, []⟩)
 | c :: r => oneC c r p

inductive Got where
 | toks (l : List Tok)
 | bad (pos err : Nat)
def consS (t : Tok) : Got → Got
 | .toks l => .toks (t :: l)
 | .bad p e => .bad p e
def appS (d : List Tok) : Got → Got
 | .toks l => .toks (d ++ l)
 | .bad p e => .bad p e
def scanF : Nat → List UInt8 → Nat → Nat → Got
 | 0, _, _, _ => .toks []
 | f + 1, l, p, room =>
  if l = [] then .toks [] else match skipN l with
  | none => .bad p 62
  | some (n + 1) => scanF f (l.drop (n + 1)) (p + (n + 1)) room
  | some 0 => if (oneS l p).1 = 61 then .bad p 61 else if room = 0 then .bad p 66 else if (oneS l p).1 ≠ 0 then .bad p (oneS l p).1 else
   consS (oneS l p).2 (scanF f (l.drop ((oneS l p).2.stop - p)) (oneS l p).2.stop (room - 1))
def scanAt (l : List UInt8) (p room : Nat) : Got := scanF l.length l p room
def scanS (l : List UInt8) : Got := if 65536 < l.length then .bad 0 60 else scanAt l 0 16384
end
section
open List (length_cons)
open Go Go.RowKit

theorem runS_le (p : UInt8 → Bool) : ∀ l : List UInt8, runS p l ≤ l.length
 | [] => Nat.le_refl _
 | c :: r => by have := runS_le p r; unfold runS; split <;> simp <;> omega
theorem runS_pos (p : UInt8 → Bool) (c : UInt8) (r : List UInt8) (h : p c = true) : 0 < runS p (c :: r) := by simp [runS, h]

theorem lineS_le : ∀ l : List UInt8, lineS l ≤ l.length
 | [] => Nat.le_refl _
 | c :: r => by have := lineS_le r; unfold lineS; split <;> simp; omega

theorem cmtS_cons (a : UInt8) (r : List UInt8) : cmtS (a :: r) = if a = 42 ∧ r.head? = some 47 then some 2 else (cmtS r).map (· + 1) := by
 cases r with
 | nil => simp [cmtS]
 | cons b t =>
  by_cases h : a = 42 ∧ b = 47
  ·obtain ⟨rfl, rfl⟩ := h; simp [cmtS]
  ·rw [if_neg (by simpa using h)]
   rw [cmtS]
   intro t' e1 e2
   exact h ⟨e1, by injection e2⟩
theorem cmtS_le : ∀ (l : List UInt8) (k : Nat), cmtS l = some k → k ≤ l.length ∧ 2 ≤ k
 | [], k, h => by simp [cmtS] at h
 | a :: r, k, h => by
  rw [cmtS_cons] at h
  split at h
  ·rename_i hh
   cases r with
   | nil => simp at hh
   | cons b t => simp at h; subst h; simp
  ·obtain ⟨j, hj, rfl⟩ := Option.map_eq_some_iff.1 h
   have := cmtS_le r j hj
   simp; omega

theorem skipN_blank {c : UInt8} (r : List UInt8) (h : clsS c.toNat = 3) : skipN (c :: r) = some 1 := by simp [skipN, h]
theorem skipN_line (r : List UInt8) : skipN (35 :: r) = some (lineS r + 1) := by simp [skipN, clsS]
theorem skipN_cmt (r : List UInt8) : skipN (47 :: 42 :: r) = (cmtS r).map (· + 2) := by simp [skipN, clsS]
theorem skipN_zero {c : UInt8} {r : List UInt8} (h1 : ¬ clsS c.toNat = 3) (h2 : ¬ c = 35) (h3 : ¬ (c = 47 ∧ r.head? = some 42)) : skipN (c :: r) = some 0 := by
 simp only [skipN]; rw [if_neg h1, if_neg h2, if_neg h3]
theorem skipN_le {l : List UInt8} {n : Nat} (h : skipN l = some n) : n ≤ l.length := by
 cases l with
 | nil => simp [skipN] at h; omega
 | cons c r =>
  by_cases h1 : clsS c.toNat = 3
  ·rw [skipN_blank r h1] at h; injection h with h; simp; omega
  ·by_cases h2 : c = 35
   ·subst h2; rw [skipN_line] at h; injection h with h; have := lineS_le r; simp; omega
   ·by_cases h3 : c = 47 ∧ r.head? = some 42
    ·obtain ⟨rfl, h4⟩ := h3
     cases r with
     | nil => simp at h4
     | cons b t =>
      obtain rfl : b = 42 := by simpa using h4
      rw [skipN_cmt] at h
      obtain ⟨j, hj, rfl⟩ := Option.map_eq_some_iff.1 h
      have := cmtS_le _ j hj
      simp; omega
    ·rw [skipN_zero h1 h2 h3] at h; injection h with h; omega

theorem qS_le : ∀ (n : Nat) (l : List UInt8) (x : List UInt8 × Nat), l.length ≤ n → qS l = some x → x.2 ≤ l.length ∧ 0 < x.2
 | n, [], x, _, h => by simp [qS] at h
 | 0, c :: r, x, hn, h => by simp at hn
 | n + 1, c :: r, x, hn, h => by
  simp only [length_cons] at hn
  unfold qS at h
  split at h
  ·simp at h; subst h; simp
  ·split at h
   ·simp at h
   ·split at h
    ·split at h
     ·simp at h
     ·rename_i d r2
      simp only [length_cons] at hn ⊢
      split at h
      ·obtain ⟨y, hy, rfl⟩ := Option.map_eq_some_iff.1 h
       have := qS_le n r2 y (by omega) hy
       simp only; omega
      ·split at h
       ·split at h
        ·rename_i g hh r3
         simp only [length_cons] at hn ⊢
         split at h
         ·obtain ⟨y, hy, rfl⟩ := Option.map_eq_some_iff.1 h
          have := qS_le n r3 y (by omega) hy
          simp only; omega
         ·simp at h
        ·simp at h
       ·simp at h
    ·obtain ⟨y, hy, rfl⟩ := Option.map_eq_some_iff.1 h
     have := qS_le n r y (by omega) hy
     simp only [length_cons]; omega

theorem oneS_word {c : UInt8} (r : List UInt8) (p : Nat) (h : clsS c.toNat = 1) : oneS (c :: r) p =
  if kindS ((c :: r).take (runS alnB (c :: r))) = 0 then (if 32 < runS alnB (c :: r) then 63 else 0, ⟨1, p, p + runS alnB (c :: r), 0, []⟩) else (0, ⟨kindS ((c :: r).take (runS alnB (c :: r))), p, p + runS alnB (c :: r), 0, []⟩) := by
 show oneC c r p = _; unfold oneC; rw [if_pos h]
theorem oneS_num {c : UInt8} (r : List UInt8) (p : Nat) (h : clsS c.toNat = 2) : oneS (c :: r) p =
  (if 18446744073709551615 < numV ((c :: r).take (runS digB (c :: r))) ∨ (c = 48 ∧ 1 < runS digB (c :: r)) then 64 else 0, ⟨2, p, p + runS digB (c :: r), numV ((c :: r).take (runS digB (c :: r))), []⟩) := by
 show oneC c r p = _; unfold oneC; rw [if_neg (by omega), if_pos h]
theorem oneS_text_none (r : List UInt8) (p : Nat) (h : qS r = none) : oneS (34 :: r) p = (65, ⟨0, p, p, 0, []⟩) := by
 show oneC 34 r p = _; unfold oneC; rw [if_neg (by decide), if_neg (by decide), if_pos rfl, h]
theorem oneS_text_some (r : List UInt8) (p : Nat) {x : List UInt8 × Nat} (h : qS r = some x) : oneS (34 :: r) p = (0, ⟨3, p, p + x.2 + 1, 0, x.1⟩) := by
 show oneC 34 r p = _; unfold oneC; rw [if_neg (by decide), if_neg (by decide), if_pos rfl, h]
theorem oneS_two {c : UInt8} {r : List UInt8} (p : Nat) (h1 : ¬ clsS c.toNat = 1) (h2 : ¬ clsS c.toNat = 2) (h3 : ¬ c = 34) (h4 : 2 ≤ (c :: r).length ∧ kindS ((c :: r).take 2) ≠ 0) :
  oneS (c :: r) p = (0, ⟨kindS ((c :: r).take 2), p, p + 2, 0, []⟩) := by
 show oneC c r p = _; unfold oneC; rw [if_neg h1, if_neg h2, if_neg h3, if_pos h4]
theorem oneS_mark {c : UInt8} {r : List UInt8} (p : Nat) (h1 : ¬ clsS c.toNat = 1) (h2 : ¬ clsS c.toNat = 2) (h3 : ¬ c = 34) (h4 : ¬ (2 ≤ (c :: r).length ∧ kindS ((c :: r).take 2) ≠ 0)) (h5 : kindS [c] ≠ 0) :
  oneS (c :: r) p = (0, ⟨kindS [c], p, p + 1, 0, []⟩) := by
 show oneC c r p = _; unfold oneC; rw [if_neg h1, if_neg h2, if_neg h3, if_neg h4, if_pos h5]
theorem oneS_none {c : UInt8} {r : List UInt8} (p : Nat) (h1 : ¬ clsS c.toNat = 1) (h2 : ¬ clsS c.toNat = 2) (h3 : ¬ c = 34) (h4 : ¬ (2 ≤ (c :: r).length ∧ kindS ((c :: r).take 2) ≠ 0)) (h5 : ¬ kindS [c] ≠ 0) :
  oneS (c :: r) p = (61, ⟨0, p, p, 0, []⟩) := by
 show oneC c r p = _; unfold oneC; rw [if_neg h1, if_neg h2, if_neg h3, if_neg h4, if_neg h5]

theorem oneS_stop {l : List UInt8} {p : Nat} (h : (oneS l p).1 = 0) : p < (oneS l p).2.stop ∧ (oneS l p).2.stop ≤ p + l.length := by
 cases l with
 | nil => simp [oneS] at h
 | cons c r =>
  by_cases h1 : clsS c.toNat = 1
  ·have hp := runS_pos alnB c r (by simp [alnB, h1])
   have hl := runS_le alnB (c :: r)
   have e : (oneS (c :: r) p).2.stop = p + runS alnB (c :: r) := by
    rw [oneS_word r p h1]; split <;> rfl
   rw [e]; omega
  ·by_cases h2 : clsS c.toNat = 2
   ·have hp := runS_pos digB c r (by simp [digB, h2])
    have hl := runS_le digB (c :: r)
    rw [oneS_num r p h2]; simp only; omega
   ·by_cases h3 : c = 34
    ·subst h3
     cases hq : qS r with
     | none => rw [oneS_text_none r p hq] at h; simp at h
     | some x =>
      have := qS_le _ r x (Nat.le_refl _) hq
      rw [oneS_text_some r p hq]; simp only [length_cons]; omega
    ·by_cases h4 : 2 ≤ (c :: r).length ∧ kindS ((c :: r).take 2) ≠ 0
     ·rw [oneS_two p h1 h2 h3 h4]; simp only; omega
     ·by_cases h5 : kindS [c] ≠ 0
      ·rw [oneS_mark p h1 h2 h3 h4 h5]; simp only [length_cons]; omega
      ·rw [oneS_none p h1 h2 h3 h4 h5] at h; simp at h

theorem scanF_fuel : ∀ (f g : Nat) (l : List UInt8) (p r : Nat), l.length ≤ f → l.length ≤ g → scanF f l p r = scanF g l p r
 | 0, 0, l, p, r, _, _ => rfl
 | 0, g + 1, l, p, r, h, _ => by
  have : l = [] := List.eq_nil_of_length_eq_zero (by omega)
  subst this; simp [scanF]
 | f + 1, 0, l, p, r, _, h => by
  have : l = [] := List.eq_nil_of_length_eq_zero (by omega)
  subst this; simp [scanF]
 | f + 1, g + 1, l, p, r, h1, h2 => by
  unfold scanF
  by_cases hl : l = []
  ·simp [hl]
  ·rw [if_neg hl, if_neg hl]
   have hpos : 0 < l.length := by cases l with | nil => exact absurd rfl hl | cons c t => simp
   cases hs : skipN l with
   | none => rfl
   | some n =>
    cases n with
    | succ n =>
     simp only
     exact scanF_fuel f g _ _ _ (by rw [List.length_drop]; omega) (by rw [List.length_drop]; omega)
    | zero =>
     simp only
     by_cases c1 : (oneS l p).1 = 61
     ·rw [if_pos c1, if_pos c1]
     ·rw [if_neg c1, if_neg c1]
      by_cases c2 : r = 0
      ·rw [if_pos c2, if_pos c2]
      ·rw [if_neg c2, if_neg c2]
       by_cases c3 : (oneS l p).1 ≠ 0
       ·rw [if_pos c3, if_pos c3]
       ·rw [if_neg c3, if_neg c3]
        have := oneS_stop (l := l) (p := p) (by omega)
        congr 1
        exact scanF_fuel f g _ _ _ (by rw [List.length_drop]; omega) (by rw [List.length_drop]; omega)

theorem scanAt_nil (p r : Nat) : scanAt [] p r = .toks [] := rfl
theorem scanAt_open {l : List UInt8} (hl : l ≠ []) (p r : Nat) (h : skipN l = none) : scanAt l p r = .bad p 62 := by
 unfold scanAt
 cases l with
 | nil => exact absurd rfl hl
 | cons c t => simp only [length_cons, scanF]; rw [if_neg hl, h]
theorem scanAt_skip {l : List UInt8} {n : Nat} (p r : Nat) (h : skipN l = some n) (hn : 0 < n) : scanAt l p r = scanAt (l.drop n) (p + n) r := by
 have hle := skipN_le h
 unfold scanAt
 cases l with
 | nil => simp at hle; omega
 | cons c t =>
  conv => lhs; simp only [length_cons, scanF]
  rw [if_neg (by simp), h]
  obtain ⟨m, rfl⟩ : ∃ m, n = m + 1 := ⟨n - 1, by omega⟩
  simp only
  exact scanF_fuel _ _ _ _ _ (by rw [List.length_drop]; simp) (Nat.le_refl _)
theorem scanAt_tok {l : List UInt8} (hl : l ≠ []) (p r : Nat) (h : skipN l = some 0) :
  scanAt l p r = if (oneS l p).1 = 61 then .bad p 61 else if r = 0 then .bad p 66 else if (oneS l p).1 ≠ 0 then .bad p (oneS l p).1 else
   consS (oneS l p).2 (scanAt (l.drop ((oneS l p).2.stop - p)) (oneS l p).2.stop (r - 1)) := by
 unfold scanAt
 cases l with
 | nil => exact absurd rfl hl
 | cons c t =>
  conv => lhs; simp only [length_cons, scanF]
  rw [if_neg hl, h]
  simp only
  by_cases c1 : (oneS (c :: t) p).1 = 61
  ·rw [if_pos c1, if_pos c1]
  ·rw [if_neg c1, if_neg c1]
   by_cases c2 : r = 0
   ·rw [if_pos c2, if_pos c2]
   ·rw [if_neg c2, if_neg c2]
    by_cases c3 : (oneS (c :: t) p).1 ≠ 0
    ·rw [if_pos c3, if_pos c3]
    ·rw [if_neg c3, if_neg c3]
     have := oneS_stop (l := c :: t) (p := p) (by omega)
     congr 1
     exact scanF_fuel _ _ _ _ _ (by rw [List.length_drop]; simp only [length_cons]; omega) (Nat.le_refl _)
end
section
open Go Go.RowKit

theorem qS_end (r : List UInt8) : qS (34 :: r) = some ([], 1) := by unfold qS; rw [if_pos rfl]
theorem qS_bad {c : UInt8} (r : List UInt8) (h : ¬ c = 34) (h2 : c.toNat < 32 ∨ 126 < c.toNat) : qS (c :: r) = none := by unfold qS; rw [if_neg h, if_pos h2]
theorem qS_plain {c : UInt8} (r : List UInt8) (h : ¬ c = 34) (h2 : ¬ (c.toNat < 32 ∨ 126 < c.toNat)) (h3 : ¬ c = 92) : qS (c :: r) = (qS r).map fun x => (c :: x.1, x.2 + 1) := by
 conv => lhs; unfold qS
 rw [if_neg h, if_neg h2, if_neg h3]
theorem qS_esc_end : qS [92] = none := by unfold qS; rfl
theorem qS_esc {d : UInt8} (r : List UInt8) (h : d = 34 ∨ d = 92) : qS (92 :: d :: r) = (qS r).map fun x => (d :: x.1, x.2 + 2) := by
 conv => lhs; unfold qS
 rw [if_neg (by decide), if_neg (by decide), if_pos rfl]
 simp only
 rw [if_pos h]
theorem qS_esc_bad {d : UInt8} (r : List UInt8) (h : ¬ (d = 34 ∨ d = 92)) (h2 : ¬ d = 120) : qS (92 :: d :: r) = none := by
 conv => lhs; unfold qS
 rw [if_neg (by decide), if_neg (by decide), if_pos rfl]
 simp only
 rw [if_neg h, if_neg h2]
theorem qS_hex_short {r : List UInt8} (h : r.length < 2) : qS (92 :: 120 :: r) = none := by
 conv => lhs; unfold qS
 rw [if_neg (by decide), if_neg (by decide), if_pos rfl]
 simp only
 rw [if_neg (by decide), if_pos trivial]
 match r, h with
 | [], _ => rfl
 | [g], _ => rfl
theorem qS_hex_no {g h : UInt8} (r : List UInt8) (h2 : ¬ (0 ≤ hexS g.toNat ∧ 0 ≤ hexS h.toNat)) : qS (92 :: 120 :: g :: h :: r) = none := by
 conv => lhs; unfold qS
 rw [if_neg (by decide), if_neg (by decide), if_pos rfl]
 simp only
 rw [if_neg (by decide), if_pos trivial, if_neg h2]
theorem qS_hex {g h : UInt8} (r : List UInt8) {p q : Nat} (hp : hexS g.toNat = (p : Nat)) (hq : hexS h.toNat = (q : Nat)) :
  qS (92 :: 120 :: g :: h :: r) = (qS r).map fun x => (UInt8.ofNat (16 * p + q) :: x.1, x.2 + 4) := by
 conv => lhs; unfold qS
 rw [if_neg (by decide), if_neg (by decide), if_pos rfl]
 simp only
 rw [if_neg (by decide), if_pos trivial, if_pos (by rw [hp, hq]; omega), hp, hq]
 rfl

def QAt (B l : List UInt8) (k : Nat) (D : List UInt8) : Prop := qS B = (qS (l.drop k)).map fun x => (D ++ x.1, x.2 + (k - 1))
theorem qat_start (c : UInt8) (B : List UInt8) : QAt B (c :: B) 1 [] := by
 unfold QAt; simp
theorem qat_end {B l : List UInt8} {k : Nat} {D r : List UInt8} (h : QAt B l k D) (hl : l.drop k = 34 :: r) (hk : 1 ≤ k) : qS B = some (D, k) := by
 unfold QAt at h; rw [h, hl, qS_end]; simp; omega
theorem qat_none {B l : List UInt8} {k : Nat} {D : List UInt8} (h : QAt B l k D) (hl : qS (l.drop k) = none) : qS B = none := by
 unfold QAt at h; rw [h, hl]; rfl
theorem qat_step {B l : List UInt8} {k m : Nat} {D e : List UInt8} (h : QAt B l k D) (hk : 1 ≤ k) (hl : qS (l.drop k) = (qS (l.drop (k + m))).map fun x => (e ++ x.1, x.2 + m)) : QAt B l (k + m) (D ++ e) := by
 unfold QAt at h ⊢
 rw [h, hl, Option.map_map]
 congr 1
 funext x
 simp only [Function.comp, List.append_assoc, Prod.mk.injEq, true_and]
 omega
theorem drop_one {l : List UInt8} {k : Nat} {c : UInt8} (h : l[k]? = some c) : l.drop k = c :: l.drop (k + 1) := by
 obtain ⟨hk, rfl⟩ := List.getElem?_eq_some_iff.1 h
 exact List.drop_eq_getElem_cons hk
theorem qS_nil : qS [] = none := by unfold qS; rfl
end
end Go.Proofs.YtbdllefnghddcaaGreatDoor
