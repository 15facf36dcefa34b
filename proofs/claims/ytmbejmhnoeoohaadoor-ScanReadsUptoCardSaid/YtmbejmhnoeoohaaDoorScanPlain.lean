/- PLAIN: what the layer scan answers, over lists of bytes. No program stands in this text. -/
import Derived.WalkKit
import Derived.Lib.Hide
import Derived.Lib.Bytealg
import Derived.Lib.Index
namespace Go.Proofs.YtmbejmhnoeoohaaDoor
open Go Go.RowKit

/-- words and marks, by their kinds from 4 on -/
def wordsS : List (List UInt8) := [[97, 102, 116, 101, 114], [99, 97, 112, 115], [100, 114, 111, 112], [101, 108, 115, 101], [104, 97, 110, 100, 108, 101, 114], [105, 110, 98, 111, 120], [111, 102], [111, 112, 101, 110], [114, 111, 117, 116, 101], [119, 104, 101, 110], [119, 105, 116, 104], [33], [38], [40], [41], [44], [45], [45, 62], [58], [59], [61], [124]]
/-- the number of a text in a list, from n on; 0: it stands not in it -/
def kFrom : List (List UInt8) → Nat → List UInt8 → Nat
  | [], _, _ => 0
  | x :: r, n, s => if x = s then n else kFrom r (n + 1) s
/-- the kind of a word or mark; 0: it is none -/
def kindS (s : List UInt8) : Nat := kFrom wordsS 4 s
/-- a text out of its bytes -/
def ba (l : List UInt8) : ByteArray := ⟨l.toArray⟩
/-- a kind's word or mark -/
def textS (k : Int) : List UInt8 := if k < 4 then [] else wordsS.getD (k - 4).toNat []

/-- what a byte may be: 2 a digit, 1 a letter, 3 a blank, 0 another -/
def clsS (n : Nat) : Nat :=
  if 48 ≤ n ∧ n ≤ 57 then 2 else if n = 95 ∨ (97 ≤ n ∧ n ≤ 122) ∨ (65 ≤ n ∧ n ≤ 90) then 1 else if n = 32 ∨ n = 9 ∨ n = 13 ∨ n = 10 then 3 else 0
def digB (c : UInt8) : Bool := clsS c.toNat == 2
def letB (c : UInt8) : Bool := clsS c.toNat == 1
def alnB (c : UInt8) : Bool := clsS c.toNat == 2 || clsS c.toNat == 1
/-- a hexadecimal digit's value; -1: it is none -/
def hexS (n : Nat) : Int := if 48 ≤ n ∧ n ≤ 57 then (n : Int) - 48 else if 97 ≤ n ∧ n ≤ 102 then (n : Int) - 87 else if 65 ≤ n ∧ n ≤ 70 then (n : Int) - 55 else -1

/-- how many bytes stand ahead of the next byte 10 -/
def lineS : List UInt8 → Nat
  | [] => 0
  | c :: r => if c = 10 then 0 else lineS r + 1
/-- how many bytes there are up to the end of the next "*/" -/
def cmtS : List UInt8 → Option Nat
  | 42 :: 47 :: _ => some 2
  | _ :: r => (cmtS r).map (· + 1)
  | [] => none
/-- how many bytes of a blank or a comment stand here; none: a comment that does not end -/
def skipN : List UInt8 → Option Nat
  | [] => some 0
  | c :: r => if clsS c.toNat = 3 then some 1 else if c = 35 then some (lineS r + 1) else if c = 47 ∧ r.head? = some 42 then (cmtS r.tail).map (· + 2) else some 0

/-- how many bytes at the beginning are such ones -/
def runS (p : UInt8 → Bool) : List UInt8 → Nat
  | [] => 0
  | c :: r => if p c then runS p r + 1 else 0

/-- what digits say -/
def numV (l : List UInt8) : Nat := l.foldl (fun n c => 10 * n + (c.toNat - 48)) 0

/-- a text, behind its opening byte: what it says, and how many bytes it takes -/
def qS : List UInt8 → Option (List UInt8 × Nat)
  | [] => none
  | c :: r =>
    if c = 34 then some ([], 1) else if c.toNat < 32 ∨ 126 < c.toNat then none else
    if c = 92 then match r with
      | [] => none
      | d :: r2 => if d = 34 ∨ d = 92 then (qS r2).map fun x => (d :: x.1, x.2 + 2) else if d = 120 then match r2 with
          | g :: h :: r3 => if 0 ≤ hexS g.toNat ∧ 0 ≤ hexS h.toNat then (qS r3).map fun x => (UInt8.ofNat (16 * (hexS g.toNat).toNat + (hexS h.toNat).toNat) :: x.1, x.2 + 4) else none
          | _ => none
        else none
    else (qS r).map fun x => (c :: x.1, x.2 + 1)

/-- a token -/
structure Tok where
  kind : Nat
  pos : Nat
  stop : Nat
  num : Nat
  text : List UInt8
deriving DecidableEq

/-- the token that begins here, and the number of its error -/
def oneC (c : UInt8) (r : List UInt8) (p : Nat) : Nat × Tok :=
  if clsS c.toNat = 1 then
    (if kindS ((c :: r).take (runS alnB (c :: r))) = 0 then (if 32 < runS alnB (c :: r) then 63 else 0, ⟨1, p, p + runS alnB (c :: r), 0, []⟩) else (0, ⟨kindS ((c :: r).take (runS alnB (c :: r))), p, p + runS alnB (c :: r), 0, []⟩))
  else if clsS c.toNat = 2 then
    (if 18446744073709551615 < numV ((c :: r).take (runS digB (c :: r))) ∨ (c = 48 ∧ 1 < runS digB (c :: r)) then 64 else 0, ⟨2, p, p + runS digB (c :: r), numV ((c :: r).take (runS digB (c :: r))), []⟩)
  else if c = 34 then match qS r with
    | none => (65, ⟨0, p, p, 0, []⟩)
    | some x => (0, ⟨3, p, p + x.2 + 1, 0, x.1⟩)
  else if 2 ≤ (c :: r).length ∧ kindS ((c :: r).take 2) ≠ 0 then (0, ⟨kindS ((c :: r).take 2), p, p + 2, 0, []⟩)
  else if kindS [c] ≠ 0 then (0, ⟨kindS [c], p, p + 1, 0, []⟩)
  else (61, ⟨0, p, p, 0, []⟩)
def oneS (l : List UInt8) (p : Nat) : Nat × Tok := match l with
  | [] => (61, ⟨0, p, p, 0, []⟩)
  | c :: r => oneC c r p

/-- what Scan answers: the tokens; or the place and the number of the fault -/
inductive Got where
  | toks (l : List Tok)
  | bad (pos err : Nat)
def consS (t : Tok) : Got → Got
  | .toks l => .toks (t :: l)
  | .bad p e => .bad p e
def appS (d : List Tok) : Got → Got
  | .toks l => .toks (d ++ l)
  | .bad p e => .bad p e
def scanF : Nat → List UInt8 → Nat → Nat → Got
  | 0, _, _, _ => .toks []
  | f + 1, l, p, room =>
    if l = [] then .toks [] else match skipN l with
    | none => .bad p 62
    | some (n + 1) => scanF f (l.drop (n + 1)) (p + (n + 1)) room
    | some 0 => if (oneS l p).1 = 61 then .bad p 61 else if room = 0 then .bad p 66 else if (oneS l p).1 ≠ 0 then .bad p (oneS l p).1 else
      consS (oneS l p).2 (scanF f (l.drop ((oneS l p).2.stop - p)) (oneS l p).2.stop (room - 1))
def scanAt (l : List UInt8) (p room : Nat) : Got := scanF l.length l p room
def scanS (l : List UInt8) : Got := if 65536 < l.length then .bad 0 60 else scanAt l 0 16384
end Go.Proofs.YtmbejmhnoeoohaaDoor
