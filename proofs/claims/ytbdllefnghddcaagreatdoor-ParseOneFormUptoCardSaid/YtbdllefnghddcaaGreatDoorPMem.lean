/- THE PROGRAM's Scan. PARSE: trees, and what the reader reads of them, in plain Lean. PARSE: trees in memory; the reader's block. PARSE: the reader's small steps: kind, pos, fail, take, want. PARSE: the reader's small steps: take, want, name, number. ROWS: what the cells of a block hold, all at once. HELD: an operation that only reads is taken first. PARSE: the reader's small steps: name, number. PARSE: the reader's list of names. -/
import Derived.Test.YtbdllefnghddcaaGreatDoorPScan5
import Derived.Test.YtbdllefnghddcaaGreatDoorPScan1
import Derived.BigQuiet
import Derived.Deep.DrawnRows
import Derived.Recover
import Derived.Defers
import Derived.WalkLawsBesides
import Derived.WalkKit
import Derived.ProofKit
import Derived.Deep.RegionHeld3
import Derived.BigRegion
import Derived.Maps.AppendAt
namespace Go.Proofs.YtbdllefnghddcaaGreatDoor
section
open Go Go.RowKit

def tc (t : Tok) : List Value := [.int .i64 (t.kind : Nat), .int .i64 (t.pos : Nat), .int .i64 (t.stop : Nat), .int .u64 (t.num : Nat), .string (ba t.text)]
def tcs (ts : List Tok) : List Value := ts.flatMap tc
theorem tcs_len (ts : List Tok) : (tcs ts).length = ts.length * 5 := by
 induction ts with
 | nil => rfl
 | cons t ts ih => simp only [tcs, List.flatMap_cons, List.length_append, List.length_cons] at ih ⊢; rw [ih]; simp [tc]; omega
theorem tcs_snoc (ts : List Tok) (t : Tok) : tcs (ts ++ [t]) = tcs ts ++ tc t := by simp [tcs]
theorem tcs_at : ∀ (ts : List Tok) (j : Nat) (t : Tok), ts[j]? = some t → ∀ i, i < 5 → (tcs ts)[j * 5 + i]? = (tc t)[i]?
 | [], j, t, h, i, _ => by simp at h
 | s :: ts, 0, t, h, i, hi => by
  obtain rfl : s = t := by simpa using h
  have : (tcs (s :: ts)) = tc s ++ tcs ts := rfl
  rw [this, List.getElem?_append_left (by simp [tc]; omega)]; simp
 | s :: ts, j + 1, t, h, i, hi => by
  have : (tcs (s :: ts)) = tc s ++ tcs ts := rfl
  rw [this, List.getElem?_append_right (by simp [tc]; omega)]
  have := tcs_at ts j t (by simpa using h) i hi
  rw [← this]; congr 1; simp [tc]; omega
def Tks (w : World) (v : Value) (ts : List Tok) : Prop :=
 ∃ p cap, v = .slice p ts.length cap ∧ ts.length ≤ cap ∧ cap ≤ 9223372036854775807 ∧ (0 < ts.length → ∃ b o, p = some ⟨b, o, none⟩ ∧ ∀ j t, ts[j]? = some t → ∀ i u, (tc t)[i]? = some u → w.cell? ⟨b, o + (j * 5 + i), none⟩ = some u)
theorem Tks.below {w w' : World} {v : Value} {ts : List Tok} (h : Tks w v ts) (hb : Below w.heap.size w w') : Tks w' v ts := by
 obtain ⟨p, cap, hv, h1, h2, hc⟩ := h
 refine ⟨p, cap, hv, h1, h2, fun hn => ?_⟩
 obtain ⟨b, o, hp, hc⟩ := hc hn
 exact ⟨b, o, hp, fun j t hj i u hu => (hb.cell (World.block_lt_of_cell? w _ (hc j t hj i u hu))).trans (hc j t hj i u hu)⟩
theorem Tks.of_own {w : World} {base : Nat} {v : Value} {ts : List Tok} (h : w.ownsRow base 114 5 v ts.length (tcs ts)) : Tks w v ts := by
 rcases h.2 with ⟨rfl, h0⟩ | ⟨g, cap, cur, rfl, hb, hg, hn, hm, hs, ht⟩
 ·have : ts = [] := List.eq_nil_of_length_eq_zero h0
  subst this
  exact ⟨none, 0, rfl, Nat.le_refl _, by omega, fun hn => by simp at hn⟩
 ·refine ⟨_, cap, rfl, hn, by unfold maxLen at hm; omega, fun _ => ⟨g, 0, rfl, fun j t hj i u hu => ?_⟩⟩
  have hi : i < 5 := by
   obtain ⟨hi, _⟩ := List.getElem?_eq_some_iff.1 hu
   simpa [tc] using hi
  have := h.cells (g := g) rfl (j * 5 + i) u (by rw [tcs_at ts j t hj i hi]; exact hu)
  have hadd : (⟨g, 0, none⟩ : Addr).add (j * 5 + i) = ⟨g, 0 + (j * 5 + i), none⟩ := by unfold Addr.add; split <;> simp_all
  rwa [hadd] at this

def ScanPost (w : World) (r : Got) (e : Ending) (w' : World) : Prop := Below w.heap.size w w' ∧ match r with
 | .toks ts => ∃ v, e = .returned (.tuple #[v, .agg #[.int .i64 0, .int .i64 0]]) ∧ Tks w' v ts
 | .bad p k => e = .returned (.tuple #[.slice none 0 0, .agg #[.int .i64 (p : Nat), .int .i64 (k : Nat)]])
theorem scan_bad {w w' : World} {r : Got} {p k : Nat} (hr : r = .bad p k) (hb : Below w.heap.size w w') : ScanPost w r (.returned (.tuple #[.slice none 0 0, .agg #[.int .i64 (p : Nat), .int .i64 (k : Nat)]])) w' := by subst hr; exact ⟨hb, rfl⟩
theorem scan_toks {w w' : World} {r : Got} {ts : List Tok} {v : Value} (hr : r = .toks ts) (hb : Below w.heap.size w w') (hv : Tks w' v ts) : ScanPost w r (.returned (.tuple #[v, .agg #[.int .i64 0, .int .i64 0]])) w' := by subst hr; exact ⟨hb, v, rfl, hv⟩

def FW (w W : World) (a b : Nat) : Prop := Below w.heap.size w W ∧ W.heap[w.heap.size]? = some (.cells #[.int .i64 (a : Nat), .int .i64 (b : Nat)] 29 (0, 0))
theorem FW.lt {w W : World} {a b : Nat} (h : FW w W a b) : w.heap.size < W.heap.size := by
 rcases Nat.lt_or_ge w.heap.size W.heap.size with hlt | hge
 ·exact hlt
 ·have := h.2; rw [Array.getElem?_eq_none hge] at this; cases this
theorem FW.fill {w W : World} {a b : Nat} (h : FW w W a b) (a' b' : Nat) {u v : Value} (hu : u = .int .i64 (a' : Nat)) (hv : v = .int .i64 (b' : Nat)) : FW w ((W.setCell ⟨w.heap.size, 0, none⟩ u).setCell ⟨w.heap.size, 1, none⟩ v) a' b' := by
 subst hu; subst hv
 have h0 := heap_setCell_same W w.heap.size 0 _ _ (.int .i64 (a' : Nat)) h.2
 have h1 := heap_setCell_same _ w.heap.size 1 _ _ (.int .i64 (b' : Nat)) h0
 exact ⟨(h.1.setCell (p := ⟨w.heap.size, 0, none⟩) (Nat.le_refl _) _).setCell (p := ⟨w.heap.size, 1, none⟩) (Nat.le_refl _) _, h1⟩
theorem FW.drew_ {w W : World} {a b : Nat} (h : FW w W a b) : FW w W.drew a b := ⟨h.1.drew, h.2⟩
theorem FW.below {w W W' : World} {a b : Nat} (h : FW w W a b) (hb : Below W.heap.size W W') : FW w W' a b := ⟨h.1.trans (hb.mono (Nat.le_of_lt h.lt)), (hb.block _ h.lt).trans h.2⟩
theorem FW.beside {w W W' : World} {a b g : Nat} (h : FW w W a b) (hg : W.grownBy W' (some g)) (hne : w.heap.size < g) : FW w W' a b :=
 ⟨⟨hg.os.trans h.1.os, hg.tape.trans h.1.tape, hg.output.trans h.1.output, Nat.le_trans h.1.size hg.size, fun k hk => (hg.block k (Nat.lt_of_lt_of_le hk h.1.size) (fun e => by injection e with e; omega)).trans (h.1.block k hk)⟩,
  (hg.block _ h.lt (fun e => by injection e with e; omega)).trans h.2⟩
theorem FW.cells {w W : World} {a b : Nat} (h : FW w W a b) : W.cell? ⟨w.heap.size, 0, none⟩ = some (.int .i64 (a : Nat)) ∧ W.cell? ⟨w.heap.size, 1, none⟩ = some (.int .i64 (b : Nat)) := by
 refine ⟨?_, ?_⟩ <;> (rw [cell_of_row W _ _ _ _ _ h.2]; rfl)
theorem FW.frozen {w W : World} {a b : Nat} (h : FW w W a b) (i : Nat) : W.frozen? ⟨w.heap.size, i, none⟩ = false := by have := h.2; simp [World.frozen?, this]
theorem resF {W : World} {B : Nat} {cs : Array Value} (h : W.heap[B]? = some (.cells cs 29 (0, 0))) (hs : cs.size = 2) (tmps : Array Value) (h3 : tmps.getD 3 undef = .pointer (some ⟨B, 0, none⟩)) :
  (results Tryz.f28 tmps).run Tryz.prog W = .ok (.tuple #[tmps.getD 2 undef, .agg cs]) W := by
 have h3' : tmps[3]?.getD undef = .pointer (some ⟨B, 0, none⟩) := by simpa using h3
 have hl := run_loadVar_row (P := Tryz.prog) W B 29 29 cs (0, 0) _ h Tryz.underlying29 rfl (by rw [hs]; kernel_rfl)
 simp [results, Tryz.results28, h3', asAddr, hl]

theorem info_token : (Tryz.prog.info? 114).map (fun i => (i.zero, i.size, i.bytes)) = some (some (.agg #[.int .i64 0, .int .i64 0, .int .i64 0, .int .u64 0, .string ByteArray.empty]), 5, 48) := by kernel_rfl

def ScAt (l : List UInt8) (p : Nat) (ts : List Tok) : Prop := p ≤ l.length ∧ ts.length ≤ 16384 ∧ scanAt l 0 16384 = appS ts (scanAt (l.drop p) p (16384 - ts.length))
theorem scAt_skip {l : List UInt8} {p p1 : Nat} {ts : List Tok} (h : ScAt l p ts) (h1 : p1 ≤ l.length) (h2 : ∀ r, scanAt (l.drop p) p r = scanAt (l.drop p1) p1 r) : ScAt l p1 ts := ⟨h1, h.2.1, by rw [h.2.2, h2]⟩
theorem drop_ne {l : List UInt8} {p : Nat} (h : p < l.length) : l.drop p ≠ [] := by intro e; have := congrArg List.length e; rw [List.length_drop] at this; simp at this; omega
theorem scAt_open {l : List UInt8} {p : Nat} {ts : List Tok} (h : ScAt l p ts) (hp : p < l.length) (h1 : skipN (l.drop p) = none) : scanAt l 0 16384 = .bad p 62 := by
 rw [h.2.2, scanAt_open (drop_ne hp) _ _ h1]; rfl
theorem scAt_end {l : List UInt8} {p : Nat} {ts : List Tok} (h : ScAt l p ts) (hp : p = l.length) : scanAt l 0 16384 = .toks ts := by
 rw [h.2.2, hp, List.drop_length, scanAt_nil]; simp [appS]
theorem appS_cons (ts : List Tok) (t : Tok) (g : Got) : appS ts (consS t g) = appS (ts ++ [t]) g := by cases g <;> simp [appS, consS]
theorem scAt_tok {l : List UInt8} {p : Nat} {ts : List Tok} (h : ScAt l p ts) (hp : p < l.length) (h1 : skipN (l.drop p) = some 0) :
  ((oneS (l.drop p) p).1 = 61 → scanAt l 0 16384 = .bad p 61) ∧ (¬ (oneS (l.drop p) p).1 = 61 → ts.length = 16384 → scanAt l 0 16384 = .bad p 66) ∧
  (¬ (oneS (l.drop p) p).1 = 61 → ¬ ts.length = 16384 → ¬ (oneS (l.drop p) p).1 = 0 → scanAt l 0 16384 = .bad p (oneS (l.drop p) p).1) ∧
  ((oneS (l.drop p) p).1 = 0 → ¬ ts.length = 16384 → p < (oneS (l.drop p) p).2.stop ∧ ScAt l (oneS (l.drop p) p).2.stop (ts ++ [(oneS (l.drop p) p).2])) := by
 have ht := h.2.1
 have e := scanAt_tok (drop_ne hp) p (16384 - ts.length) h1
 refine ⟨fun a => ?_, fun a b => ?_, fun a b c => ?_, fun a b => ?_⟩
 ·rw [h.2.2, e, if_pos a]; rfl
 ·rw [h.2.2, e, if_neg a, if_pos (by omega)]; rfl
 ·rw [h.2.2, e, if_neg a, if_neg (by omega), if_pos c]; rfl
 ·obtain ⟨s1, s2⟩ := oneS_stop a
  rw [List.length_drop] at s2
  refine ⟨s1, by omega, by simp; omega, ?_⟩
  rw [h.2.2, e, if_neg (by omega), if_neg (by omega), if_neg (by omega), appS_cons, List.drop_drop]
  rw [show p + ((oneS (l.drop p) p).2.stop - p) = (oneS (l.drop p) p).2.stop by omega]
  congr 2
  simp; omega
end
section
open Go

inductive Wt where
 | mk (op num : Int) (l : List Wt)
def Wt.op : Wt → Int | .mk op _ _ => op
def Wt.num : Wt → Int | .mk _ num _ => num
def Wt.l : Wt → List Wt | .mk _ _ l => l
structure Us where
 name : ByteArray
 pos : Int
structure CoreT where
 word : ByteArray
 has : Bool
 minus : Bool
 num : Int
 caps : List Us
 pos : Int
structure WrapT where
 opn : Bool
 word : ByteArray
 sub : ByteArray
 nums : List Int
 caps : List Us
 when_ : Bool
 want : Wt
 pos : Int
structure HandT where
 name : ByteArray
 of_ : Us
 core : CoreT
 wraps : List WrapT
 room : Bool
 inbox : Int
 drop : Us
 after : List Us
 pos : Int
structure RouteT where
 filter : Us
 when_ : Bool
 want : Wt
 els : Bool
 to : Us
 pos : Int
structure TreeT where
 hands : List HandT
 routes : List RouteT
def usZ : Us := ⟨ByteArray.empty, 0⟩
def wtZ : Wt := .mk 0 0 []
def coreZ : CoreT := ⟨ByteArray.empty, false, false, 0, [], 0⟩
inductive PR (α : Type) where
 | ok (x : α) (a : Nat)
 | bad (pos err : Nat)
def PR.bind {α β : Type} (r : PR α) (f : α → Nat → PR β) : PR β := match r with
 | .ok x a => f x a
 | .bad p e => .bad p e
theorem PR.bind_ok {α β : Type} (x : α) (a : Nat) (f : α → Nat → PR β) : (PR.ok x a).bind f = f x a := rfl
theorem PR.bind_bad {α β : Type} (p e : Nat) (f : α → Nat → PR β) : (PR.bad p e : PR α).bind f = .bad p e := rfl
theorem PR.assoc {α β γ : Type} (r : PR α) (f : α → Nat → PR β) (g : β → Nat → PR γ) : (r.bind f).bind g = r.bind fun x a => (f x a).bind g := by cases r <;> rfl
structure Src where
 l : List UInt8
 ts : List Tok
section
variable (S : Src)
def kindP (a : Nat) : Nat := match S.ts[a]? with
 | some t => t.kind
 | none => 0
def posP (a : Nat) : Nat := match S.ts[a]? with
 | some t => t.pos
 | none => S.l.length
def nmT (t : Tok) : ByteArray := ba ((S.l.drop t.pos).take (t.stop - t.pos))
def nmP (a : Nat) : ByteArray := match S.ts[a]? with
 | some t => nmT S t
 | none => ByteArray.empty
def numT (a : Nat) : Nat := match S.ts[a]? with
 | some t => t.num
 | none => 0
def textT (a : Nat) : ByteArray := match S.ts[a]? with
 | some t => ba t.text
 | none => ByteArray.empty
def takeP (k a : Nat) : PR Bool := if kindP S a = k then .ok true (a + 1) else .ok false a
def wantP (k a : Nat) : PR Unit := if kindP S a = k then .ok () (a + 1) else .bad (posP S a) 70
def nameP (a : Nat) : PR Us := if kindP S a = 1 then .ok ⟨nmP S a, (posP S a : Nat)⟩ (a + 1) else .bad (posP S a) 70
def numP (a : Nat) : PR Int := if kindP S a = 2 then .ok (numT S a : Nat) (a + 1) else .bad (posP S a) 70
def moreU : Nat → List Us → Nat → PR (List Us)
 | 0, acc, a => .ok acc a
 | f + 1, acc, a => if kindP S a = 19 then (nameP S (a + 1)).bind fun u a => moreU f (acc ++ [u]) a else .ok acc a
def fuel : Nat := S.ts.length + 1
def listP (a : Nat) : PR (List Us) := (nameP S a).bind fun u a => moreU S (fuel S) [u] a
def kindWords : List (List UInt8) := [[110, 105, 108], [105, 110, 116], [107, 101, 121], [102, 108, 111, 97, 116], [116, 101, 120, 116], [110, 97, 109, 101], [98, 111, 111, 108], [98, 121, 116, 101, 115], [108, 105, 115, 116], [112, 97, 105, 114], [101, 114, 114, 111, 114], [112, 111, 105, 110, 116, 101, 114], [110, 111, 112, 111, 105, 110, 116, 101, 114], [117, 110, 105, 116]]
def faceWords : List (List UInt8) := [[115, 105, 122, 101, 100], [110, 97, 109, 101, 100], [102, 97, 105, 108, 105, 110, 103], [111, 112, 101, 110, 105, 110, 103], [111, 114, 100, 101, 114, 101, 100], [97, 100, 100, 105, 110, 103], [108, 97, 98, 101, 108, 108, 101, 100], [109, 101, 97, 115, 117, 114, 101, 100], [110, 117, 109, 98, 101, 114], [119, 104, 111, 108, 101]]
def anyWord : List UInt8 := [97, 110, 121]
def fFrom : List (List UInt8) → Nat → List UInt8 → Option Nat
 | [], _, _ => none
 | w :: ws, n, s => if w = s then some n else fFrom ws (n + 1) s
def wordW (s : List UInt8) : Option Wt :=
 if s = anyWord then some (.mk 1 0 []) else match fFrom kindWords 0 s with
 | some k => some (.mk 2 (k : Nat) [])
 | none => match fFrom faceWords 0 s with
  | some k => some (.mk 3 (k : Nat) [])
  | none => none
def moreW (mark : Nat) (operand : Nat → PR Wt) : Nat → List Wt → Nat → PR (List Wt)
 | 0, acc, a => .ok acc a
 | f + 1, acc, a => if kindP S a = mark then (operand (a + 1)).bind fun x a => moreW mark operand f (acc ++ [x]) a else .ok acc a
def joinW (op : Int) (l : List Wt) : Wt := match l with
 | [x] => x
 | l => .mk op 0 l
def rowP (op : Int) (mark : Nat) (operand : Nat → PR Wt) (a : Nat) : PR Wt := (operand a).bind fun x a => (moreW S mark operand (fuel S) [x] a).bind fun l a => .ok (joinW op l) a
def oneP : Nat → Nat → Nat → PR Wt
 | 0, _, _ => .bad 0 0
 | f + 1, deep, a =>
  if kindP S a = 15 then (if deep = 32 then .bad (posP S a) 71 else (oneP f (deep + 1) (a + 1)).bind fun x a => .ok (.mk 6 0 [x]) a)
  else if kindP S a = 17 then (if deep = 32 then .bad (posP S a) 71 else (rowP S 4 25 (rowP S 5 16 (oneP f (deep + 1))) (a + 1)).bind fun x a => (wantP S 18 a).bind fun _ a => .ok x a)
  else if kindP S a = 1 then match wordW (nmP S a).data.toList with
   | some w => .ok w (a + 1)
   | none => .bad (posP S a) 72
  else .bad (posP S a) 70
def bothP (f deep : Nat) : Nat → PR Wt := rowP S 5 16 (oneP S f deep)
def eitherP (f deep : Nat) : Nat → PR Wt := rowP S 4 25 (bothP S f deep)
def wantW (a : Nat) : PR Wt := eitherP S (fuel S) 0 a
def coreP (a : Nat) : PR CoreT :=
 (nameP S a).bind fun u a => (takeP S 20 a).bind fun minus a =>
 (if minus = true ∨ kindP S a = 2 then (numP S a).bind fun n a => .ok (true, n) a else .ok (false, 0) a : PR (Bool × Int)).bind fun hn a =>
 (takeP S 5 a).bind fun c a => (if c = true then listP S a else .ok [] a).bind fun caps a => .ok ⟨u.name, hn.1, minus, hn.2, caps, u.pos⟩ a
def numsP : Nat → List Int → Nat → PR (List Int)
 | 0, acc, a => .ok acc a
 | f + 1, acc, a => if kindP S a = 2 then (numP S a).bind fun n a => numsP f (acc ++ [n]) a else .ok acc a
def wrapP (a : Nat) : PR WrapT :=
 (takeP S 11 a).bind fun o a => (nameP S a).bind fun u a => (takeP S 22 a).bind fun c a =>
 (if c = true then (nameP S a).bind fun s a => .ok s.name a else .ok ByteArray.empty a).bind fun sub a =>
 (numsP S 2 [] a).bind fun nums a => (takeP S 5 a).bind fun c a => (if c = true then listP S a else .ok [] a).bind fun caps a =>
 (takeP S 13 a).bind fun w a => (if w = true then wantW S a else .ok wtZ a).bind fun want a => .ok ⟨o, u.name, sub, nums, caps, w, want, u.pos⟩ a
def wrapsP : Nat → List WrapT → Nat → PR (List WrapT)
 | 0, acc, a => .ok acc a
 | f + 1, acc, a => (takeP S 14 a).bind fun t a => if t = true then (wrapP S a).bind fun x a => wrapsP f (acc ++ [x]) a else .ok acc a
def roomP (a : Nat) : PR (Bool × Int × Us) := (takeP S 9 a).bind fun r a => if r = true then (numP S a).bind fun n a => (takeP S 6 a).bind fun d a => (if d = true then nameP S a else .ok usZ a).bind fun u a => .ok (true, n, u) a else .ok (false, 0, usZ) a
def handlerP (a : Nat) : PR HandT :=
 (nameP S (a + 1)).bind fun nm b => (wantP S 24 b).bind fun _ b => (takeP S 10 b).bind fun o b =>
 (if o = true then (nameP S b).bind fun u b => .ok (u, coreZ) b else (coreP S b).bind fun c b => .ok (usZ, c) b : PR (Us × CoreT)).bind fun oc b =>
 (wrapsP S (fuel S) [] b).bind fun ws b => (roomP S b).bind fun r b => (takeP S 4 b).bind fun t b => (if t = true then listP S b else .ok [] b).bind fun af b =>
 (wantP S 23 b).bind fun _ b => .ok ⟨nm.name, oc.1, oc.2, ws, r.1, r.2.1, r.2.2, af, (posP S a : Nat)⟩ b
def routeP (a : Nat) : PR RouteT :=
 (wantP S 3 (a + 1)).bind fun _ b => (takeP S 13 b).bind fun w b =>
 (if w = true then (wantW S b).bind fun x b => .ok (x, false) b else (takeP S 7 b).bind fun e b => .ok (wtZ, e) b : PR (Wt × Bool)).bind fun we b =>
 (wantP S 21 b).bind fun _ b => (nameP S b).bind fun to b => (wantP S 23 b).bind fun _ b =>
 .ok ⟨⟨textT S (a + 1), (posP S (a + 1) : Nat)⟩, w, we.1, we.2, to, (posP S a : Nat)⟩ b
def configP : Nat → List HandT → List RouteT → Nat → PR TreeT
 | 0, hs, rs, a => .ok ⟨hs, rs⟩ a
 | f + 1, hs, rs, a =>
  if kindP S a = 0 then .ok ⟨hs, rs⟩ a
  else if kindP S a = 8 then (handlerP S a).bind fun h a => configP f (hs ++ [h]) rs a
  else if kindP S a = 12 then (routeP S a).bind fun r a => configP f hs (rs ++ [r]) a
  else .bad (posP S a) 70
end
inductive Parsed where
 | tree (t : TreeT)
 | fault (pos err : Nat)
def parseS (l : List UInt8) : Parsed := match scanS l with
 | .bad p e => .fault p e
 | .toks ts => match configP ⟨l, ts⟩ (ts.length + 1) [] [] 0 with
  | .ok t _ => .tree t
  | .bad p e => .fault p e
def wantS (l : List UInt8) : Option Wt := match scanS l with
 | .bad _ _ => none
 | .toks ts => match wantW ⟨l, ts⟩ 0 with
  | .ok w a => if kindP ⟨l, ts⟩ a = 0 then some w else none
  | .bad _ _ => none
end
section
open Go Go.RowKit
attribute [local go_sem ↓] Go.wp_at_zero Go.wp_at_succ

def FlP (P : Nat → Prop) (w : World) (k : Nat) (v : Value) (n : Nat) (cs : List Value) : Prop :=
 cs.length = n * k ∧ ∃ p cap, v = .slice p n cap ∧ n ≤ cap ∧ cap ≤ 9223372036854775807 ∧ (0 < n → ∃ b o, P b ∧ b < w.heap.size ∧ p = some ⟨b, o, none⟩ ∧ ∀ j u, cs[j]? = some u → w.cell? ⟨b, o + j, none⟩ = some u)
theorem cell_block {w w' : World} {b o : Nat} {v : Value} (h : w'.heap[b]? = w.heap[b]?) (hc : w.cell? ⟨b, o, none⟩ = some v) : w'.cell? ⟨b, o, none⟩ = some v := by
 rw [← hc]
 unfold World.cell?
 simp only [h]
theorem FlP.kept {P Q : Nat → Prop} {w w' : World} {k n : Nat} {v : Value} {cs : List Value} (h : FlP P w k v n cs) (hk : ∀ b, P b → b < w.heap.size → w'.heap[b]? = w.heap[b]? ∧ Q b) : FlP Q w' k v n cs := by
 obtain ⟨h0, p, cap, rfl, h1, h2, h3⟩ := h
 refine ⟨h0, p, cap, rfl, h1, h2, fun hn => ?_⟩
 obtain ⟨b, o, hP, hb, hp, hc⟩ := h3 hn
 obtain ⟨e, hQ⟩ := hk b hP hb
 have hkn : 0 < cs.length ∨ k = 0 := by
  rcases Nat.eq_zero_or_pos k with e | e
  ·exact .inr e
  ·left; rw [h0]; exact Nat.mul_pos hn e
 refine ⟨b, o, hQ, ?_, hp, fun j u hj => cell_block e (hc j u hj)⟩
 have : w'.heap[b]? ≠ none := by rw [e]; simp [hb]
 rcases Nat.lt_or_ge b w'.heap.size with h | h
 ·exact h
 ·exact absurd (Array.getElem?_eq_none h) this
theorem FlP.form {P : Nat → Prop} {w : World} {k n : Nat} {v : Value} {cs : List Value} (h : FlP P w k v n cs) : ∃ p cap, v = .slice p n cap := by
 obtain ⟨-, p, cap, rfl, -⟩ := h
 exact ⟨p, cap, rfl⟩
theorem FlP.nil (P : Nat → Prop) (w : World) (k : Nat) : FlP P w k (.slice none 0 0) 0 [] := ⟨by simp, none, 0, rfl, Nat.le_refl _, by omega, fun h => absurd h (Nat.lt_irrefl 0)⟩
theorem FlP.of_own {w : World} {base k n : Nat} {e : TypeId} {v : Value} {cs : List Value} (h : w.ownsRow base e k v n cs) : FlP (fun b => base ≤ b) w k v n cs := by
 have hl := h.lt
 refine ⟨h.1, ?_⟩
 rcases h.2 with ⟨rfl, rfl⟩ | ⟨g, cap, cur, rfl, -, -, h3, h4, -, -⟩
 ·exact ⟨none, 0, rfl, Nat.le_refl _, by omega, fun h => absurd h (Nat.lt_irrefl 0)⟩
 ·refine ⟨_, cap, rfl, h3, by unfold maxLen at h4; omega, fun _ => ⟨g, 0, (hl g rfl).1, (hl g rfl).2, rfl, fun j u hj => ?_⟩⟩
  have hjl : j < n * k := by rw [← h.1]; exact (List.getElem?_eq_some_iff.1 hj).1
  rw [Nat.zero_add, h.cellAt j hjl, hj]
def Us.cells (u : Us) : List Value := [.string u.name, .int .i64 u.pos]
def UsP (P : Nat → Prop) (w : World) (v : Value) (us : List Us) : Prop := FlP P w 2 v us.length (us.flatMap Us.cells)
theorem us_at : ∀ {us : List Us} {i : Nat} {u : Us}, us[i]? = some u → (us.flatMap Us.cells)[i * 2]? = some (.string u.name) ∧ (us.flatMap Us.cells)[i * 2 + 1]? = some (.int .i64 u.pos)
 | [], _, _, h => by cases h
 | y :: us, 0, u, h => by injection h with h; subst h; exact ⟨rfl, rfl⟩
 | y :: us, i + 1, u, h => by
  have ih := us_at (us := us) (i := i) h
  rw [List.flatMap_cons, show (i + 1) * 2 = i * 2 + 1 + 1 by omega, show i * 2 + 1 + 1 + 1 = (i * 2 + 1) + 1 + 1 by omega]
  exact ih
def WtP (P : Nat → Prop) (w : World) : Nat → List Value → Wt → Prop
 | 0, _, _ => False
 | k + 1, cs, .mk op num l => ∃ p cap, cs = [.int .i64 op, .int .i64 num, .slice p l.length cap] ∧ l.length ≤ cap ∧ cap ≤ 9223372036854775807 ∧
   (0 < l.length → ∃ b o, P b ∧ b < w.heap.size ∧ p = some ⟨b, o, none⟩ ∧ ∀ j t, l[j]? = some t → ∃ c0 c1 c2, w.cell? ⟨b, o + j * 3, none⟩ = some c0 ∧ w.cell? ⟨b, o + j * 3 + 1, none⟩ = some c1 ∧ w.cell? ⟨b, o + j * 3 + 2, none⟩ = some c2 ∧ WtP P w k [c0, c1, c2] t)
theorem WtP.kept {P Q : Nat → Prop} {w w' : World} (hk : ∀ b, P b → b < w.heap.size → w'.heap[b]? = w.heap[b]? ∧ Q b) : ∀ {k : Nat} {cs : List Value} {t : Wt}, WtP P w k cs t → WtP Q w' k cs t := by
 intro k
 induction k with
 | zero => intro cs t h; exact h
 | succ k ih =>
  intro cs t h
  obtain ⟨op, num, l⟩ := t
  obtain ⟨p, cap, h1, h2, h3, h4⟩ := h
  refine ⟨p, cap, h1, h2, h3, fun hn => ?_⟩
  obtain ⟨b, o, hP, hb, hp, hc⟩ := h4 hn
  obtain ⟨e, hQ⟩ := hk b hP hb
  refine ⟨b, o, hQ, ?_, hp, fun j t hj => ?_⟩
  ·have : w'.heap[b]? ≠ none := by rw [e]; simp [hb]
   rcases Nat.lt_or_ge b w'.heap.size with h | h
   ·exact h
   ·exact absurd (Array.getElem?_eq_none h) this
  ·obtain ⟨c0, c1, c2, q0, q1, q2, ht⟩ := hc j t hj
   exact ⟨c0, c1, c2, cell_block e q0, cell_block e q1, cell_block e q2, ih ht⟩
theorem WtP.succ {P : Nat → Prop} {w : World} : ∀ {k : Nat} {cs : List Value} {t : Wt}, WtP P w k cs t → WtP P w (k + 1) cs t := by
 intro k
 induction k with
 | zero => intro cs t h; exact h.elim
 | succ k ih =>
  intro cs t h
  obtain ⟨op, num, l⟩ := t
  obtain ⟨p, cap, h1, h2, h3, h4⟩ := h
  refine ⟨p, cap, h1, h2, h3, fun hn => ?_⟩
  obtain ⟨b, o, hP, hb, hp, hc⟩ := h4 hn
  refine ⟨b, o, hP, hb, hp, fun j t hj => ?_⟩
  obtain ⟨c0, c1, c2, q0, q1, q2, ht⟩ := hc j t hj
  exact ⟨c0, c1, c2, q0, q1, q2, ih ht⟩
theorem WtP.mono {P : Nat → Prop} {w : World} {k : Nat} {cs : List Value} {t : Wt} (h : WtP P w k cs t) : ∀ d, WtP P w (k + d) cs t
 | 0 => h
 | d + 1 => (WtP.mono h d).succ
theorem WtP.form {P : Nat → Prop} {w : World} {k : Nat} {cs : List Value} {t : Wt} (h : WtP P w k cs t) : ∃ k' p cap, k = k' + 1 ∧ cs = [.int .i64 t.op, .int .i64 t.num, .slice p t.l.length cap] := by
 cases k with
 | zero => exact h.elim
 | succ k =>
  obtain ⟨op, num, l⟩ := t
  obtain ⟨p, cap, h1, -⟩ := h
  exact ⟨k, p, cap, rfl, h1⟩
theorem WtP.part {P : Nat → Prop} {w : World} {k : Nat} {a0 a1 : Value} {p : Option Addr} {n cap : Nat} {t : Wt} (h : WtP P w (k + 1) [a0, a1, .slice p n cap] t) {j : Nat} {x : Wt} (hj : t.l[j]? = some x) :
  ∃ b o q m c, P b ∧ p = some ⟨b, o, none⟩ ∧ b < w.heap.size ∧ w.cell? ⟨b, o + j * 3, none⟩ = some (.int .i64 x.op) ∧ w.cell? ⟨b, o + j * 3 + 1, none⟩ = some (.int .i64 x.num) ∧ w.cell? ⟨b, o + j * 3 + 2, none⟩ = some (.slice q m c) ∧ m = x.l.length ∧ WtP P w k [.int .i64 x.op, .int .i64 x.num, .slice q m c] x := by
 obtain ⟨op, num, l⟩ := t
 obtain ⟨p', cap', e1, h2, h3, h4⟩ := h
 injection e1 with _ e1
 injection e1 with _ e1
 injection e1 with e1
 injection e1 with e1 e2 e3
 subst e1; subst e2; subst e3
 have hj : l[j]? = some x := hj
 obtain ⟨b, o, hP, hb, hp, hc⟩ := h4 (by have := (List.getElem?_eq_some_iff.1 hj).1; omega)
 obtain ⟨c0, c1, c2, q0, q1, q2, ht⟩ := hc j x hj
 have ht' := ht
 obtain ⟨k', q, c, -, e⟩ := ht.form
 injection e with a0 e
 injection e with a1 e
 injection e with a2
 subst a0; subst a1; subst a2
 exact ⟨b, o, q, _, c, hP, hp, hb, q0, q1, q2, rfl, ht'⟩
def NumsP (P : Nat → Prop) (w : World) (v : Value) (ns : List Int) : Prop := FlP P w 1 v ns.length (ns.map (Value.int .u64))
def CoreP (P : Nat → Prop) (w : World) (cs : List Value) (c : CoreT) : Prop := ∃ v, cs = [.string c.word, .bool c.has, .bool c.minus, .int .u64 c.num, v, .int .i64 c.pos] ∧ UsP P w v c.caps
def WrapP (P : Nat → Prop) (w : World) (k : Nat) (cs : List Value) (x : WrapT) : Prop := ∃ v u w0 w1 w2, cs = [.bool x.opn, .string x.word, .string x.sub, v, u, .bool x.when_, w0, w1, w2, .int .i64 x.pos] ∧ NumsP P w v x.nums ∧ UsP P w u x.caps ∧ WtP P w k [w0, w1, w2] x.want
def ListP {α : Type} (P : Nat → Prop) (w : World) (k : Nat) (R : List Value → α → Prop) (v : Value) (xs : List α) : Prop :=
 ∃ css : List (List Value), css.length = xs.length ∧ FlP P w k v xs.length css.flatten ∧ (∀ cs ∈ css, cs.length = k) ∧ ∀ (j : Nat) (cs : List Value) (x : α), css[j]? = some cs → xs[j]? = some x → R cs x
def HandP (P : Nat → Prop) (w : World) (k : Nat) (cs : List Value) (h : HandT) : Prop := ∃ c0 c1 c2 c3 c4 c5 v u, cs = [.string h.name, .string h.of_.name, .int .i64 h.of_.pos, c0, c1, c2, c3, c4, c5, v, .bool h.room, .int .u64 h.inbox, .string h.drop.name, .int .i64 h.drop.pos, u, .int .i64 h.pos] ∧ CoreP P w [c0, c1, c2, c3, c4, c5] h.core ∧ ListP P w 10 (WrapP P w k) v h.wraps ∧ UsP P w u h.after
def RouteP (P : Nat → Prop) (w : World) (k : Nat) (cs : List Value) (r : RouteT) : Prop := ∃ w0 w1 w2, cs = [.string r.filter.name, .int .i64 r.filter.pos, .bool r.when_, w0, w1, w2, .bool r.els, .string r.to.name, .int .i64 r.to.pos, .int .i64 r.pos] ∧ WtP P w k [w0, w1, w2] r.want
def TreeP (P : Nat → Prop) (w : World) (k : Nat) (vh vr : Value) (t : TreeT) : Prop := ListP P w 16 (HandP P w k) vh t.hands ∧ ListP P w 10 (RouteP P w k) vr t.routes
section
variable {P Q : Nat → Prop} {w w' : World} (hk : ∀ b, P b → b < w.heap.size → w'.heap[b]? = w.heap[b]? ∧ Q b)
include hk
theorem CoreP.kept {cs : List Value} {c : CoreT} (h : CoreP P w cs c) : CoreP Q w' cs c := by
 obtain ⟨v, e, h⟩ := h
 exact ⟨v, e, FlP.kept h hk⟩
theorem WrapP.kept {k : Nat} {cs : List Value} {x : WrapT} (h : WrapP P w k cs x) : WrapP Q w' k cs x := by
 obtain ⟨v, u, w0, w1, w2, e, h1, h2, h3⟩ := h
 exact ⟨v, u, w0, w1, w2, e, FlP.kept h1 hk, FlP.kept h2 hk, h3.kept hk⟩
theorem ListP.kept {α : Type} {k : Nat} {R R' : List Value → α → Prop} {v : Value} {xs : List α} (h : ListP P w k R v xs) (hR : ∀ cs x, R cs x → R' cs x) : ListP Q w' k R' v xs := by
 obtain ⟨css, h1, h2, h3, h4⟩ := h
 exact ⟨css, h1, h2.kept hk, h3, fun j cs x hc hx => hR cs x (h4 j cs x hc hx)⟩
theorem HandP.kept {k : Nat} {cs : List Value} {h : HandT} (hh : HandP P w k cs h) : HandP Q w' k cs h := by
 obtain ⟨c0, c1, c2, c3, c4, c5, v, u, e, h1, h2, h3⟩ := hh
 exact ⟨c0, c1, c2, c3, c4, c5, v, u, e, h1.kept hk, h2.kept hk fun _ _ h => h.kept hk, FlP.kept h3 hk⟩
theorem RouteP.kept {k : Nat} {cs : List Value} {r : RouteT} (h : RouteP P w k cs r) : RouteP Q w' k cs r := by
 obtain ⟨w0, w1, w2, e, h1⟩ := h
 exact ⟨w0, w1, w2, e, h1.kept hk⟩
theorem TreeP.kept {k : Nat} {vh vr : Value} {t : TreeT} (h : TreeP P w k vh vr t) : TreeP Q w' k vh vr t :=
 ⟨h.1.kept hk fun _ _ h => h.kept hk, h.2.kept hk fun _ _ h => h.kept hk⟩
end
def StrsP (P : Nat → Prop) (w : World) (v : Value) (l : List ByteArray) : Prop := FlP P w 1 v l.length (l.map Value.string)
def PsB (W : World) (B : Nat) (T : TypeId) (tv nv : Value) (size at_ fp fe deep : Int) : Prop := W.heap[B]? = some (.cells #[tv, nv, .int .i64 size, .int .i64 at_, .int .i64 fp, .int .i64 fe, .int .i64 deep] T (0, 0))
theorem PsB.cells {W : World} {B : Nat} {T : TypeId} {tv nv : Value} {size at_ fp fe deep : Int} (h : PsB W B T tv nv size at_ fp fe deep) :
  W.cell? ⟨B, 0, none⟩ = some tv ∧ W.cell? ⟨B, 1, none⟩ = some nv ∧ W.cell? ⟨B, 2, none⟩ = some (.int .i64 size) ∧ W.cell? ⟨B, 3, none⟩ = some (.int .i64 at_) ∧ W.cell? ⟨B, 4, none⟩ = some (.int .i64 fp) ∧ W.cell? ⟨B, 5, none⟩ = some (.int .i64 fe) ∧ W.cell? ⟨B, 6, none⟩ = some (.int .i64 deep) ∧ B < W.heap.size := by
 refine ⟨?_, ?_, ?_, ?_, ?_, ?_, ?_, (Array.getElem?_eq_some_iff.1 h).1⟩ <;> rw [cell_of_row _ _ _ _ _ _ h] <;> rfl
theorem PsB.free {W : World} {B : Nat} {T : TypeId} {tv nv : Value} {size at_ fp fe deep : Int} (h : PsB W B T tv nv size at_ fp fe deep) (j : Nat) : W.frozen? ⟨B, j, none⟩ = false := frozen_of_row W B j _ _ h
def tabV (ws : List (List UInt8)) : List Value := ws.map fun l => Value.string (ba l)
theorem tab_below {g : Nat} {l : List Value} {w w' : World} (h : w.rangeAt g 0 l) (hb : Below w.heap.size w w') : w'.rangeAt g 0 l := fun j v hv => by
 have h1 := h j v hv
 exact (hb.cell (World.block_lt_of_cell? w _ h1)).trans h1
structure Cx (W0 : World) (S : Src) (tv nv brk : Value) : Prop where
 toks : Tks W0 tv S.ts
 names : StrsP (fun _ => True) W0 nv (S.ts.map (nmT S))
 kinds : ∀ t ∈ S.ts, 1 ≤ t.kind ∧ t.kind ≤ 25
 few : S.ts.length ≤ 16384
 size : S.l.length ≤ 65536
 isb : ∃ T v, brk = .iface T v
 tk : W0.rangeAt 1 0 (tabV kindWords)
 tf : W0.rangeAt 2 0 (tabV faceWords)
 glob : W0.cell? ⟨0, 0, none⟩ = some brk
structure At (W0 W : World) (B : Nat) (T : TypeId) (S : Src) (tv nv : Value) (a deep : Nat) : Prop where
 box : ∃ fp fe : Int, PsB W B T tv nv (S.l.length : Nat) (a : Nat) fp fe (deep : Nat)
 bel : Below W0.heap.size W0 W
 lo : W0.heap.size ≤ B
 in_ : a ≤ S.ts.length
structure Thrown (W0 W : World) (B : Nat) (T : TypeId) (S : Src) (tv nv : Value) (pos err : Nat) : Prop where
 box : ∃ a deep : Int, PsB W B T tv nv (S.l.length : Nat) a (pos : Nat) (err : Nat) deep
 bel : Below W0.heap.size W0 W
def StepPost {α : Type} (W0 : World) (B : Nat) (T : TypeId) (S : Src) (tv nv brk : Value) (deep : Nat) (Rep : (Nat → Prop) → World → Value → α → Prop) (w : World) (r : PR α) (e : Ending) (w' : World) : Prop := match r with
 | .ok x a => ∃ v, e = .returned v ∧ Rep (fun b => w.heap.size ≤ b) w' v x ∧ At W0 w' B T S tv nv a deep ∧ w.grownBy w' (some B)
 | .bad p k => e = .panicked [{ v := brk, recovered := false }] ∧ Thrown W0 w' B T S tv nv p k ∧ w.grownBy w' (some B)
def Goes {α : Type} (R : (Nat → Prop) → World → List Value → α → Prop) : Prop := ∀ (P Q : Nat → Prop) (w w' : World), (∀ b, P b → b < w.heap.size → w'.heap[b]? = w.heap[b]? ∧ Q b) → ∀ cs x, R P w cs x → R Q w' cs x
def ORow {α : Type} (R : (Nat → Prop) → World → List Value → α → Prop) (base : Nat) (e : TypeId) (k : Nat) (W : World) (v : Value) (xs : List α) : Prop :=
 ∃ css : List (List Value), css.length = xs.length ∧ W.ownsRow base e k v xs.length css.flatten ∧ (∀ cs ∈ css, cs.length = k) ∧ ∀ (j : Nat) (cs : List Value) (x : α), css[j]? = some cs → xs[j]? = some x → R (fun b => base ≤ b ∧ some b ≠ v.ownBlock) W cs x
section
variable {α : Type} {R : (Nat → Prop) → World → List Value → α → Prop} {base : Nat} {e : TypeId} {k : Nat} {W W' : World} {v : Value} {xs : List α}
theorem ORow.nil (R : (Nat → Prop) → World → List Value → α → Prop) (base : Nat) (e : TypeId) (k : Nat) (W : World) : ORow R base e k W (.slice none 0 0) [] := ⟨[], rfl, World.ownsRow_nil _ _ _ _, fun cs h => absurd h List.not_mem_nil, fun j cs x h => by simp at h⟩
theorem ownsRow_heap {w w' : World} {base k n : Nat} {e : TypeId} {v : Value} {cs : List Value} (h : w.ownsRow base e k v n cs) (hk : ∀ b, v.ownBlock = some b → w'.heap[b]? = w.heap[b]?) : w'.ownsRow base e k v n cs := by
 refine ⟨h.1, ?_⟩
 rcases h.2 with h2 | ⟨g, cap, cur, rfl, h3, h4, h5⟩
 ·exact .inl h2
 ·exact .inr ⟨g, cap, cur, rfl, h3, (hk g rfl).trans h4, h5⟩
theorem ORow.lt (h : ORow R base e k W v xs) : ∀ b, v.ownBlock = some b → base ≤ b ∧ b < W.heap.size := by
 obtain ⟨css, -, ho, -⟩ := h
 exact fun b hb => ho.lt b hb
theorem ORow.kept (h : ORow R base e k W v xs) (hG : Goes R) (hk : ∀ b, b < W.heap.size → base ≤ b → W'.heap[b]? = W.heap[b]?) : ORow R base e k W' v xs := by
 have hl := h.lt
 obtain ⟨css, h1, h2, h3, h4⟩ := h
 exact ⟨css, h1, ownsRow_heap h2 fun b hb => hk b (hl b hb).2 (hl b hb).1, h3, fun j cs x hc hx => hG _ _ W W' (fun b hb hlt => ⟨hk b hlt hb.1, hb⟩) cs x (h4 j cs x hc hx)⟩
theorem ORow.shape (h : ORow R base e k W v xs) : ∃ q c, v = .slice q xs.length c := by
 obtain ⟨css, -, ho, -⟩ := h
 rcases ho.2 with ⟨rfl, h2⟩ | ⟨g, cap, cur, rfl, -⟩
 ·exact ⟨none, 0, by rw [h2]⟩
 ·exact ⟨_, _, rfl⟩
theorem ORow.snoc {W4 w6 : World} {v2 : Value} {cs : List Value} {x : α} {o : Obj} (hG : Goes R) (h : ORow R base e k W v xs) {css : List (List Value)} (hc1 : css.length = xs.length) (hc3 : ∀ cs ∈ css, cs.length = k) (hc4 : ∀ (j : Nat) (cs : List Value) (x : α), css[j]? = some cs → xs[j]? = some x → R (fun b => base ≤ b ∧ some b ≠ v.ownBlock) W4 cs x)
  (hx : R (fun b => W.heap.size ≤ b) W4 cs x) (hcs : cs.length = k) (hbW : base ≤ W.heap.size) (hg : (W4.alloc o).grownBy w6 v.ownBlock) (hloc : v2.ownBlock = v.ownBlock ∨ v2.ownBlock = some (W4.alloc o).heap.size) (hown : w6.ownsRow base e k v2 (xs.length + 1) (css.flatten ++ cs)) : ORow R base e k w6 v2 (xs ++ [x]) := by
 have hl := h.lt
 have hsz : (W4.alloc o).heap.size = W4.heap.size + 1 := by simp
 have hne : ∀ c, c < W4.heap.size → some c ≠ v.ownBlock → some c ≠ v2.ownBlock := fun c h1 h2 e => by
  rcases hloc with e2 | e2
  ·exact h2 (e.trans e2)
  ·rw [e2] at e; injection e with e; omega
 refine ⟨css ++ [cs], by simp [hc1], by rw [List.flatten_append, List.length_append]; simpa using hown, fun c hc => ?_, fun j c y hc hy => ?_⟩
 ·rcases List.mem_append.1 hc with hc | hc
  ·exact hc3 c hc
  ·rw [List.mem_singleton] at hc; rw [hc]; exact hcs
 ·by_cases hj : j < css.length
  ·rw [List.getElem?_append_left hj] at hc
   rw [List.getElem?_append_left (by omega)] at hy
   exact hG _ _ W4 w6 (fun b hb hlt => ⟨(hg.block b (by omega) hb.2).trans (Below.heap_alloc _ _ _ hlt), hb.1, hne b hlt hb.2⟩) c y (hc4 j c y hc hy)
  ·have hjl := (List.getElem?_eq_some_iff.1 hc).1
   rw [List.length_append, List.length_singleton] at hjl
   obtain rfl : j = css.length := by omega
   rw [List.getElem?_append_right (Nat.le_refl _), Nat.sub_self] at hc
   rw [hc1, List.getElem?_append_right (Nat.le_refl _), Nat.sub_self] at hy
   injection hc with hc
   injection hy with hy
   subst hc; subst hy
   refine hG _ _ W4 w6 (fun b hb hlt => ?_) _ _ hx
   have hbv : some b ≠ v.ownBlock := fun e => by have := (hl b e.symm).2; omega
   exact ⟨(hg.block b (by omega) hbv).trans (Below.heap_alloc _ _ _ hlt), by omega, hne b hlt hbv⟩
theorem ORow.list (h : ORow R base e k W v xs) (hG : Goes R) : ListP (fun b => base ≤ b) W k (R (fun b => base ≤ b) W) v xs := by
 obtain ⟨css, h1, h2, h3, h4⟩ := h
 exact ⟨css, h1, FlP.of_own h2, h3, fun j cs x hc hx => hG _ _ W W (fun b hb _ => ⟨rfl, hb.1⟩) cs x (h4 j cs x hc hx)⟩
end
def RUs (_ : Nat → Prop) (_ : World) (cs : List Value) (u : Us) : Prop := cs = u.cells
theorem goes_us : Goes RUs := fun _ _ _ _ _ _ _ h => h
def RWt (P : Nat → Prop) (w : World) (cs : List Value) (t : Wt) : Prop := ∃ k, WtP P w k cs t
theorem goes_wt : Goes RWt := fun _ _ _ _ hk _ _ ⟨k, h⟩ => ⟨k, h.kept hk⟩
end
section
set_option maxHeartbeats 4000000
set_option maxRecDepth 100000
open Go Go.RowKit
attribute [local go_sem ↓] Go.wp_at_zero Go.wp_at_succ

def PB (W0 : World) (B b : Nat) : Prop := W0.heap.size ≤ b ∧ b ≠ B
theorem bel_dn {B : Nat} {a w : World} (h : Below B a w) (n : Nat) : Below B a (w.drewN n) := ⟨h.os, h.tape, h.output, h.size, h.block⟩
theorem wp_post {Q : Exit → Act → World → Prop} {x : Exit} {a : Act} {W : World} (R : World → Prop) (h : R W) (H : ∀ W, R W → Q x a W) : Q x a W := H W h
theorem gr_refl (W : World) (r : Option Nat) : W.grownBy W r := ⟨rfl, rfl, rfl, Nat.le_refl _, fun _ _ _ => rfl⟩
theorem gr_set {w W : World} {B : Nat} (h : w.grownBy W (some B)) (o : Nat) (v : Value) : w.grownBy (W.setCell ⟨B, o, none⟩ v) (some B) := g_set h v
section
variable {W0 W W' : World} {B : Nat} {T : TypeId} {S : Src} {tv nv brk : Value} {a deep : Nat}
theorem Tks.tok {w : World} {v : Value} {ts : List Tok} (h : Tks w v ts) {a : Nat} {t : Tok} (ht : ts[a]? = some t) : ∃ b o cap, v = .slice (some ⟨b, o, none⟩) ts.length cap ∧ b < w.heap.size ∧
  w.cell? ⟨b, o + a * 5, none⟩ = some (.int .i64 (t.kind : Nat)) ∧ w.cell? ⟨b, o + a * 5 + 1, none⟩ = some (.int .i64 (t.pos : Nat)) ∧ w.cell? ⟨b, o + a * 5 + 2, none⟩ = some (.int .i64 (t.stop : Nat)) ∧ w.cell? ⟨b, o + a * 5 + 3, none⟩ = some (.int .u64 (t.num : Nat)) ∧ w.cell? ⟨b, o + a * 5 + 4, none⟩ = some (.string (ba t.text)) := by
 obtain ⟨p, cap, rfl, _, _, hc⟩ := h
 obtain ⟨b, o, rfl, hd⟩ := hc (by have := (List.getElem?_eq_some_iff.1 ht).1; omega)
 have g := hd a t ht
 simp only [← Nat.add_assoc] at g
 have h0 := g 0 _ rfl
 exact ⟨b, o, cap, rfl, World.block_lt_of_cell? w _ h0, h0, g 1 _ rfl, g 2 _ rfl, g 3 _ rfl, g 4 _ rfl⟩
theorem Tks.shape {w : World} {v : Value} {ts : List Tok} (h : Tks w v ts) : ∃ p cap, v = .slice p ts.length cap := by
 obtain ⟨p, cap, rfl, -⟩ := h
 exact ⟨p, cap, rfl⟩
theorem At.lt (h : At W0 W B T S tv nv a deep) : B < W.heap.size := by
 obtain ⟨fp, fe, hb⟩ := h.box
 exact hb.cells.2.2.2.2.2.2.2
theorem At.below (h : At W0 W B T S tv nv a deep) (hb : Below W.heap.size W W') : At W0 W' B T S tv nv a deep := by
 obtain ⟨fp, fe, hbx⟩ := h.box
 exact ⟨⟨fp, fe, (hb.block B h.lt).trans hbx⟩, h.bel.trans (hb.mono h.bel.size), h.lo, h.in_⟩
theorem kind_none (h : S.ts[a]? = none) : kindP S a = 0 := by unfold kindP; rw [h]
theorem kind_some {t : Tok} (h : S.ts[a]? = some t) : kindP S a = t.kind := by unfold kindP; rw [h]
theorem pos_none (h : S.ts[a]? = none) : posP S a = S.l.length := by unfold posP; rw [h]
theorem pos_some {t : Tok} (h : S.ts[a]? = some t) : posP S a = t.pos := by unfold posP; rw [h]
theorem kind_lt {k : Nat} (h : kindP S a = k) (hk : 0 < k) : a < S.ts.length := by
 rcases Nat.lt_or_ge a S.ts.length with h1 | h1
 ·exact h1
 ·rw [kind_none (List.getElem?_eq_none h1)] at h; omega
end
theorem tkind_any {W0 W : World} {B : Nat} {T : TypeId} {S : Src} {tv nv brk : Value} {a deep : Nat} (hC : Cx W0 S tv nv brk) (h : At W0 W B T S tv nv a deep) :
  Calls Tryz.prog 54 #[.pointer (some ⟨B, 0, none⟩)] W fun e w' => e = .returned (.int .i64 (kindP S a : Nat)) ∧ Below W.heap.size W w' := by
 obtain ⟨PP, hPP⟩ : ∃ PP : Ending → World → Prop, (fun e w' => e = .returned (.int .i64 (kindP S a : Nat)) ∧ Below W.heap.size W w') = PP := ⟨_, rfl⟩
 rw [hPP]
 have HPP := Lib.hid hPP
 have ht := hC.toks.below h.bel
 obtain ⟨p, cap, rfl⟩ := ht.shape
 obtain ⟨fp, fe, hbx⟩ := h.box
 obtain ⟨c0, -, -, c3, -, -, -, hbl⟩ := hbx.cells
 have hin := h.in_
 clear hPP
 by_cases hlt : a < S.ts.length
 ·obtain ⟨t, hat⟩ : ∃ t, S.ts[a]? = some t := ⟨_, List.getElem?_eq_getElem hlt⟩
  obtain ⟨b, o, cap', e, hb, k0, -⟩ := ht.tok hat
  injection e with e1 e2 e3
  subst e1
  have HK := Lib.hid (kind_some hat)
  have t1 : ((a : Int) == (S.ts.length : Int)) = false := beq_eq_false_iff_ne.2 (by omega)
  have hltI : (a : Int) < (S.ts.length : Int) := by omega
  have ha0 : (0 : Int) ≤ (a : Int) := by omega
  clear ht hat h hC hbx e2 e3
  go_enter Tryz.func54, Tryz.ntmps54
  go_wp2_with fail
  go_quiet (fail)
  go_wp2_with fail
  go_quiet (fail)
  go_wp2_with fail
  rw [← HPP.out]
  exact ⟨by rw [HK.out]; rfl, bel_dn (bel_dn (Below.refl _ _) _) _⟩
 ·obtain rfl : a = S.ts.length := by omega
  have HK := Lib.hid (kind_none (S := S) (a := S.ts.length) (List.getElem?_eq_none (Nat.le_refl _)))
  have t1 : ((S.ts.length : Int) == (S.ts.length : Int)) = true := by simp
  clear ht h hC hbx
  go_enter Tryz.func54, Tryz.ntmps54
  go_wp2_with fail
  go_quiet (fail)
  go_wp2_with fail
  rw [← HPP.out]
  exact ⟨by rw [HK.out]; rfl, bel_dn (Below.refl _ _) _⟩
theorem tpos_any {W0 W : World} {B : Nat} {T : TypeId} {S : Src} {tv nv brk : Value} {a deep : Nat} (hC : Cx W0 S tv nv brk) (h : At W0 W B T S tv nv a deep) :
  Calls Tryz.prog 102 #[.pointer (some ⟨B, 0, none⟩)] W fun e w' => e = .returned (.int .i64 (posP S a : Nat)) ∧ Below W.heap.size W w' := by
 obtain ⟨PP, hPP⟩ : ∃ PP : Ending → World → Prop, (fun e w' => e = .returned (.int .i64 (posP S a : Nat)) ∧ Below W.heap.size W w') = PP := ⟨_, rfl⟩
 rw [hPP]
 have HPP := Lib.hid hPP
 have ht := hC.toks.below h.bel
 obtain ⟨p, cap, rfl⟩ := ht.shape
 obtain ⟨fp, fe, hbx⟩ := h.box
 obtain ⟨c0, -, c2, c3, -, -, -, hbl⟩ := hbx.cells
 have hin := h.in_
 clear hPP
 by_cases hlt : a < S.ts.length
 ·obtain ⟨t, hat⟩ : ∃ t, S.ts[a]? = some t := ⟨_, List.getElem?_eq_getElem hlt⟩
  obtain ⟨b, o, cap', e, hb, -, k1, -⟩ := ht.tok hat
  injection e with e1 e2 e3
  subst e1
  have HK := Lib.hid (pos_some hat)
  have t1 : ((a : Int) == (S.ts.length : Int)) = false := beq_eq_false_iff_ne.2 (by omega)
  have hltI : (a : Int) < (S.ts.length : Int) := by omega
  have ha0 : (0 : Int) ≤ (a : Int) := by omega
  clear ht hat h hC hbx e2 e3
  go_enter Tryz.func102, Tryz.ntmps102
  go_wp2_with fail
  go_quiet (fail)
  go_wp2_with fail
  go_quiet (fail)
  go_wp2_with fail
  rw [← HPP.out]
  exact ⟨by rw [HK.out]; rfl, bel_dn (bel_dn (Below.refl _ _) _) _⟩
 ·obtain rfl : a = S.ts.length := by omega
  have HK := Lib.hid (pos_none (S := S) (a := S.ts.length) (List.getElem?_eq_none (Nat.le_refl _)))
  have t1 : ((S.ts.length : Int) == (S.ts.length : Int)) = true := by simp
  clear ht h hC hbx
  go_enter Tryz.func102, Tryz.ntmps102
  go_wp2_with fail
  go_quiet (fail)
  go_wp2_with fail
  rw [← HPP.out]
  exact ⟨by rw [HK.out]; rfl, bel_dn (Below.refl _ _) _⟩
def Fails (W0 : World) (B : Nat) (T : TypeId) (S : Src) (tv nv brk : Value) (w : World) (p k : Nat) (e : Ending) (w' : World) : Prop := e = .panicked [{ v := brk, recovered := false }] ∧ Thrown W0 w' B T S tv nv p k ∧ w.grownBy w' (some B)
theorem tfail_any {W0 W : World} {B : Nat} {T : TypeId} {S : Src} {tv nv brk : Value} {a deep : Nat} (hC : Cx W0 S tv nv brk) (h : At W0 W B T S tv nv a deep) (k : Nat) :
  Calls Tryz.prog 55 #[.pointer (some ⟨B, 0, none⟩), .int .i64 (k : Nat)] W (Fails W0 B T S tv nv brk W (posP S a) k) := by
 obtain ⟨PP, hPP⟩ : ∃ PP : Ending → World → Prop, Fails W0 B T S tv nv brk W (posP S a) k = PP := ⟨_, rfl⟩
 rw [hPP]
 have HPP := Lib.hid hPP
 obtain ⟨TB, bv, rfl⟩ := hC.isb
 have CP := Lib.hid (tpos_any hC h)
 have HA := Lib.hid h
 have hg0 : W.cell? ⟨0, 0, none⟩ = some (.iface TB bv) := (h.bel.cell (World.block_lt_of_cell? W0 _ hC.glob)).trans hC.glob
 have hgb : 0 ≠ B := by
  have h1 := World.block_lt_of_cell? W0 _ hC.glob
  have h2 := h.lo
  have h1 : 0 < W0.heap.size := h1
  omega
 have hgl : 0 < W.heap.size := World.block_lt_of_cell? W _ hg0
 clear hPP h hC
 go_enter Tryz.func55, Tryz.ntmps55
 go_wp2_with fail
 refine CP.out.mono ?_
 rintro e1 w1 ⟨rfl, hb1⟩
 have h1 := HA.out.below hb1
 obtain ⟨fp, fe, hbx⟩ := h1.box
 obtain ⟨c0, c1, c2, c3, c4, c5, c6, hbl⟩ := hbx.cells
 have f4 := hbx.free 4
 have f5 := hbx.free 5
 have hg1 := (hb1.cell (p := ⟨0, 0, none⟩) hgl).trans hg0
 have HBX := Lib.hid hbx
 have HB1 := Lib.hid hb1
 have HA1 := Lib.hid h1
 clear hbx hb1 h1 hg0
 go_wp2_with fail
 refine ⟨rfl, ?_⟩
 rw [← HPP.out]
 have hgr : w1.grownBy ((w1.setCell ⟨B, 4, none⟩ (.int .i64 (posP S a : Nat))).setCell ⟨B, 5, none⟩ (.int .i64 (k : Nat))) (some B) := g_set (g_set (g_refl w1 B) _) _
 have hlo := HA1.out.lo
 have hbw := HA1.out.bel
 refine ⟨rfl, ⟨⟨_, _, heap_setCell_same _ B 5 _ _ _ (heap_setCell_same w1 B 4 _ _ _ HBX.out)⟩, hbw.grown hgr hbw.size (fun j hj => by injection hj with hj; omega)⟩, ?_⟩
 exact ⟨(hgr.os).trans HB1.out.os, (hgr.tape).trans HB1.out.tape, (hgr.output).trans HB1.out.output, Nat.le_trans HB1.out.size hgr.size, fun j hj hne => (hgr.block j (Nat.lt_of_lt_of_le hj HB1.out.size) hne).trans (HB1.out.block j hj)⟩
end
section
set_option maxHeartbeats 4000000
set_option maxRecDepth 100000
open Go Go.RowKit
attribute [local go_sem ↓] Go.wp_at_zero Go.wp_at_succ

section
variable {W0 W W' : World} {B : Nat} {T : TypeId} {S : Src} {tv nv brk : Value} {a deep : Nat}
theorem At.step (h : At W0 W B T S tv nv a deep) {fp fe : Int} {a' : Nat} (hg : W.grownBy W' (some B)) (hb : PsB W' B T tv nv (S.l.length : Nat) (a' : Nat) fp fe (deep : Nat)) (hi : a' ≤ S.ts.length) : At W0 W' B T S tv nv a' deep :=
 ⟨⟨fp, fe, hb⟩, h.bel.grown hg h.bel.size (fun k hk => by injection hk with hk; have := h.lo; omega), h.lo, hi⟩
theorem g_of (hb : Below W.heap.size W W') : W.grownBy W' (some B) := g_below (g_refl W B) hb
theorem Fails.after {p k : Nat} {e : Ending} {w1 w' : World} (h : Fails W0 B T S tv nv brk w1 p k e w') (hg : W.grownBy w1 (some B)) : Fails W0 B T S tv nv brk W p k e w' := ⟨h.1, h.2.1, g_trans hg h.2.2⟩
end
theorem ttake_any {W0 W : World} {B : Nat} {T : TypeId} {S : Src} {tv nv brk : Value} {a deep : Nat} (hC : Cx W0 S tv nv brk) (h : At W0 W B T S tv nv a deep) (k : Nat) (hk : 0 < k) :
  Calls Tryz.prog 120 #[.pointer (some ⟨B, 0, none⟩), .int .i64 (k : Nat)] W fun e w' => e = .returned (.bool (decide (kindP S a = k))) ∧ At W0 w' B T S tv nv (if kindP S a = k then a + 1 else a) deep ∧ W.grownBy w' (some B) := by
 obtain ⟨PP, hPP⟩ : ∃ PP : Ending → World → Prop, (fun e w' => e = .returned (.bool (decide (kindP S a = k))) ∧ At W0 w' B T S tv nv (if kindP S a = k then a + 1 else a) deep ∧ W.grownBy w' (some B)) = PP := ⟨_, rfl⟩
 rw [hPP]
 have HPP := Lib.hid hPP
 have CK := Lib.hid (tkind_any hC h)
 have HA := Lib.hid h
 have hfew := hC.few
 clear hPP hC h
 by_cases he : kindP S a = k
 ·have HE := Lib.hid he
  have hlt := kind_lt he hk
  have t1 : ((kindP S a : Int) != (k : Int)) = false := by rw [bne_eq_false_iff_eq]; omega
  clear he
  go_enter Tryz.func120, Tryz.ntmps120
  go_wp2_with fail
  refine CK.out.mono ?_
  rintro e1 w1 ⟨rfl, hb1⟩
  have h1 := HA.out.below hb1
  obtain ⟨fp, fe, hbx⟩ := h1.box
  obtain ⟨c0, c1, c2, c3, c4, c5, c6, hbl⟩ := hbx.cells
  have f3 := hbx.free 3
  have HBX := Lib.hid hbx
  have HB1 := Lib.hid hb1
  have HA1 := Lib.hid h1
  have hadd : wrap64 ((a : Int) + 1) = ((a + 1 : Nat) : Int) := by unfold wrap64; omega
  clear hbx hb1 h1
  go_wp2_with fail
  rw [← HPP.out, HE.out]
  have hgr : w1.grownBy (w1.setCell ⟨B, 3, none⟩ (.int .i64 ((a + 1 : Nat) : Int))) (some B) := g_set (g_refl w1 B) _
  refine ⟨by simp, ?_, g_trans (g_of HB1.out) hgr⟩
  rw [if_pos rfl]
  exact HA1.out.step hgr (heap_setCell_same w1 B 3 _ _ _ HBX.out) (by omega)
 ·have HE := Lib.hid he
  have t1 : ((kindP S a : Int) != (k : Int)) = true := by rw [bne_iff_ne]; omega
  clear he
  go_enter Tryz.func120, Tryz.ntmps120
  go_wp2_with fail
  refine CK.out.mono ?_
  rintro e1 w1 ⟨rfl, hb1⟩
  have HB1 := Lib.hid hb1
  clear hb1
  go_wp2_with fail
  rw [← HPP.out]
  refine ⟨by rw [decide_eq_false HE.out]; rfl, ?_, g_of HB1.out⟩
  rw [if_neg HE.out]
  exact HA.out.below HB1.out
theorem twant_any {W0 W : World} {B : Nat} {T : TypeId} {S : Src} {tv nv brk : Value} {a deep : Nat} (hC : Cx W0 S tv nv brk) (h : At W0 W B T S tv nv a deep) (k : Nat) (hk : 0 < k) :
  Calls Tryz.prog 119 #[.pointer (some ⟨B, 0, none⟩), .int .i64 (k : Nat)] W (StepPost W0 B T S tv nv brk deep (fun _ _ v _ => v = .int .i64 (a : Nat)) W (wantP S k a)) := by
 obtain ⟨PP, hPP⟩ : ∃ PP : Ending → World → Prop, StepPost W0 B T S tv nv brk deep (fun _ _ v _ => v = .int .i64 (a : Nat)) W (wantP S k a) = PP := ⟨_, rfl⟩
 rw [hPP]
 have HPP := Lib.hid hPP
 have CT := Lib.hid (ttake_any hC h k hk)
 have HC := Lib.hid hC
 obtain ⟨fp, fe, hbx⟩ := h.box
 obtain ⟨c0, c1, c2, c3, c4, c5, c6, hbl⟩ := hbx.cells
 clear hPP hC h hbx
 by_cases he : kindP S a = k
 ·have HW : Hid (wantP S k a = .ok () (a + 1)) := by show _ = _; unfold wantP; rw [if_pos he]
  rw [decide_eq_true he, if_pos he] at CT
  clear he
  go_enter Tryz.func119, Tryz.ntmps119
  go_wp2_with fail
  refine CT.out.mono ?_
  rintro e1 w1 ⟨rfl, hA1, hg1⟩
  have HA1 := Lib.hid hA1
  have HG1 := Lib.hid hg1
  clear hA1 hg1
  go_wp2_with fail
  rw [← HPP.out, HW.out]
  exact ⟨_, rfl, rfl, HA1.out, HG1.out⟩
 ·have HW : Hid (wantP S k a = .bad (posP S a) 70) := by show _ = _; unfold wantP; rw [if_neg he]
  rw [decide_eq_false he, if_neg he] at CT
  clear he
  go_enter Tryz.func119, Tryz.ntmps119
  go_wp2_with fail
  refine CT.out.mono ?_
  rintro e1 w1 ⟨rfl, hA1, hg1⟩
  have CF : Hid (Calls Tryz.prog 55 #[.pointer (some ⟨B, 0, none⟩), .int .i64 70] w1 (Fails W0 B T S tv nv brk w1 (posP S a) 70)) := tfail_any HC.out hA1 70
  have HG1 := Lib.hid hg1
  clear hA1 hg1
  go_wp2_with fail
  refine CF.out.mono ?_
  rintro e2 w2 h2
  obtain ⟨rfl, h3⟩ := h2.after HG1.out
  refine ⟨rfl, ?_⟩
  rw [← HPP.out, HW.out]
  exact ⟨rfl, h3⟩
end
section
open Go Go.RowKit
theorem row2_ {w : World} {b : Nat} {v0 v1 : Value} {t : TypeId} {z : Nat × Nat} (h : w.heap[b]? = some (.cells #[v0, v1] t z)) : w.cell? ⟨b, 0, none⟩ = some v0 ∧ w.cell? ⟨b, 1, none⟩ = some v1 :=
  ⟨by rw [cell_of_row _ _ _ _ _ _ h]; rfl, by rw [cell_of_row _ _ _ _ _ _ h]; rfl⟩
theorem row3_ {w : World} {b : Nat} {v0 v1 v2 : Value} {t : TypeId} {z : Nat × Nat} (h : w.heap[b]? = some (.cells #[v0, v1, v2] t z)) : w.cell? ⟨b, 0, none⟩ = some v0 ∧ w.cell? ⟨b, 1, none⟩ = some v1 ∧ w.cell? ⟨b, 2, none⟩ = some v2 :=
  ⟨by rw [cell_of_row _ _ _ _ _ _ h]; rfl, by rw [cell_of_row _ _ _ _ _ _ h]; rfl, by rw [cell_of_row _ _ _ _ _ _ h]; rfl⟩
theorem row6_ {w : World} {b : Nat} {v0 v1 v2 v3 v4 v5 : Value} {t : TypeId} {z : Nat × Nat} (h : w.heap[b]? = some (.cells #[v0, v1, v2, v3, v4, v5] t z)) : w.cell? ⟨b, 0, none⟩ = some v0 ∧ w.cell? ⟨b, 1, none⟩ = some v1 ∧ w.cell? ⟨b, 2, none⟩ = some v2 ∧ w.cell? ⟨b, 3, none⟩ = some v3 ∧ w.cell? ⟨b, 4, none⟩ = some v4 ∧ w.cell? ⟨b, 5, none⟩ = some v5 :=
  ⟨by rw [cell_of_row _ _ _ _ _ _ h]; rfl, by rw [cell_of_row _ _ _ _ _ _ h]; rfl, by rw [cell_of_row _ _ _ _ _ _ h]; rfl, by rw [cell_of_row _ _ _ _ _ _ h]; rfl, by rw [cell_of_row _ _ _ _ _ _ h]; rfl, by rw [cell_of_row _ _ _ _ _ _ h]; rfl⟩
theorem row10_ {w : World} {b : Nat} {v0 v1 v2 v3 v4 v5 v6 v7 v8 v9 : Value} {t : TypeId} {z : Nat × Nat} (h : w.heap[b]? = some (.cells #[v0, v1, v2, v3, v4, v5, v6, v7, v8, v9] t z)) : w.cell? ⟨b, 0, none⟩ = some v0 ∧ w.cell? ⟨b, 1, none⟩ = some v1 ∧ w.cell? ⟨b, 2, none⟩ = some v2 ∧ w.cell? ⟨b, 3, none⟩ = some v3 ∧ w.cell? ⟨b, 4, none⟩ = some v4 ∧ w.cell? ⟨b, 5, none⟩ = some v5 ∧ w.cell? ⟨b, 6, none⟩ = some v6 ∧ w.cell? ⟨b, 7, none⟩ = some v7 ∧ w.cell? ⟨b, 8, none⟩ = some v8 ∧ w.cell? ⟨b, 9, none⟩ = some v9 :=
  ⟨by rw [cell_of_row _ _ _ _ _ _ h]; rfl, by rw [cell_of_row _ _ _ _ _ _ h]; rfl, by rw [cell_of_row _ _ _ _ _ _ h]; rfl, by rw [cell_of_row _ _ _ _ _ _ h]; rfl, by rw [cell_of_row _ _ _ _ _ _ h]; rfl, by rw [cell_of_row _ _ _ _ _ _ h]; rfl, by rw [cell_of_row _ _ _ _ _ _ h]; rfl, by rw [cell_of_row _ _ _ _ _ _ h]; rfl, by rw [cell_of_row _ _ _ _ _ _ h]; rfl, by rw [cell_of_row _ _ _ _ _ _ h]; rfl⟩
theorem row16_ {w : World} {b : Nat} {v0 v1 v2 v3 v4 v5 v6 v7 v8 v9 v10 v11 v12 v13 v14 v15 : Value} {t : TypeId} {z : Nat × Nat} (h : w.heap[b]? = some (.cells #[v0, v1, v2, v3, v4, v5, v6, v7, v8, v9, v10, v11, v12, v13, v14, v15] t z)) : w.cell? ⟨b, 0, none⟩ = some v0 ∧ w.cell? ⟨b, 1, none⟩ = some v1 ∧ w.cell? ⟨b, 2, none⟩ = some v2 ∧ w.cell? ⟨b, 3, none⟩ = some v3 ∧ w.cell? ⟨b, 4, none⟩ = some v4 ∧ w.cell? ⟨b, 5, none⟩ = some v5 ∧ w.cell? ⟨b, 6, none⟩ = some v6 ∧ w.cell? ⟨b, 7, none⟩ = some v7 ∧ w.cell? ⟨b, 8, none⟩ = some v8 ∧ w.cell? ⟨b, 9, none⟩ = some v9 ∧ w.cell? ⟨b, 10, none⟩ = some v10 ∧ w.cell? ⟨b, 11, none⟩ = some v11 ∧ w.cell? ⟨b, 12, none⟩ = some v12 ∧ w.cell? ⟨b, 13, none⟩ = some v13 ∧ w.cell? ⟨b, 14, none⟩ = some v14 ∧ w.cell? ⟨b, 15, none⟩ = some v15 :=
  ⟨by rw [cell_of_row _ _ _ _ _ _ h]; rfl, by rw [cell_of_row _ _ _ _ _ _ h]; rfl, by rw [cell_of_row _ _ _ _ _ _ h]; rfl, by rw [cell_of_row _ _ _ _ _ _ h]; rfl, by rw [cell_of_row _ _ _ _ _ _ h]; rfl, by rw [cell_of_row _ _ _ _ _ _ h]; rfl, by rw [cell_of_row _ _ _ _ _ _ h]; rfl, by rw [cell_of_row _ _ _ _ _ _ h]; rfl, by rw [cell_of_row _ _ _ _ _ _ h]; rfl, by rw [cell_of_row _ _ _ _ _ _ h]; rfl, by rw [cell_of_row _ _ _ _ _ _ h]; rfl, by rw [cell_of_row _ _ _ _ _ _ h]; rfl, by rw [cell_of_row _ _ _ _ _ _ h]; rfl, by rw [cell_of_row _ _ _ _ _ _ h]; rfl, by rw [cell_of_row _ _ _ _ _ _ h]; rfl, by rw [cell_of_row _ _ _ _ _ _ h]; rfl⟩
theorem puts_ {α : Type} : (∀ (l : List α) (i : Nat) (a : α), l.toArray.setIfInBounds i a = (l.set i a).toArray) ∧ (∀ (x : α) (l : List α) (a : α), (x :: l).set 0 a = a :: l) ∧ (∀ (x : α) (l : List α) (i : Nat) (a : α), (x :: l).set (i + 1) a = x :: l.set i a) ∧ (∀ (l : List α) (i : Nat) (h : i < l.toArray.size), l.toArray[i] = l[i]'(by simpa using h)) ∧ (∀ (x : α) (l : List α) (i : Nat) (h : i + 1 < (x :: l).length), (x :: l)[i + 1] = l[i]'(by simpa using h)) ∧ ∀ (x : α) (l : List α) (h : 0 < (x :: l).length), (x :: l)[0] = x :=
  ⟨fun _ _ _ => by simp, fun _ _ _ => rfl, fun _ _ _ _ => rfl, fun _ _ _ => rfl, fun _ _ _ _ => rfl, fun _ _ _ => rfl⟩
theorem aRow_ {W WA : World} {X : Nat} {cs : Array Value} {t : TypeId} (h1 : W.alloc (.cells cs t) = WA) (h2 : W.heap.size = X) : WA.heap[X]? = some (.cells cs t (0, 0)) := by rw [← h1, ← h2]; exact heap_alloc_new W _
end
section
open Go
theorem takeQ_ {P : Program} {md : Region.Mode} {ops : Array Oper} {Q : Exit → Act → World → Prop} {S : World → Prop} {i : Nat} {oi : Oper} {v : Value} {fuel : Nat} {listed : Array Bool} {a : Act} {w : World} (hi : ops[i]? = some oi)
    (h3 : (Region.noSelect ops && (Region.free md ops listed i && (Region.ready md ops listed).contains i)) = true) (hQ : ∀ c a w, Q (.panic c) (a.put oi.dst v) w → Q (.panic c) a w) (hw : Region.wanted oi (yielded ops a.tmps) = true)
    (hv : ∀ w', S w' → (execOp a.eval oi).run P w' = .ok (.value v) w') (hS : S w) (h : wpAnyH P md ops Q S fuel (listed.setIfInBounds i true) (a.put oi.dst v) w) : wpAnyH P md ops Q S (fuel + 1) listed a w := by
  rw [Bool.and_eq_true, Bool.and_eq_true] at h3
  exact wpAnyH_take hi h3.1 h3.2.1 h3.2.2 hQ (Or.inl ⟨hw, hv⟩) hS h
end
section
set_option maxHeartbeats 4000000
set_option maxRecDepth 100000
open Go Go.RowKit
attribute [local go_sem ↓] Go.wp_at_zero Go.wp_at_succ

def RepU (_ : Nat → Prop) (_ : World) (v : Value) (u : Us) : Prop := v = .agg #[.string u.name, .int .i64 u.pos]
theorem res_name {W : World} {B : Nat} {cs : Array Value} (h : W.heap[B]? = some (.cells cs 74 (0, 0))) (hs : cs.size = 2) (tmps : Array Value) (h4 : tmps.getD 2 undef = .pointer (some ⟨B, 0, none⟩)) :
  (results Tryz.f118 tmps).run Tryz.prog W = .ok (.agg cs) W := by
 have h4' : tmps[2]?.getD undef = .pointer (some ⟨B, 0, none⟩) := by simpa using h4
 have hl := run_loadVar_row (P := Tryz.prog) W B 74 74 cs (0, 0) _ h Tryz.underlying74 rfl (by rw [hs]; kernel_rfl)
 simp [results, Tryz.results118, h4', asAddr, hl]

theorem g_dr {a w : World} {r : Option Nat} (h : a.grownBy w r) : a.grownBy w.drew r := ⟨h.os, h.tape, h.output, h.size, h.block⟩
theorem StrsP.at_ {w : World} {v : Value} {l : List ByteArray} (h : StrsP (fun _ => True) w v l) {i : Nat} {s : ByteArray} (hs : l[i]? = some s) : ∃ b o cap, v = .slice (some ⟨b, o, none⟩) l.length cap ∧ b < w.heap.size ∧ w.cell? ⟨b, o + i, none⟩ = some (.string s) := by
 obtain ⟨-, p, cap, rfl, -, -, hc⟩ := h
 obtain ⟨b, o, -, hb, rfl, hd⟩ := hc (by have := (List.getElem?_eq_some_iff.1 hs).1; omega)
 exact ⟨b, o, cap, rfl, hb, hd i _ (by rw [List.getElem?_map, hs]; rfl)⟩
theorem StrsP.below {w w' : World} {v : Value} {l : List ByteArray} (h : StrsP (fun _ => True) w v l) (hb : Below w.heap.size w w') : StrsP (fun _ => True) w' v l := FlP.kept h fun b _ hl => ⟨hb.block b hl, trivial⟩
theorem tname_any {W0 W : World} {B : Nat} {T : TypeId} {S : Src} {tv nv brk : Value} {a deep : Nat} (hC : Cx W0 S tv nv brk) (h : At W0 W B T S tv nv a deep) :
  Calls Tryz.prog 118 #[.pointer (some ⟨B, 0, none⟩)] W (StepPost W0 B T S tv nv brk deep RepU W (nameP S a)) := by
 obtain ⟨PP, hPP⟩ : ∃ PP : Ending → World → Prop, StepPost W0 B T S tv nv brk deep RepU W (nameP S a) = PP := ⟨_, rfl⟩
 rw [hPP]
 have HPP := Lib.hid hPP
 have HC := Lib.hid hC
 have HA := Lib.hid h
 have CW : Hid (∀ W', Below W.heap.size W W' → Calls Tryz.prog 119 #[.pointer (some ⟨B, 0, none⟩), .int .i64 1] W' (StepPost W0 B T S tv nv brk deep (fun _ _ v _ => v = .int .i64 (a : Nat)) W' (wantP S 1 a))) := fun W' hb => twant_any hC (h.below hb) 1 (by omega)
 have hBl := h.lt
 clear hPP hC h
 by_cases he : kindP S a = 1
 ·have HN : Hid (nameP S a = .ok ⟨nmP S a, (posP S a : Nat)⟩ (a + 1)) := by show _ = _; unfold nameP; rw [if_pos he]
  have HW : Hid (wantP S 1 a = .ok () (a + 1)) := by show _ = _; unfold wantP; rw [if_pos he]
  rw [HW.out] at CW
  have hlt := kind_lt he (by omega)
  obtain ⟨t, hat⟩ : ∃ t, S.ts[a]? = some t := ⟨_, List.getElem?_eq_getElem hlt⟩
  have HNM : Hid (nmP S a = nmT S t) := by show _ = _; unfold nmP; rw [hat]
  have HPS := Lib.hid (pos_some hat)
  clear he
  go_enter Tryz.func118, Tryz.ntmps118
  go_wp2_with fail
  obtain ⟨X, hX⟩ : ∃ X, W.heap.size = X := ⟨_, rfl⟩
  have hz0 := heap_alloc_new W (.cells #[.string ⟨#[]⟩, .int .i64 0] 74)
  have hbA : Below W.heap.size W (W.alloc (.cells #[.string ⟨#[]⟩, .int .i64 0] 74)) := (Below.refl _ W).alloc (Nat.le_refl _) _
  rw [hX] at hz0 ⊢
  refine (CW.out _ hbA).mono ?_
  rintro e1 w1 ⟨v, rfl, rfl, hA1, hg1⟩
  have hXB : X ≠ B := by omega
  have hz1 : w1.heap[X]? = some (.cells #[.string ⟨#[]⟩, .int .i64 0] 74 (0, 0)) := (hg1.block X (by simp; omega) (fun e => hXB (by injection e))).trans hz0
  obtain ⟨b, o, cap, rfl, hb, -, k1, -⟩ := (HC.out.toks.below hA1.bel).tok hat
  obtain ⟨b2, o2, cap2, hnv, hb2, n0⟩ := (HC.out.names.below hA1.bel).at_ (show (S.ts.map (nmT S))[a]? = some (nmT S t) by rw [List.getElem?_map, hat]; rfl)
  rw [List.length_map] at hnv
  subst hnv
  obtain ⟨fp, fe, hbx⟩ := hA1.box
  obtain ⟨c0, c1, c2, c3, c4, c5, c6, hbl⟩ := hbx.cells
  obtain ⟨x0, x1⟩ := row2_ hz1
  have f0 := frozen_of_row w1 X 0 _ _ hz1
  have f1 := frozen_of_row w1 X 1 _ _ hz1
  have xl := (Array.getElem?_eq_some_iff.1 hz1).1
  have HZ := Lib.hid hz1
  have HA1 := Lib.hid hA1
  have HG1 : Hid (W.grownBy w1 (some B)) := g_trans (g_of hbA) hg1
  have hltI : (a : Int) < (S.ts.length : Int) := by omega
  have ha0 : (0 : Int) ≤ (a : Int) := by omega
  have HX := Lib.hid hX
  have hXW : W.heap.size ≤ X := by omega
  clear hz0 hz1 hA1 hg1 hbx hbA hat hX
  go_wp2_with fail
  go_region
  all_goals
   go_simp
   go_wp2_with fail
   refine wp_post (fun W' => W'.heap[X]? = some (.cells #[.string (nmT S t), .int .i64 (t.pos : Nat)] 74 (0, 0)) ∧ w1.grownBy W' (some X)) ⟨heap_setCell_same _ X 1 _ _ _ (heap_setCell_same w1 X 0 _ _ _ HZ.out), g_dr (g_set (g_set (g_refl w1 X) _) _)⟩ (fun W' hW => ?_)
   refine bodyPost_ret (res_name hW.1 rfl _ rfl) rfl ?_
   rw [← HPP.out, HN.out]
   refine ⟨_, rfl, by rw [HNM.out, HPS.out]; rfl, ?_, ?_⟩
   ·obtain ⟨fp, fe, hbx⟩ := HA1.out.box
    exact ⟨⟨fp, fe, (hW.2.block B hbl (fun e => hXB (by injection e with e; exact e.symm))).trans hbx⟩, HA1.out.bel.grown hW.2 HA1.out.bel.size (fun k hk => by injection hk with hk; have := HA.out.bel.size; omega), HA1.out.lo, HA1.out.in_⟩
   ·exact ⟨hW.2.os.trans HG1.out.os, hW.2.tape.trans HG1.out.tape, hW.2.output.trans HG1.out.output, Nat.le_trans HG1.out.size hW.2.size, fun j hj hne => (hW.2.block j (Nat.lt_of_lt_of_le hj HG1.out.size) (fun e => by injection e with e; omega)).trans (HG1.out.block j hj hne)⟩
 ·have HN : Hid (nameP S a = .bad (posP S a) 70) := by show _ = _; unfold nameP; rw [if_neg he]
  have HW : Hid (wantP S 1 a = .bad (posP S a) 70) := by show _ = _; unfold wantP; rw [if_neg he]
  rw [HW.out] at CW
  clear he
  go_enter Tryz.func118, Tryz.ntmps118
  go_wp2_with fail
  have hbA : Below W.heap.size W (W.alloc (.cells #[.string ⟨#[]⟩, .int .i64 0] 74)) := (Below.refl _ W).alloc (Nat.le_refl _) _
  refine (CW.out _ hbA).mono ?_
  rintro e1 w1 ⟨rfl, hA1, hg1⟩
  refine ⟨rfl, ?_⟩
  rw [← HPP.out, HN.out]
  exact ⟨rfl, hA1, g_trans (g_of hbA) hg1⟩
set_option linter.unusedSimpArgs false in
theorem tnumber_any {W0 W : World} {B : Nat} {T : TypeId} {S : Src} {tv nv brk : Value} {a deep : Nat} (hC : Cx W0 S tv nv brk) (h : At W0 W B T S tv nv a deep) :
  Calls Tryz.prog 123 #[.pointer (some ⟨B, 0, none⟩)] W (StepPost W0 B T S tv nv brk deep (fun _ _ v n => v = .int .u64 n) W (numP S a)) := by
 obtain ⟨PP, hPP⟩ : ∃ PP : Ending → World → Prop, StepPost W0 B T S tv nv brk deep (fun _ _ v n => v = .int .u64 n) W (numP S a) = PP := ⟨_, rfl⟩
 rw [hPP]
 have HPP := Lib.hid hPP
 have HC := Lib.hid hC
 have HA := Lib.hid h
 have CW : Hid (∀ W', Below W.heap.size W W' → Calls Tryz.prog 119 #[.pointer (some ⟨B, 0, none⟩), .int .i64 2] W' (StepPost W0 B T S tv nv brk deep (fun _ _ v _ => v = .int .i64 (a : Nat)) W' (wantP S 2 a))) := fun W' hb => twant_any hC (h.below hb) 2 (by omega)
 have HL : Hid (∀ W', At W0 W' B T S tv nv (a + 1) deep → W'.cell? ⟨B, 0, none⟩ = some tv) := fun W' h1 => by
  obtain ⟨fp, fe, hbx⟩ := h1.box
  exact hbx.cells.1
 have hBl := h.lt
 obtain ⟨fp, fe, hbx⟩ := h.box
 obtain ⟨c0, c1, c2, c3, c4, c5, c6, hbl⟩ := hbx.cells
 clear hPP hC h hbx
 by_cases he : kindP S a = 2
 ·have HN : Hid (numP S a = .ok (numT S a : Nat) (a + 1)) := by show _ = _; unfold numP; rw [if_pos he]
  have HW : Hid (wantP S 2 a = .ok () (a + 1)) := by show _ = _; unfold wantP; rw [if_pos he]
  rw [HW.out] at CW
  have hlt := kind_lt he (by omega)
  obtain ⟨t, hat⟩ : ∃ t, S.ts[a]? = some t := ⟨_, List.getElem?_eq_getElem hlt⟩
  have HNM : Hid (numT S a = t.num) := by show _ = _; unfold numT; rw [hat]
  obtain ⟨b, o, cap, rfl, hb, -, -, -, k3, -⟩ := (HC.out.toks.below HA.out.bel).tok hat
  have HK3 : Hid (∀ W', Below W0.heap.size W0 W' → W'.cell? ⟨b, o + a * 5 + 3, none⟩ = some (.int .u64 (t.num : Nat))) := fun W' hb => by
   obtain ⟨b', o', cap', e, -, -, -, -, k, -⟩ := (HC.out.toks.below hb).tok hat
   injection e with e
   injection e with e
   injection e with e1 e2
   subst e1; subst e2
   exact k
  have hltI : (a : Int) < (S.ts.length : Int) := by omega
  have ha0 : (0 : Int) ≤ (a : Int) := by omega
  clear he hat
  go_enter Tryz.func123, Tryz.ntmps123
  go_wp2_with fail
  go_region_held3 (fun W' => W'.cell? ⟨B, 0, none⟩ = some (.slice (some ⟨b, o, none⟩) S.ts.length cap) ∧ W'.cell? ⟨b, o + a * 5 + 3, none⟩ = some (.int .u64 (t.num : Nat))) (first | exact ⟨c0, k3⟩ | exact ⟨HL.out _ HA1.out, HK3.out _ HA1.out.bel⟩) (first
   | (go_at_call 119; (with_reducible refine (CW.out _ (Below.refl _ _).drew).mono ?_); rintro e1 w1 ⟨v, rfl, rfl, hA1, hg1⟩; have HA1 := Lib.hid hA1; have HG1 := Lib.hid hg1; clear hA1 hg1))
  all_goals
   go_simp
   go_wp2_with fail
   rw [← HPP.out, HN.out]
   exact ⟨_, rfl, by rw [HNM.out]; rfl, HA1.out, g_trans (g_of (Below.refl _ _).drew) HG1.out⟩
 ·have HN : Hid (numP S a = .bad (posP S a) 70) := by show _ = _; unfold numP; rw [if_neg he]
  have HW : Hid (wantP S 2 a = .bad (posP S a) 70) := by show _ = _; unfold wantP; rw [if_neg he]
  rw [HW.out] at CW
  clear he
  go_enter Tryz.func123, Tryz.ntmps123
  go_wp2_with fail
  refine wp_region_held_drew (S := fun W' => W'.cell? ⟨B, 0, none⟩ = some tv) (by kernel_rfl) c0 (fun hHeld => ?_)
  refine takeQ_ (i := 0) (v := ?_) rfl (by kernel_rfl) (fun _ _ _ h => h) (by rfl) ?_ (by assumption) ?_
  rotate_left
  focus (intro w' hSw; (try dsimp only at hSw); go_simp; try with_reducible rfl)
  (try simp only [Act.put, puts_])
  refine takeQ_ (i := 1) (v := ?_) rfl (by kernel_rfl) (fun _ _ _ h => h) (by rfl) ?_ (by assumption) ?_
  rotate_left
  focus (intro w' hSw; (try dsimp only at hSw); go_simp; try with_reducible rfl)
  (try simp only [Act.put, puts_])
  refine takeQ_ (i := 2) (v := ?_) rfl (by kernel_rfl) (fun _ _ _ h => h) (by rfl) ?_ (by assumption) ?_
  rotate_left
  focus (intro w' hSw; (try dsimp only at hSw); go_simp; try with_reducible rfl)
  (try simp only [Act.put, puts_])
  refine takeQ_ (i := 3) (v := ?_) rfl (by kernel_rfl) (fun _ _ _ h => h) (by rfl) ?_ (by assumption) ?_
  rotate_left
  focus (intro w' hSw; (try dsimp only at hSw); go_simp; try with_reducible rfl)
  (try simp only [Act.put, puts_])
  refine takeQ_ (i := 4) (v := ?_) rfl (by kernel_rfl) (fun _ _ _ h => h) (by rfl) ?_ (by assumption) ?_
  rotate_left
  focus (intro w' hSw; (try dsimp only at hSw); go_simp; try with_reducible rfl)
  (try simp only [Act.put, puts_])
  refine wpAnyH_ready (rs := [5]) (by kernel_rfl) (by simp) ?_
  refine AllReadyH.cons (o := _) rfl (fun K hK => ?_) AllReadyH.nil
  go_simp
  refine (CW.out _ (Below.refl _ _).drew).mono ?_
  rintro e1 w1 ⟨rfl, h1, h2⟩
  refine ⟨rfl, ?_⟩
  rw [← HPP.out, HN.out]
  exact ⟨rfl, h1, g_trans (g_of (Below.refl _ _).drew) h2⟩
end
section
open Go Go.RowKit
attribute [local go_sem ↓] Go.wp_at_zero Go.wp_at_succ

theorem goes_ok {α : Type} {R : (Nat → Prop) → World → List Value → α → Prop} (hG : Goes R) {base : Nat} {e : TypeId} {k B : Nat} {W W' : World} {v : Value} {xs : List α} (h : ORow R base e k W v xs) (hg : W.grownBy W' (some B)) (hb : B < base) : ORow R base e k W' v xs :=
 h.kept hG fun b hl hbb => hg.block b hl (fun e => by injection e with e; omega)
theorem info_use : (Tryz.prog.info? 74).map (fun i => (i.zero, i.size, i.bytes)) = some (some (.agg #[.string ByteArray.empty, .int .i64 0]), 2, 24) := by kernel_rfl
theorem info_of {P : Program} {t : TypeId} {z : Value} {n m : Nat} (h : (P.info? t).map (fun i => (i.zero, i.size, i.bytes)) = some (some z, n, m)) : ∃ i, P.info? t = some i ∧ i.zero = some z ∧ i.size = n ∧ i.bytes = m := by
 cases hi : P.info? t with
 | none => rw [hi] at h; cases h
 | some i =>
  rw [hi] at h
  injection h with h
  injection h with h1 h2
  injection h2 with h2 h3
  exact ⟨i, rfl, h1, h2, h3⟩
theorem news_flat (W : World) (cs : List Value) (t : TypeId) : ∀ j u, cs[j]? = some u → (W.alloc (.cells cs.toArray t)).cell? ((⟨W.heap.size, 0, none⟩ : Addr).add j) = some u := fun j u h => by
 have hadd : (⟨W.heap.size, 0, none⟩ : Addr).add j = ⟨W.heap.size, 0 + j, none⟩ := by unfold Addr.add; split <;> simp_all
 rw [hadd, Nat.zero_add, cell_of_row _ _ _ _ _ _ (heap_alloc_new W _)]
 simpa using h
theorem moreU_stop {S : Src} {f a : Nat} {acc : List Us} (h : kindP S a ≠ 19) : moreU S f acc a = .ok acc a := by
 cases f with
 | zero => rfl
 | succ f => unfold moreU; rw [if_neg h]
theorem moreU_go {S : Src} {f a : Nat} {acc : List Us} (h : kindP S a = 19) : moreU S (f + 1) acc a = (nameP S (a + 1)).bind fun u a => moreU S f (acc ++ [u]) a := by
 conv => lhs; unfold moreU
 rw [if_pos h]
theorem nameP_le {S : Src} {a b : Nat} {u : Us} (h : nameP S a = .ok u b) : b = a + 1 := by
 unfold nameP at h
 split at h
 ·injection h with _ h; exact h.symm
 ·cases h
def RepL (P : Nat → Prop) (w : World) (v : Value) (us : List Us) : Prop := UsP P w v us
theorem us_list {base : Nat} {W : World} {v : Value} {us : List Us} (h : ORow RUs base 74 2 W v us) : UsP (fun b => base ≤ b) W v us := by
 obtain ⟨css, h1, h2, h3, h4⟩ := h
 have e : css.flatten = us.flatMap Us.cells := by
  have : ∀ (css : List (List Value)) (us : List Us), css.length = us.length → (∀ (j : Nat) (cs : List Value) (x : Us), css[j]? = some cs → us[j]? = some x → cs = x.cells) → css.flatten = us.flatMap Us.cells := by
   intro css
   induction css with
   | nil => intro us hl _; cases us with
    | nil => rfl
    | cons u us => cases hl
   | cons c css ih => intro us hl hc; cases us with
    | nil => cases hl
    | cons u us =>
     rw [List.flatten_cons, List.flatMap_cons, hc 0 c u rfl rfl, ih us (by simpa using hl) fun j cs x h1 h2 => hc (j + 1) cs x h1 h2]
  exact this css us h1 h4
 have := FlP.of_own h2
 rw [e] at this
 exact this
theorem At.app {W0 w3 w6 : World} {B : Nat} {T : TypeId} {S : Src} {tv nv : Value} {a deep : Nat} {o : Obj} {r : Option Nat} (h : At W0 w3 B T S tv nv a deep) (hg : (w3.alloc o).grownBy w6 r) (hr : ∀ k, r = some k → B < k) : At W0 w6 B T S tv nv a deep := by
 have hl := h.lt
 have hb : Below w3.heap.size w3 (w3.alloc o) := (Below.refl _ _).alloc (Nat.le_refl _) _
 obtain ⟨fp, fe, hbx⟩ := (h.below hb).box
 have hbw := (h.below hb).bel
 have hlo := h.lo
 exact ⟨⟨fp, fe, (hg.block B (by rw [World.size_alloc]; omega) (fun e => Nat.lt_irrefl _ (hr B e.symm))).trans hbx⟩, hbw.grown hg hbw.size (fun k hk => by have := hr k hk; omega), hlo, h.in_⟩
theorem g_app {W w3 w6 : World} {B : Nat} {o : Obj} {r : Option Nat} (h : W.grownBy w3 (some B)) (hg : (w3.alloc o).grownBy w6 r) (hr : ∀ k, r = some k → W.heap.size ≤ k) : W.grownBy w6 (some B) := by
 have hs := h.size
 have hs2 := hg.size
 rw [World.size_alloc] at hs2
 exact ⟨hg.os.trans h.os, hg.tape.trans h.tape, hg.output.trans h.output, by omega, fun j hj hne => (hg.block j (by rw [World.size_alloc]; omega) (fun e => by have := hr j e.symm; omega)).trans ((Below.heap_alloc _ _ _ (by omega)).trans (h.block j hj hne))⟩
theorem at_cell {W0 W : World} {B : Nat} {T : TypeId} {S : Src} {tv nv : Value} {a deep : Nat} (h : At W0 W B T S tv nv a deep) : W.cell? ⟨B, 3, none⟩ = some (.int .i64 (a : Nat)) := by
 obtain ⟨fp, fe, hbx⟩ := h.box
 exact hbx.cells.2.2.2.1
def leftM (S : Src) (B : Nat) (w : World) : Nat := match w.cell? ⟨B, 3, none⟩ with
 | some (.int _ n) => S.ts.length - n.toNat
 | _ => 0
theorem left_at {W0 W : World} {B : Nat} {T : TypeId} {S : Src} {tv nv : Value} {a deep : Nat} (h : At W0 W B T S tv nv a deep) : leftM S B W = S.ts.length - a := by
 unfold leftM
 rw [at_cell h]
 show S.ts.length - (a : Int).toNat = _
 rw [Int.toNat_natCast]
set_option maxRecDepth 100000 in
set_option maxHeartbeats 4000000 in
theorem tlist_any {W0 W : World} {B : Nat} {T : TypeId} {S : Src} {tv nv brk : Value} {a deep : Nat} (hC : Cx W0 S tv nv brk) (h : At W0 W B T S tv nv a deep) :
  Calls Tryz.prog 124 #[.pointer (some ⟨B, 0, none⟩)] W (StepPost W0 B T S tv nv brk deep RepL W (listP S a)) := by
 obtain ⟨PP, hPP⟩ : ∃ PP : Ending → World → Prop, StepPost W0 B T S tv nv brk deep RepL W (listP S a) = PP := ⟨_, rfl⟩
 rw [hPP]
 have HPP := Lib.hid hPP
 have HC := Lib.hid hC
 have HA := Lib.hid h
 have hBl := h.lt
 have hfew := hC.few
 have CN := Lib.hid (tname_any hC h)
 obtain ⟨i0, hi, hz0, hz1, hz2⟩ := info_of info_use
 clear hPP hC h
 go_enter Tryz.func124, Tryz.ntmps124
 go_wp2_with fail
 cases hn : nameP S a with
 | bad p k =>
  have HN := Lib.hid hn
  rw [hn] at CN
  clear hn
  refine CN.out.mono ?_
  rintro e1 w1 ⟨rfl, h1, h2⟩
  refine ⟨rfl, ?_⟩
  rw [← HPP.out]
  unfold listP
  rw [HN.out]
  exact ⟨rfl, h1, h2⟩
 | ok u a1 =>
  have HN := Lib.hid hn
  rw [hn] at CN
  refine CN.out.mono ?_
  rintro e1 w1 ⟨v, rfl, hv, hA1, hg1⟩
  have hv : v = .agg #[.string u.name, .int .i64 u.pos] := hv
  subst hv
  obtain rfl := nameP_le hn
  have HL : Hid (listP S a = moreU S (fuel S) [u] (a + 1)) := by show listP S a = _; unfold listP; rw [HN.out]; rfl
  have hws := hg1.size
  have hr1 : ORow RUs W.heap.size 74 2 (w1.alloc (.cells #[.string u.name, .int .i64 u.pos] 74)) (.slice (some ⟨w1.heap.size, 0, none⟩) 1 1) [u] := ⟨[u.cells], rfl, World.ownsRow_lit _ _ 1 hws (by decide) rfl, fun cs hc => by rw [List.mem_singleton] at hc; subst hc; rfl, fun j cs x hc hx => by
   cases j with
   | zero => injection hc with hc; injection hx with hx; subst hc; subst hx; rfl
   | succ j => cases hc⟩
  have hb1 : Below w1.heap.size w1 (w1.alloc (.cells #[.string u.name, .int .i64 u.pos] 74)) := (Below.refl _ _).alloc (Nat.le_refl _) _
  have hA2 := hA1.below hb1
  have hg2 := g_below hg1 hb1
  have HR1 := Lib.hid hr1
  have HA2 := Lib.hid hA2
  have HG2 := Lib.hid hg2
  have hfu : S.ts.length < fuel S + (a + 1) := by unfold fuel; omega
  clear hn hr1 hb1 hA2 hg2 hA1 hg1 CN hws
  go_wp2_with fail
  go_loopw [3] (fun s3 wr => ∃ (f a' : Nat) (q : Option Addr) (c : Nat) (acc : List Us), s3 = .slice q acc.length c ∧ S.ts.length < f + a' ∧ acc.length ≤ a' ∧ Hid (listP S a = moreU S f acc a') ∧ Hid (ORow RUs W.heap.size 74 2 wr (.slice q acc.length c) acc) ∧ Hid (At W0 wr B T S tv nv a' deep) ∧ Hid (W.grownBy wr (some B)))
   (fun _ wr => leftM S B wr)
  case atStart => exact ⟨fuel S, a + 1, _, _, [u], rfl, hfu, by simp, HL.out, HR1.out, HA2.out, HG2.out⟩
  case round =>
   clear HL HR1 HA2 HG2 hfu
   obtain ⟨f, a', q, c, acc, rfl, hfu, hac, HL, HR, HAr, HG⟩ := hrel
   have hin := HAr.out.in_
   have CT := Lib.hid (ttake_any HC.out HAr.out 19 (by omega))
   have HMR := Lib.hid (left_at HAr.out)
   by_cases hk : kindP S a' = 19
   ·have hlt := kind_lt hk (by omega)
    obtain ⟨f', rfl⟩ : ∃ f', f = f' + 1 := ⟨f - 1, by omega⟩
    have HL2 : Hid (listP S a = (nameP S (a' + 1)).bind fun u a => moreU S f' (acc ++ [u]) a) := by show listP S a = _; rw [HL.out, moreU_go hk]
    rw [decide_eq_true hk, if_pos hk] at CT
    clear hk
    go_wp2_with fail
    refine CT.out.mono ?_
    rintro e2 w2 ⟨rfl, hA2, hg2⟩
    have CN2 := Lib.hid (tname_any HC.out hA2)
    have HA2 := Lib.hid hA2
    have HG2 := Lib.hid (g_trans HG.out hg2)
    have HR2 := Lib.hid (goes_ok goes_us HR.out hg2 hBl)
    clear hA2 hg2
    go_wp2_with fail
    cases hn : nameP S (a' + 1) with
    | bad p k =>
     have HN := Lib.hid hn
     rw [hn] at CN2
     clear hn
     refine CN2.out.mono ?_
     rintro e3 w3 ⟨rfl, h1, h2⟩
     refine ⟨rfl, ?_⟩
     rw [← HPP.out, HL2.out, HN.out]
     exact ⟨rfl, h1, g_trans HG2.out h2⟩
    | ok u2 a2 =>
     have HN := Lib.hid hn
     rw [hn] at CN2
     obtain rfl := nameP_le hn
     refine CN2.out.mono ?_
     rintro e3 w3 ⟨v3, rfl, hv3, hA3, hg3⟩
     have hv3 : v3 = .agg #[.string u2.name, .int .i64 u2.pos] := hv3
     subst hv3
     have HL3 : Hid (listP S a = moreU S f' (acc ++ [u2]) (a' + 1 + 1)) := by show listP S a = _; rw [HL2.out, HN.out]; rfl
     obtain ⟨css, x1, x2, x3, x4⟩ := goes_ok goes_us HR2.out hg3 hBl
     have HX2 := Lib.hid x2
     have HX4 := Lib.hid x4
     have HX3 := Lib.hid x3
     have HA3 := Lib.hid hA3
     have HG3 := Lib.hid (g_trans HG2.out hg3)
     have hs3 := hg3.size
     have hs2 := HG2.out.size
     have hal : acc.length ≤ 20000 := by omega
     clear hn x2 x3 x4 hA3 hg3 CN2
     go_wp2_with (at_builtin; refine wpList_append_own_at _ rfl _ _ 76 rfl W.heap.size 74 i0 _ 2 24 Tryz.underlying76 hi hz0 hz1 hz2 rfl (by decide) _ _ _ rfl (HX2.out.alloc _) ⟨w3.heap.size, 0, none⟩ 1 1 [.string u2.name, .int .i64 u2.pos] rfl rfl (news_flat w3 _ _) (by intro u hu; simp at hu; rcases hu with rfl | rfl <;> rfl) (by unfold maxLen; omega) (by omega) (by simp; omega) ?_; intro v2 w6 hown2 hg6 hnil2 hloc2; have HOW2 := Lib.hid hown2; have HG6 := Lib.hid hg6; have HLOC := Lib.hid hloc2; clear hown2 hg6 hnil2 hloc2)
     have HK : Hid (ORow RUs W.heap.size 74 2 w6 v2 (acc ++ [u2])) := ORow.snoc goes_us HR2.out x1 HX3.out HX4.out (cs := u2.cells) rfl rfl (by omega) HG6.out HLOC.out HOW2.out
     have HA6 := Lib.hid (HA3.out.app HG6.out (fun k hk => by have := (HR2.out.lt k hk).1; omega))
     have HGW := Lib.hid (g_app HG3.out HG6.out (fun k hk => (HR2.out.lt k hk).1))
     have HM6 := Lib.hid (left_at HA6.out)
     obtain ⟨q6, c6, rfl⟩ := HK.out.shape
     go_roundw
     case rel => exact ⟨f', a' + 1 + 1, q6, c6, acc ++ [u2], rfl, by omega, by rw [List.length_append, List.length_singleton]; omega, HL3.out, HK.out, HA6.out, HGW.out⟩
     case measure => rw [HM6.out, HMR.out]; omega
   ·rw [decide_eq_false hk, if_neg hk] at CT
    have HL2 : Hid (listP S a = .ok acc a') := by show listP S a = _; rw [HL.out, moreU_stop hk]
    clear hk
    go_wp2_with fail
    refine CT.out.mono ?_
    rintro e2 w2 ⟨rfl, hA2, hg2⟩
    have HA2 := Lib.hid hA2
    have HG2 := Lib.hid (g_trans HG.out hg2)
    have HR2 := Lib.hid (goes_ok goes_us HR.out hg2 hBl)
    clear hA2 hg2
    go_wp2_with fail
    rw [← HPP.out, HL2.out]
    exact ⟨_, rfl, us_list HR2.out, HA2.out, HG2.out⟩
end
end Go.Proofs.YtbdllefnghddcaaGreatDoor
