/- WIRE: what a frame's reading answers. -/
import Derived.Test.YtmncpbfghabamaaDoorWireWMsg
import Derived.ScopeJumps
namespace Go.Proofs.YtmncpbfghabamaaDoor
open Go Go.RowKit

def msgF (l : List UInt8) : Option (List Int × ByteArray × ByteArray × Dv) :=
  match msgD l with
  | .done x k => if k = l.length ∧ fitB x.1 x.2.1 x.2.2.1 = true then some x else none
  | _ => none
theorem msgF_iff {l : List UInt8} {ns : List Int} {tp rp : ByteArray} {t : Dv} : msgOk l ns tp rp t ↔ msgF l = some (ns, tp, rp, t) := by
  unfold msgOk msgF
  cases hm : msgD l with
  | done x k =>
    simp only
    constructor
    · rintro ⟨h1, h2⟩
      injection h1 with h1 h3
      subst h1
      rw [if_pos ⟨h3, h2⟩]
    · intro h
      split at h
      · rename_i hc
        injection h with h
        subst h
        exact ⟨by rw [hc.1], hc.2⟩
      · cases h
  | short => simp
  | bad => simp
inductive DRes where
  | err (e : Int)
  | ok (x : List Int × ByteArray × ByteArray × Dv) (n : Nat)
def decN (l : List UInt8) (n u : Nat) : DRes :=
  if l.length < 2 + u + n + 2 then .err 260 else if crcB ((l.drop (2 + u)).take n) ≠ [l.getD (2 + u + n) 0, l.getD (2 + u + n + 1) 0] then .err 261 else
    match msgF ((l.drop (2 + u)).take n) with
    | none => .err 262
    | some x => .ok x (2 + u + n + 2)
def decM (l : List UInt8) : DRes :=
  match numD 16777216 0 0 (l.drop 2) with
  | .short => .err 260
  | .bad => .err 262
  | .done n u => decN l n u
def decD (l : List UInt8) : DRes :=
  if l.length = 0 then .err 260 else if (l.getD 0 0).toNat ≠ 167 then .err 262 else if l.length = 1 then .err 260 else if (l.getD 1 0).toNat ≠ 1 then .err 262 else decM l
theorem crcB_eq {b : List UInt8} {x y : UInt8} : crcB b = [x, y] ↔ (crc b).toNat / 256 = x.toNat ∧ (crc b).toNat % 256 = y.toNat := by
  have h : (crc b).toNat < 65536 := (crc b).isLt
  unfold crcB
  constructor
  · intro h1
    injection h1 with h1 h2
    injection h2 with h2
    rw [← h1, ← h2, byte_nat (by omega), byte_nat (by omega)]
    exact ⟨rfl, rfl⟩
  · rintro ⟨h1, h2⟩
    have e1 : UInt8.ofNat ((crc b).toNat / 256) = x := by rw [h1]; simp
    have e2 : UInt8.ofNat ((crc b).toNat % 256) = y := by rw [h2]; simp
    rw [e1, e2]
/-- what Decode answers -/
def DecOut (l : List UInt8) (w : World) (r : Ending) (W' : World) : Prop :=
  ∃ (n0 n1 n2 n3 n4 n5 : Int) (tp rp : ByteArray) (kd di db : Int) (ds : ByteArray) (q : Option Addr) (n c : Nat) (k e : Int), r = .returned (.tuple #[.agg #[.int .i64 n0, .string tp, .int .i64 kd, .int .i64 di, .int .u64 db, .string ds, .slice q n c, .int .i64 n1, .int .i64 n2, .string rp, .int .i64 n3, .int .i64 n4, .int .i64 n5], .int .i64 k, .int .i64 e]) ∧ Below w.heap.size w W' ∧
    match decD l with
    | .err e' => k = 0 ∧ e = e' ∧ #[.int .i64 n0, .string tp, .int .i64 kd, .int .i64 di, .int .u64 db, .string ds, .slice q n c, .int .i64 n1, .int .i64 n2, .string rp, .int .i64 n3, .int .i64 n4, .int .i64 n5] = (#[.int .i64 0, .string ⟨#[]⟩, .int .i64 0, .int .i64 0, .int .u64 0, .string ⟨#[]⟩, .slice none 0 0, .int .i64 0, .int .i64 0, .string ⟨#[]⟩, .int .i64 0, .int .i64 0, .int .i64 0] : Array Value)
    | .ok x m => k = (m : Nat) ∧ e = 0 ∧ x.1 = [n0, n1, n2, n3, n4, n5] ∧ x.2.1 = tp ∧ x.2.2.1 = rp ∧ DvIn (fun b => w.heap.size ≤ b) W' 16 [.int .i64 kd, .int .i64 di, .int .u64 db, .string ds, .slice q n c] x.2.2.2
/-- while a frame is read -/
structure PDec (w : World) (v : Value) (s : Cs) (wx : World) : Prop where
  rb : RB wx (w.heap.size + 1) v s
  res : wx.heap[w.heap.size]? = some (.cells #[.int .i64 0, .string ⟨#[]⟩, .int .i64 0, .int .i64 0, .int .u64 0, .string ⟨#[]⟩, .slice none 0 0, .int .i64 0, .int .i64 0, .string ⟨#[]⟩, .int .i64 0, .int .i64 0, .int .i64 0] 39 (0, 0))
  msg : wx.heap[w.heap.size + 1 + 1]? = some (.cells #[.int .i64 0, .string ⟨#[]⟩, .int .i64 0, .int .i64 0, .int .u64 0, .string ⟨#[]⟩, .slice none 0 0, .int .i64 0, .int .i64 0, .string ⟨#[]⟩, .int .i64 0, .int .i64 0, .int .i64 0] 39 (0, 0))
  below : Below w.heap.size w wx
theorem PDec.but {w wx w2 : World} {v : Value} {s s' : Cs} (h : PDec w v s wx) (hr : RB w2 (w.heap.size + 1) v s') (hb : But (w.heap.size + 1) wx w2) : PDec w v s' w2 :=
  ⟨hr, hb.boxed h.res (by omega), hb.boxed h.msg (by omega), h.below.trans ⟨hb.os, hb.tape, hb.output, hb.size, fun i hi => hb.block i (Nat.lt_of_lt_of_le hi h.below.size) (by omega)⟩⟩
theorem PDec.drewN {w wx : World} {v : Value} {s : Cs} (h : PDec w v s wx) (n : Nat) : PDec w v s (wx.drewN n) := ⟨h.rb, h.res, h.msg, ⟨h.below.os, h.below.tape, h.below.output, h.below.size, h.below.block⟩⟩
theorem PDec.grow {w wx w2 : World} {v : Value} {s : Cs} (h : PDec w v s wx) (hb : Below wx.heap.size wx w2) : PDec w v s w2 :=
  ⟨(hb.block _ (Array.getElem?_eq_some_iff.1 h.rb).1).trans h.rb, (hb.block _ (Array.getElem?_eq_some_iff.1 h.res).1).trans h.res, (hb.block _ (Array.getElem?_eq_some_iff.1 h.msg).1).trans h.msg, h.below.trans (hb.mono h.below.size)⟩
theorem Bs.addr {w : World} {p : Option Addr} {n cap : Nat} {l : List UInt8} (h : Bs w (.slice p n cap) l) (hl : 0 < l.length) : ∃ b o, p = some ⟨b, o, none⟩ ∧ ∀ j x, l[j]? = some x → w.cell? ⟨b, o + j, none⟩ = some (.int .u8 (x.toNat : Nat)) := by
  obtain ⟨p', cap', e, -, -, h3⟩ := h
  injection e with e1 e2 e3
  subst e1
  exact h3 hl
theorem res_wdec {W : World} {B : Nat} {cs : Array Value} {k e : Int} (h : W.heap[B]? = some (.cells cs 39 (0, 0))) (hs : cs.size = 13) (tmps : Array Value) (h2 : tmps.getD 2 undef = .pointer (some ⟨B, 0, none⟩)) (h3 : tmps.getD 3 undef = .int .i64 k) (h4 : tmps.getD 4 undef = .int .i64 e) :
    (results Tryd.f22 tmps).run Tryd.prog W = .ok (.tuple #[.agg cs, .int .i64 k, .int .i64 e]) W := by
  have h2' : tmps[2]?.getD undef = .pointer (some ⟨B, 0, none⟩) := by simpa using h2
  have h3' : tmps[3]?.getD undef = .int .i64 k := by simpa using h3
  have h4' : tmps[4]?.getD undef = .int .i64 e := by simpa using h4
  have hl := run_loadVar_row (P := Tryd.prog) W B 39 39 cs (0, 0) _ h Tryd.underlying39 rfl (by rw [hs]; kernel_rfl)
  simp [results, Tryd.results22, h2', h3', h4', asAddr, hl]
theorem arr_lit (n : Nat) (xs : Array Value) (h : xs.size = n) : xs = ((List.range n).map fun i => xs.getD i undef).toArray := by
  apply Array.ext
  · simp [h]
  · intro i h1 h2
    simp [Array.getD, h1]
theorem arr163 (xs : Array Value) (h : xs.size = 163) : ∃ u : Nat → Value, xs = #[u 0, u 1, u 2, u 3, u 4, u 5, u 6, u 7, u 8, u 9, u 10, u 11, u 12, u 13, u 14, u 15, u 16, u 17, u 18, u 19, u 20, u 21, u 22, u 23, u 24, u 25, u 26, u 27, u 28, u 29, u 30, u 31, u 32, u 33, u 34, u 35, u 36, u 37, u 38, u 39, u 40, u 41, u 42, u 43, u 44, u 45, u 46, u 47, u 48, u 49, u 50, u 51, u 52, u 53, u 54, u 55, u 56, u 57, u 58, u 59, u 60, u 61, u 62, u 63, u 64, u 65, u 66, u 67, u 68, u 69, u 70, u 71, u 72, u 73, u 74, u 75, u 76, u 77, u 78, u 79, u 80, u 81, u 82, u 83, u 84, u 85, u 86, u 87, u 88, u 89, u 90, u 91, u 92, u 93, u 94, u 95, u 96, u 97, u 98, u 99, u 100, u 101, u 102, u 103, u 104, u 105, u 106, u 107, u 108, u 109, u 110, u 111, u 112, u 113, u 114, u 115, u 116, u 117, u 118, u 119, u 120, u 121, u 122, u 123, u 124, u 125, u 126, u 127, u 128, u 129, u 130, u 131, u 132, u 133, u 134, u 135, u 136, u 137, u 138, u 139, u 140, u 141, u 142, u 143, u 144, u 145, u 146, u 147, u 148, u 149, u 150, u 151, u 152, u 153, u 154, u 155, u 156, u 157, u 158, u 159, u 160, u 161, u 162] := ⟨fun i => xs.getD i undef, arr_lit 163 xs h⟩
/-- what holds at the jump to the end -/
def DecJ (l : List UInt8) (w : World) (v : Value) (a : Act) (wx : World) : Prop :=
  a.defers = [] ∧ a.tmps.size = 163 ∧ a.tmps.getD 2 undef = .pointer (some ⟨w.heap.size, 0, none⟩) ∧ a.tmps.getD 5 undef = .pointer (some ⟨w.heap.size + 1, 0, none⟩) ∧ ∃ s : Cs, RB wx (w.heap.size + 1) v s ∧ wx.heap[w.heap.size]? = some (.cells #[.int .i64 0, .string ⟨#[]⟩, .int .i64 0, .int .i64 0, .int .u64 0, .string ⟨#[]⟩, .slice none 0 0, .int .i64 0, .int .i64 0, .string ⟨#[]⟩, .int .i64 0, .int .i64 0, .int .i64 0] 39 (0, 0)) ∧ Below w.heap.size w wx ∧ decD l = .err s.err
theorem byteR_none {l : List UInt8} {s : Cs} (he : s.err = 0) (h : ¬ s.pos < l.length) : byteR l s = (0, { s with err := 260 }) := by unfold byteR; rw [if_neg (by simp [he]), if_neg h]
theorem byteR_some {l : List UInt8} {s : Cs} (he : s.err = 0) (h : s.pos < l.length) : byteR l s = (l.getD s.pos 0, { s with pos := s.pos + 1 }) := by unfold byteR; rw [if_neg (by simp [he]), if_pos h]
theorem byteR_err {l : List UInt8} {s : Cs} (he : s.err ≠ 0) : byteR l s = (0, s) := by unfold byteR; rw [if_pos he]
end Go.Proofs.YtmncpbfghabamaaDoor
