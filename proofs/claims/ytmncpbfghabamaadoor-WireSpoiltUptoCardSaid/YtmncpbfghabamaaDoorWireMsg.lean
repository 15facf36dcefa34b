/- WIRE: a message's bytes. -/
import Derived.Test.YtmncpbfghabamaaDoorWireEnc
import Derived.Deep.RegionLaw
namespace Go.Proofs.YtmncpbfghabamaaDoor
open Go Go.RowKit

def sigsB (l : List Int) : List UInt8 := l.flatMap fun x => numB (zig x)
def txtB (s : ByteArray) : List UInt8 := numB s.size ++ s.data.toList
def bodyB (ns : List Int) (tp rp : ByteArray) (t : Dv) : List UInt8 := sigsB ns ++ txtB tp ++ txtB rp ++ enc t
def crcB (b : List UInt8) : List UInt8 := [UInt8.ofNat ((crc b).toNat / 256), UInt8.ofNat ((crc b).toNat % 256)]
def frameB (b : List UInt8) : List UInt8 := if 16777216 < b.length then [] else [167, 1] ++ numB b.length ++ b ++ crcB b
theorem sigsB_next {l : List Int} {j : Nat} {x : Int} (h : l[j]? = some x) : sigsB (l.take (j + 1)) = sigsB (l.take j) ++ numB (zig x) := by
  unfold sigsB
  rw [List.take_add_one, h]
  simp
theorem sigsB_len : ∀ (l : List Int), (∀ x ∈ l, I64 x) → (sigsB l).length ≤ 10 * l.length
  | [], _ => by simp [sigsB]
  | x :: r, h => by
    have h1 := sigsB_len r (fun y hy => h y (List.mem_cons_of_mem _ hy))
    have h2 := h x (List.mem_cons_self ..)
    have h3 := numB_ten (zig_lt h2.1 h2.2)
    unfold sigsB at h1 ⊢
    simp only [List.flatMap_cons, List.length_append, List.length_cons]
    omega
theorem enc_pos (t : Dv) : 0 < (enc t).length := by cases t; simp [enc]
/-- a row of two bytes -/
theorem row_two {W : World} {base : Nat} {x y : UInt8} {a b : Value} (hb : base ≤ W.heap.size) (ha : bv x = a) (hb2 : bv y = b) : Row (W.alloc (.cells #[a, b] 5)) base (.slice (some ⟨W.heap.size, 0, none⟩) 2 2) [x, y] := by
  subst ha; subst hb2
  exact ⟨rfl, .inr ⟨W.heap.size, 2, _, rfl, hb, heap_alloc_new W _, Nat.le_refl _, by unfold maxLen; omega, rfl, rfl⟩⟩
theorem row_block {W W' : World} {base g n c : Nat} {l : List UInt8} (h : Row W base (.slice (some ⟨g, 0, none⟩) n c) l) (hb : W'.heap[g]? = W.heap[g]?) : Row W' base (.slice (some ⟨g, 0, none⟩) n c) l := by
  obtain ⟨h0, h1⟩ := h
  rcases h1 with ⟨h1, -⟩ | ⟨g', cap', cur, e1, hbb, hg, h2⟩
  · cases h1
  · have e2 := e1
    injection e2 with e2 _ _
    injection e2 with e2
    injection e2 with e2
    subst e2
    exact ⟨h0, .inr ⟨g, cap', cur, e1, hbb, hb.trans hg, h2⟩⟩
/-- what holds while a message is written -/
structure MSt (w : World) (Bm Bw Bs : Nat) (cs ns : Array Value) (l : List UInt8) (v1 : Value) (wx : World) : Prop where
  box : Boxed wx Bw 67 v1
  row : Row wx w.heap.size v1 l
  below : Below w.heap.size w wx
  msg : wx.heap[Bm]? = some (.cells cs 39 (0, 0))
  num : wx.heap[Bs]? = some (.cells ns 2 (0, 0))
theorem MSt.post {w wx w2 : World} {Bm Bw Bs : Nat} {cs ns : Array Value} {l l2 : List UInt8} {v1 v2 : Value} (h : MSt w Bm Bw Bs cs ns l v1 wx) (hm : Bm ≠ Bw) (hs : Bs ≠ Bw) (hB : w.heap.size ≤ Bw)
    (hb : Boxed w2 Bw 67 v2) (hr : Row w2 w.heap.size v2 l2) (hg : Grow (some Bw) v1 wx v2 w2) : MSt w Bm Bw Bs cs ns l2 v2 w2 :=
  ⟨hb, hr, hg.below h.below h.below.size (fun k e => by injection e with e; omega) (row_base h.row), hg.boxed h.msg (fun e => hm (Option.some.inj e)) (not_row h.msg (by decide) h.row), hg.boxed h.num (fun e => hs (Option.some.inj e)) (not_row h.num (by decide) h.row)⟩
theorem cells13 {W : World} {b : Nat} {t : TypeId} {c0 c1 c2 c3 c4 c5 c6 c7 c8 c9 c10 c11 c12 : Value} (h : W.heap[b]? = some (.cells #[c0, c1, c2, c3, c4, c5, c6, c7, c8, c9, c10, c11, c12] t (0, 0))) :
    W.cell? ⟨b, 0, none⟩ = some c0 ∧ W.cell? ⟨b, 1, none⟩ = some c1 ∧ W.cell? ⟨b, 2, none⟩ = some c2 ∧ W.cell? ⟨b, 3, none⟩ = some c3 ∧ W.cell? ⟨b, 4, none⟩ = some c4 ∧ W.cell? ⟨b, 5, none⟩ = some c5 ∧ W.cell? ⟨b, 6, none⟩ = some c6 ∧ W.cell? ⟨b, 7, none⟩ = some c7 ∧ W.cell? ⟨b, 8, none⟩ = some c8 ∧ W.cell? ⟨b, 9, none⟩ = some c9 ∧ W.cell? ⟨b, 10, none⟩ = some c10 ∧ W.cell? ⟨b, 11, none⟩ = some c11 ∧ W.cell? ⟨b, 12, none⟩ = some c12 ∧ b < W.heap.size := by
  refine ⟨?_, ?_, ?_, ?_, ?_, ?_, ?_, ?_, ?_, ?_, ?_, ?_, ?_, (Array.getElem?_eq_some_iff.1 h).1⟩ <;> simp [World.cell?, h]
end Go.Proofs.YtmncpbfghabamaaDoor
