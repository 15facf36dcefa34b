/- WIRE: bytes that grow: a row that a value holds, what else stays; a number's bytes; the writer's number. -/
import Derived.Test.YtmncpbfghabamaaDoorWireSumR
import Derived.RangeFuncBox
import Derived.Maps.AppendAt
import Derived.Lib.AppendStr
namespace Go.Proofs.YtmncpbfghabamaaDoor
open Go Go.RowKit

def bv (x : UInt8) : Value := .int .u8 (x.toNat : Nat)
theorem info_u8 : (Tryd.prog.info? 5).map (fun i => (i.zero, i.size, i.bytes)) = some (some (.int .u8 0), 1, 1) := by kernel_rfl
/-- the row that v holds -/
abbrev Row (W : World) (base : Nat) (v : Value) (l : List UInt8) : Prop := W.ownsRow base 5 1 v l.length (l.map bv)
theorem bs_of_own {w : World} {base : Nat} {v : Value} {l : List UInt8} (h : Row w base v l) : Bs w v l := by
  rcases h.2 with ⟨rfl, h0⟩ | ⟨g, cap, cur, rfl, hb, hg, h1, h2, h3, h4⟩
  · exact ⟨none, 0, by rw [h0], by omega, by omega, fun h => by omega⟩
  · refine ⟨_, cap, rfl, h1, by unfold maxLen at h2; omega, fun _ => ⟨g, 0, rfl, fun j x hj => ?_⟩⟩
    have hj' : j < l.length := (List.getElem?_eq_some_iff.1 hj).1
    have := h.cellAt j (by omega)
    rw [Nat.zero_add, this, List.getElem?_map, hj]; rfl
theorem Bs.below {w w' : World} {v : Value} {l : List UInt8} (h : Bs w v l) (hb : Below w.heap.size w w') : Bs w' v l := by
  obtain ⟨p, cap, hv, h1, h2, h3⟩ := h
  refine ⟨p, cap, hv, h1, h2, fun hn => ?_⟩
  obtain ⟨b, o, hp, hc⟩ := h3 hn
  exact ⟨b, o, hp, fun j x hj => (hb.cell (World.block_lt_of_cell? w _ (hc j x hj))).trans (hc j x hj)⟩
/-- what a writing leaves as it was: all blocks but the writer's and the row's; where the row lies then -/
structure Grow (ex : Option Nat) (v : Value) (W : World) (v' : Value) (W' : World) : Prop where
  os : W'.os = W.os
  tape : W'.tape = W.tape
  output : W'.output = W.output
  size : W.heap.size ≤ W'.heap.size
  block : ∀ k, k < W.heap.size → some k ≠ ex → some k ≠ v.ownBlock → W'.heap[k]? = W.heap[k]?
  at_ : v'.ownBlock = v.ownBlock ∨ ∀ g, v'.ownBlock = some g → W.heap.size ≤ g
theorem Grow.refl (ex : Option Nat) (v : Value) (W : World) : Grow ex v W v W := ⟨rfl, rfl, rfl, Nat.le_refl _, fun _ _ _ _ => rfl, .inl rfl⟩
theorem Grow.trans {ex : Option Nat} {v v1 v2 : Value} {W W1 W2 : World} (h : Grow ex v W v1 W1) (k : Grow ex v1 W1 v2 W2) : Grow ex v W v2 W2 := by
  refine ⟨k.os.trans h.os, k.tape.trans h.tape, k.output.trans h.output, Nat.le_trans h.size k.size, fun i hi h1 h2 => ?_, ?_⟩
  · refine (k.block i (Nat.lt_of_lt_of_le hi h.size) h1 fun e => ?_).trans (h.block i hi h1 h2)
    rcases h.at_ with ha | ha
    · exact h2 (e.trans ha)
    · have := ha i e.symm; omega
  · rcases k.at_ with ka | ka
    · rw [ka]; exact h.at_
    · exact .inr fun g hg => Nat.le_trans h.size (ka g hg)
/-- what lay below is as it was -/
theorem Grow.below {ex : Option Nat} {v v' : Value} {W W' a : World} {B : Nat} (h : Grow ex v W v' W') (hb : Below B a W) (hB : B ≤ W.heap.size) (hx : ∀ k, ex = some k → B ≤ k) (hv : ∀ k, v.ownBlock = some k → B ≤ k) : Below B a W' :=
  hb.trans ⟨h.os, h.tape, h.output, h.size, fun k hk => h.block k (by omega) (fun e => by have := hx k e.symm; omega) (fun e => by have := hv k e.symm; omega)⟩
theorem Grow.boxed {ex : Option Nat} {v v' : Value} {W W' : World} {B : Nat} {o : Obj} (h : Grow ex v W v' W') (hb : W.heap[B]? = some o) (hx : some B ≠ ex) (hv : some B ≠ v.ownBlock) : W'.heap[B]? = some o :=
  (h.block B (Array.getElem?_eq_some_iff.1 hb).1 hx hv).trans hb
/-- a block of another type is no row -/
theorem not_row {W : World} {B base : Nat} {t : TypeId} {cs : Array Value} {fr : Nat × Nat} {v : Value} {l : List UInt8} (h : W.heap[B]? = some (.cells cs t fr)) (ht : t ≠ 5) (hr : Row W base v l) : some B ≠ v.ownBlock := by
  rcases hr.2 with ⟨rfl, _⟩ | ⟨g, cap, cur, rfl, _, hg, _⟩
  · simp [Value.ownBlock]
  · intro e
    obtain rfl : B = g := by simpa [Value.ownBlock] using e
    rw [h] at hg
    injection hg with hg
    injection hg with _ hg
    exact ht hg
/-- an append to the writer's row, and the store of what came -/
theorem grow_append {W w1 : World} {Bw base n n' : Nat} {v v' : Value} {xs ys : List Value} {tmp : Obj} {t : TypeId} (hbox : Boxed W Bw t v) (ht : t ≠ 5) (hown : W.ownsRow base 5 1 v n xs) (hown' : w1.ownsRow base 5 1 v' n' ys)
    (hg : (W.alloc tmp).grownBy w1 v.ownBlock) (hat : v'.ownBlock = v.ownBlock ∨ v'.ownBlock = some (W.alloc tmp).heap.size) :
    Boxed (w1.setCell ⟨Bw, 0, none⟩ v') Bw t v' ∧ (w1.setCell ⟨Bw, 0, none⟩ v').ownsRow base 5 1 v' n' ys ∧ Grow (some Bw) v W v' (w1.setCell ⟨Bw, 0, none⟩ v') ∧ Boxed w1 Bw t v := by
  have hv1 : Boxed w1 Bw t v := (hbox.alloc tmp).kept hg (hbox.not_row ht hown)
  refine ⟨hv1.set v', hown'.kept (grownBy_setCell' w1 Bw v') (.inr (hv1.not_row ht hown').symm), ?_, hv1⟩
  have hsz := hg.size
  simp only [World.size_alloc] at hsz
  have e1 : (w1.setCell ⟨Bw, 0, none⟩ v').heap.size = w1.heap.size := by simp [World.setCell]
  refine ⟨hg.os, hg.tape, hg.output, by rw [e1]; omega, fun k hk h1 h2 => ?_, ?_⟩
  · rw [Below.heap_setCell _ _ _ _ (by intro e; exact h1 (by rw [e])), hg.block k (by simp; omega) h2]
    exact Below.heap_alloc _ _ _ hk
  · rcases hat with ha | ha
    · exact .inl ha
    · right; intro g e
      rw [ha] at e
      injection e with e
      rw [← e]; simp
/-- a number's bytes -/
def numB (x : Nat) : List UInt8 := if h : x < 128 then [UInt8.ofNat x] else UInt8.ofNat (x % 128 + 128) :: numB (x / 128)
termination_by x
decreasing_by omega
theorem numB_small {x : Nat} (h : x < 128) : numB x = [UInt8.ofNat x] := by rw [numB, dif_pos h]
theorem numB_big {x : Nat} (h : ¬ x < 128) : numB x = UInt8.ofNat (x % 128 + 128) :: numB (x / 128) := by rw [numB, dif_neg h]
theorem numB_len : ∀ (n x : Nat), x < 128 ^ (n + 1) → (numB x).length ≤ n + 1 := by
  intro n
  induction n with
  | zero => intro x h; rw [numB_small (by simpa using h)]; simp
  | succ n ih =>
    intro x h
    by_cases hx : x < 128
    · rw [numB_small hx]; simp
    · rw [numB_big hx, List.length_cons]
      have := ih (x / 128) (by rw [Nat.pow_succ] at h; omega)
      omega
theorem numB_ten {x : Nat} (h : x < 18446744073709551616) : (numB x).length ≤ 10 := numB_len 9 x (by omega)
theorem byte_nat {n : Nat} (h : n < 256) : ((UInt8.ofNat n).toNat : Nat) = n := by simp; omega
theorem or_top (y : Nat) : bits .or .u8 (((y : Nat) : Int) % 256) 128 = ((y % 128 + 128 : Nat) : Int) := by
  have e : ((y : Nat) : Int) % 256 = ((y % 256 : Nat) : Int) := by simp
  have h := u8_or_nat (y % 256) 128 (by omega) (by omega)
  rw [show ((128 : Nat) : Int) = 128 from rfl] at h
  rw [e, h]
  congr 1
  have h1 : y % 256 = (y % 128) + 128 * (y / 128 % 2) := by omega
  rcases Nat.mod_two_eq_zero_or_one (y / 128) with h2 | h2
  · rw [h1, h2, Nat.mul_zero, Nat.add_zero]
    have := Nat.two_pow_add_eq_or_of_lt (i := 7) (b := y % 128) (by omega) 1
    rw [Nat.or_comm]
    simp at this
    omega
  · rw [h1, h2]
    have h3 : y % 128 + 128 * 1 = 128 ||| (y % 128) := by
      have := Nat.two_pow_add_eq_or_of_lt (i := 7) (b := y % 128) (by omega) 1
      simp at this
      omega
    rw [h3, Nat.or_comm, ← Nat.or_assoc, Nat.or_self]
end Go.Proofs.YtmncpbfghabamaaDoor
