/- WIRE: what holds while the program writes a value. -/
import Derived.Test.YtmncpbfghabamaaDoorWireTh
import Derived.Deep.RegionHeld3
import Derived.Deep.AppendLies
import Derived.Deep.DeepCutAuto
import Derived.Deep.CutBlock
import Derived.Deep.DrawnRows
namespace Go.Proofs.YtmncpbfghabamaaDoor
open Go Go.RowKit

theorem kind_byte (kd : Int) : bv (kindB kd) = .int .u8 (kd % 256) := by
  unfold bv kindB
  rw [byte_nat (by omega)]
  congr 1
  omega
theorem keep_cell {A w1 : World} {row : Option Nat} {b o : Nat} {v : Value} (hg : A.grownBy w1 row) (hlt : b < A.heap.size) (hne : some b ≠ row) (h : A.cell? ⟨b, o, none⟩ = some v) : w1.cell? ⟨b, o, none⟩ = some v := by
  have e := hg.block b hlt hne
  rw [← h]
  unfold World.cell?
  simp only [e]
theorem cells5 {W : World} {b : Nat} {t : TypeId} {c0 c1 c2 c3 c4 : Value} (h : W.heap[b]? = some (.cells #[c0, c1, c2, c3, c4] t (0, 0))) :
    W.cell? ⟨b, 0, none⟩ = some c0 ∧ W.cell? ⟨b, 1, none⟩ = some c1 ∧ W.cell? ⟨b, 2, none⟩ = some c2 ∧ W.cell? ⟨b, 3, none⟩ = some c3 ∧ W.cell? ⟨b, 4, none⟩ = some c4 ∧ b < W.heap.size := by
  refine ⟨?_, ?_, ?_, ?_, ?_, (Array.getElem?_eq_some_iff.1 h).1⟩ <;> simp [World.cell?, h]
/-- the writer, its row, and the value's own block -/
structure DSt (Bw base Bd : Nat) (cs : Array Value) (v : Value) (W : World) (l : List UInt8) (v1 : Value) (wx : World) : Prop where
  box : Boxed wx Bw 67 v1
  row : Row wx base v1 l
  grow : Grow (some Bw) v W v1 wx
  blk : wx.heap[Bd]? = some (.cells cs 25 (0, 0))
theorem DSt.drew {Bw base Bd : Nat} {cs : Array Value} {v v1 : Value} {W wx : World} {l : List UInt8} (h : DSt Bw base Bd cs v W l v1 wx) : DSt Bw base Bd cs v W l v1 wx.drew :=
  ⟨h.box, World.ownsRow.drew h.row, ⟨h.grow.os, h.grow.tape, h.grow.output, h.grow.size, h.grow.block, h.grow.at_⟩, h.blk⟩
/-- behind a call that writes -/
theorem DSt.post {Bw base Bd : Nat} {cs : Array Value} {v v1 v2 : Value} {W wx w2 : World} {l l2 : List UInt8} (h : DSt Bw base Bd cs v W l v1 wx) (hne : Bd ≠ Bw)
    (hb : Boxed w2 Bw 67 v2) (hr : Row w2 base v2 l2) (hg : Grow (some Bw) v1 wx v2 w2) : DSt Bw base Bd cs v W l2 v2 w2 :=
  ⟨hb, hr, h.grow.trans hg, hg.boxed h.blk (by intro e; exact hne (Option.some.inj e)) (not_row h.blk (by decide) h.row)⟩
/-- behind an append of a byte and its store -/
theorem DSt.append {Bw base Bd n' : Nat} {cs : Array Value} {v v1 v' : Value} {W wx w1 : World} {l : List UInt8} {x : UInt8} {u : Value} {tmp : Obj} (h : DSt Bw base Bd cs v W l v1 wx) (hne : Bd ≠ Bw) (hu : bv x = u) (hn : n' = l.length + 1)
    (hown' : w1.ownsRow base 5 1 v' n' (l.map bv ++ [u])) (hg : (wx.alloc tmp).grownBy w1 v1.ownBlock) (hat : v'.ownBlock = v1.ownBlock ∨ v'.ownBlock = some (wx.alloc tmp).heap.size) :
    DSt Bw base Bd cs v W (l ++ [x]) v' (w1.setCell ⟨Bw, 0, none⟩ v') := by
  subst hn
  obtain ⟨t1, t2, t3, -⟩ := grow_append h.box (by decide) h.row hown' hg hat
  exact h.post hne t1 (row_snoc t2 hu) t3
theorem DSt.appendBox {Bw base Bd : Nat} {cs : Array Value} {v v1 : Value} {W wx w1 : World} {l : List UInt8} {tmp : Obj} (h : DSt Bw base Bd cs v W l v1 wx) (hg : (wx.alloc tmp).grownBy w1 v1.ownBlock) :
    w1.cell? ⟨Bw, 0, none⟩ = some v1 ∧ w1.frozen? ⟨Bw, 0, none⟩ = false ∧ Bw < w1.heap.size :=
  have hv1 := (h.box.alloc tmp).kept hg (h.box.not_row (by decide) h.row)
  ⟨hv1.cell, hv1.frozen, hv1.lt⟩
theorem shift_byte {db d : Int} {j : Nat} (h : 0 ≤ db) (hd : d = ((2 ^ (8 * j) : Nat) : Int)) : bv (UInt8.ofNat (db.toNat / 2 ^ (8 * j) % 256)) = .int .u8 ((db / d) % 256) := by
  unfold bv
  rw [byte_nat (by omega), hd]
  congr 1
  rw [Int.natCast_emod, Int.natCast_ediv, Int.toNat_of_nonneg h]
  rfl
theorem run_shr64 (P : Program) (x : Int) (n : Nat) (hn : n < 64) (w : World) : (Op.shift .shr .u64 x .i64 (n : Int)).run P w = .ok (.int .u64 (x / ((2 ^ n : Nat) : Int))) w := by
  unfold Op.shift
  rw [if_neg (by omega)]
  have e : min n 64 = n := by omega
  simp only [Int.toNat_natCast, IntKind.bits, e, Sem.run_pure]
  rw [Int.fdiv_eq_ediv_of_nonneg _ (Int.pow_nonneg (by decide))]
  simp
theorem run_shr8 (P : Program) (x : Int) (j : Nat) (hj : j < 8) (w : World) : (Op.shift .shr .u64 x .i64 (IntKind.i64.wrap (8 * (j : Int)))).run P w = .ok (.int .u64 (x / ((2 ^ (8 * j) : Nat) : Int))) w := by
  rw [show IntKind.i64.wrap (8 * (j : Int)) = ((8 * j : Nat) : Int) by rw [IntWalk.i64_in _ (by omega)]; omega]
  exact run_shr64 P x (8 * j) (by omega) w
theorem encs_take {ps : List Dv} {j : Nat} {t : Dv} (h : ps[j]? = some t) : encs (ps.take (j + 1)) = encs (ps.take j) ++ enc t := by
  rw [List.take_add_one, h, encs_append]
  simp [encs]
theorem encs_part {ps : List Dv} {j : Nat} {t : Dv} (h : ps[j]? = some t) : (encs (ps.take j)).length + (enc t).length ≤ (encs ps).length := by
  have e : encs ps = encs (ps.take (j + 1)) ++ encs (ps.drop (j + 1)) := by rw [← encs_append, List.take_append_drop]
  have := congrArg List.length e
  rw [encs_take h, List.length_append, List.length_append] at this
  omega
theorem row_base {W : World} {base : Nat} {v : Value} {l : List UInt8} (h : Row W base v l) : ∀ k, v.ownBlock = some k → base ≤ k := by
  intro k e
  rcases h.2 with ⟨rfl, _⟩ | ⟨g, cap, cur, rfl, hb, _⟩
  · simp [Value.ownBlock] at e
  · have : g = k := by simpa [Value.ownBlock] using e
    omega
theorem Grow.ofAlloc {ex : Option Nat} {v v' : Value} {W W' : World} {o : Obj} (h : Grow ex v (W.alloc o) v' W') : Grow ex v W v' W' := by
  have hs := h.size
  simp only [World.size_alloc] at hs
  refine ⟨h.os, h.tape, h.output, by omega, fun k hk h1 h2 => ?_, ?_⟩
  · rw [h.block k (by simp; omega) h1 h2]
    exact Below.heap_alloc _ _ _ hk
  · rcases h.at_ with ha | ha
    · exact .inl ha
    · right; intro g e
      have := ha g e
      simp only [World.size_alloc] at this
      omega
end Go.Proofs.YtmncpbfghabamaaDoor
