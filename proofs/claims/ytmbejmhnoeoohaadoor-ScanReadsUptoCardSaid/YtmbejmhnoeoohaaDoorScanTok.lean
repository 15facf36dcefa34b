/- THE PROGRAM's next: what it makes in memory. -/
import Derived.Test.YtmbejmhnoeoohaaDoorScanSkip
namespace Go.Proofs.YtmbejmhnoeoohaaDoor
open Go Go.RowKit

def tokV (t : Tok) : Value := .agg #[.int .i64 (t.kind : Nat), .int .i64 (t.pos : Nat), .int .i64 (t.stop : Nat), .int .u64 (t.num : Nat), .string (ba t.text)]
def NextPost (w : World) (l : List UInt8) (p : Nat) (e : Ending) (w' : World) : Prop :=
  ∃ t : Tok, e = .returned (.tuple #[tokV t, .int .i64 ((oneS (l.drop p) p).1 : Nat)]) ∧ ((oneS (l.drop p) p).1 = 0 → t = (oneS (l.drop p) p).2) ∧ Below w.heap.size w w'

/-- 'v[p:p+n]', and the text out of it, in every world that keeps w -/
theorem Bs.piece {w : World} {pv : Option Addr} {m cap : Nat} {l : List UInt8} (h : Bs w (.slice pv m cap) l) {p n : Nat} (hn : p + n ≤ l.length) :
    ∃ q cq, (∀ w' : World, Sem.run Tryd.prog (Instr.slice 22 (.slice pv m cap) (some (Value.int IntKind.i64 (p : Nat))) (some (Value.int IntKind.i64 ((p : Int) + (n : Int)))) none) w' = .ok (.slice q n cq) w') ∧ Bs w (.slice q n cq) ((l.drop p).take n) ∧
      (∀ W' : World, Below w.heap.size w W' → (convert 22 9 (.slice q n cq)).run Tryd.prog W' = .ok (.string (ba ((l.drop p).take n))) W') := by
  obtain ⟨q, cq, h1, h2⟩ := h.window (i := p) (j := p + n) (by omega) hn
  have e : p + n - p = n := by omega
  rw [e] at h2
  refine ⟨q, cq, fun w' => ?_, h2, fun W' hb => (h2.below hb).text⟩
  have := h1 w'
  rw [e] at this
  exact this

/-- the result's block and the token's, which next makes -/
structure NW (w W : World) (k p s n : Nat) (x : ByteArray) : Prop where
  bel : Below w.heap.size w W
  res : W.heap[w.heap.size]? = some (.cells #[.int .i64 0, .int .i64 0, .int .i64 0, .int .u64 0, .string ⟨#[]⟩] 33 (0, 0))
  tok : W.heap[w.heap.size + 1]? = some (.cells #[.int .i64 (k : Nat), .int .i64 (p : Nat), .int .i64 (s : Nat), .int .u64 (n : Nat), .string x] 33 (0, 0))

theorem NW.start (w : World) (p q : Nat) : NW w (((w.alloc (.cells #[.int .i64 0, .int .i64 0, .int .i64 0, .int .u64 0, .string ⟨#[]⟩] 33)).alloc (.cells #[.int .i64 0, .int .i64 (p : Nat), .int .i64 (p : Nat), .int .u64 0, .string ⟨#[]⟩] 33)).drewN q) 0 p p 0 ⟨#[]⟩ :=
  ⟨below_drewN (((Below.refl _ _).alloc (Nat.le_refl _) _).alloc (by simp) _) q, by
    have h1 := heap_alloc_new w (.cells #[.int .i64 0, .int .i64 0, .int .i64 0, .int .u64 0, .string ⟨#[]⟩] 33)
    exact (Below.heap_alloc _ _ _ (by rw [World.size_alloc]; omega)).trans h1, by
    have h1 := heap_alloc_new (w.alloc (.cells #[.int .i64 0, .int .i64 0, .int .i64 0, .int .u64 0, .string ⟨#[]⟩] 33)) (.cells #[.int .i64 0, .int .i64 (p : Nat), .int .i64 (p : Nat), .int .u64 0, .string ⟨#[]⟩] 33)
    rw [World.size_alloc] at h1
    exact h1⟩

section
variable {w W : World} {k p s n : Nat} {x : ByteArray}
theorem NW.lt (h : NW w W k p s n x) : w.heap.size + 1 < W.heap.size := by
  rcases Nat.lt_or_ge (w.heap.size + 1) W.heap.size with hlt | hge
  · exact hlt
  · have := h.tok; rw [Array.getElem?_eq_none hge] at this; cases this
theorem NW.drewN (h : NW w W k p s n x) (q : Nat) : NW w (W.drewN q) k p s n x := ⟨below_drewN h.bel q, h.res, h.tok⟩
theorem NW.below {W' : World} (h : NW w W k p s n x) (hb : Below W.heap.size W W') : NW w W' k p s n x := by
  have hl := h.lt
  exact ⟨h.bel.trans (hb.mono (by omega)), (hb.block _ (by omega)).trans h.res, (hb.block _ (by omega)).trans h.tok⟩
theorem NW.set_ (h : NW w W k p s n x) (i : Nat) (u : Value) {cs : Array Value} (hcs : (#[.int .i64 (k : Nat), .int .i64 (p : Nat), .int .i64 (s : Nat), .int .u64 (n : Nat), .string x] : Array Value).setIfInBounds i u = cs) :
    Below w.heap.size w (W.setCell ⟨w.heap.size + 1, i, none⟩ u) ∧ (W.setCell ⟨w.heap.size + 1, i, none⟩ u).heap[w.heap.size]? = some (.cells #[.int .i64 0, .int .i64 0, .int .i64 0, .int .u64 0, .string ⟨#[]⟩] 33 (0, 0)) ∧
      (W.setCell ⟨w.heap.size + 1, i, none⟩ u).heap[w.heap.size + 1]? = some (.cells cs 33 (0, 0)) :=
  ⟨h.bel.setCell (p := ⟨w.heap.size + 1, i, none⟩) (by simp) u, (Below.heap_setCell _ _ _ _ (by simp)).trans h.res, by rw [heap_setCell_same W _ i _ _ _ h.tok, hcs]⟩
theorem NW.set0 (h : NW w W k p s n x) (k' : Nat) {u : Value} (hu : u = .int .i64 (k' : Nat)) : NW w (W.setCell ⟨w.heap.size + 1, 0, none⟩ u) k' p s n x := by
  subst hu; obtain ⟨a, b, c⟩ := h.set_ 0 (.int .i64 (k' : Nat)) rfl; exact ⟨a, b, c⟩
theorem NW.set2 (h : NW w W k p s n x) (s' : Nat) {u : Value} (hu : u = .int .i64 (s' : Nat)) : NW w (W.setCell ⟨w.heap.size + 1, 2, none⟩ u) k p s' n x := by
  subst hu; obtain ⟨a, b, c⟩ := h.set_ 2 (.int .i64 (s' : Nat)) rfl; exact ⟨a, b, c⟩
theorem NW.set3 (h : NW w W k p s n x) (n' : Nat) {u : Value} (hu : u = .int .u64 (n' : Nat)) : NW w (W.setCell ⟨w.heap.size + 1, 3, none⟩ u) k p s n' x := by
  subst hu; obtain ⟨a, b, c⟩ := h.set_ 3 (.int .u64 (n' : Nat)) rfl; exact ⟨a, b, c⟩
theorem NW.set4 (h : NW w W k p s n x) (x' : ByteArray) {u : Value} (hu : u = .string x') : NW w (W.setCell ⟨w.heap.size + 1, 4, none⟩ u) k p s n x' := by
  subst hu; obtain ⟨a, b, c⟩ := h.set_ 4 (.string x') rfl; exact ⟨a, b, c⟩
/-- the token's cells -/
theorem NW.cells (h : NW w W k p s n x) : W.cell? ⟨w.heap.size + 1, 0, none⟩ = some (.int .i64 (k : Nat)) ∧ W.cell? ⟨w.heap.size + 1, 1, none⟩ = some (.int .i64 (p : Nat)) ∧ W.cell? ⟨w.heap.size + 1, 2, none⟩ = some (.int .i64 (s : Nat)) ∧
    W.cell? ⟨w.heap.size + 1, 3, none⟩ = some (.int .u64 (n : Nat)) ∧ W.cell? ⟨w.heap.size + 1, 4, none⟩ = some (.string x) := by
  refine ⟨?_, ?_, ?_, ?_, ?_⟩ <;> (rw [cell_of_row W _ _ _ _ _ h.tok]; rfl)
theorem NW.frozen (h : NW w W k p s n x) (i : Nat) : W.frozen? ⟨w.heap.size + 1, i, none⟩ = false := by have := h.tok; simp [World.frozen?, this]
theorem NW.cellR (h : NW w W k p s n x) : W.cell? ⟨w.heap.size, 0, none⟩ = some (.int .i64 0) ∧ W.cell? ⟨w.heap.size, 1, none⟩ = some (.int .i64 0) ∧ W.cell? ⟨w.heap.size, 2, none⟩ = some (.int .i64 0) ∧
    W.cell? ⟨w.heap.size, 3, none⟩ = some (.int .u64 0) ∧ W.cell? ⟨w.heap.size, 4, none⟩ = some (.string ⟨#[]⟩) := by
  refine ⟨?_, ?_, ?_, ?_, ?_⟩ <;> (rw [cell_of_row W _ _ _ _ _ h.res]; rfl)
theorem NW.frozenR (h : NW w W k p s n x) (i : Nat) : W.frozen? ⟨w.heap.size, i, none⟩ = false := by have := h.res; simp [World.frozen?, this]
end
theorem NW.drew_ {w W : World} {k p s n : Nat} {x : ByteArray} (h : NW w W k p s n x) : NW w W.drew k p s n x := ⟨h.bel.drew, h.res, h.tok⟩
/-- what a region that reads the scanner, the token and a piece of the text holds on to -/
theorem keepC {w W : World} {k p s n : Nat} {x T : ByteArray} {g p0 : Nat} {v V : Value} (hcv : ∀ W' : World, Below w.heap.size w W' → (convert 22 9 V).run Tryd.prog W' = .ok (.string T) W') (hS : Scn w g v p0) (h : NW w W k p s n x) :
    W.cell? ⟨g, 0, none⟩ = some v ∧ W.cell? ⟨w.heap.size + 1, 1, none⟩ = some (.int .i64 (p : Nat)) ∧ W.cell? ⟨w.heap.size + 1, 2, none⟩ = some (.int .i64 (s : Nat)) ∧ (convert 22 9 V).run Tryd.prog W = .ok (.string T) W :=
  ⟨(hS.below h.bel).cell0, h.cells.2.1, h.cells.2.2.1, hcv _ h.bel⟩
/-- a world that is known by facts alone -/
theorem wp_world {P : Program} {c : Code} {Q : Exit → Act → World → Prop} {a : Act} {W : World} (R : World → Prop) (h : R W) (H : ∀ W, R W → Code.wp P c Q a W) : Code.wp P c Q a W := H W h
theorem k_world {K : Act → World → Prop} {a : Act} {W : World} (R : World → Prop) (h : R W) (H : ∀ W, R W → K a W) : K a W := H W h
/-- what next leaves -/
theorem next_err {w W : World} {l : List UInt8} {p e : Nat} {t : Tok} (he : (oneS (l.drop p) p).1 = e) (h0 : ¬ e = 0) (hb : Below w.heap.size w W) : NextPost w l p (.returned (.tuple #[tokV t, .int .i64 (e : Nat)])) W :=
  ⟨t, by rw [he], fun h => absurd (he.symm.trans h) h0, hb⟩
theorem next_ok {w W : World} {l : List UInt8} {p : Nat} {t : Tok} (he : oneS (l.drop p) p = (0, t)) (hb : Below w.heap.size w W) : NextPost w l p (.returned (.tuple #[tokV t, .int .i64 0])) W :=
  ⟨t, by rw [he]; rfl, fun _ => by rw [he], hb⟩
/-- the result's block, filled -/
theorem next_done {w W : World} {k p s n : Nat} {x : ByteArray} (h : NW w W k p s n x) (a0 a1 a2 a3 a4 : Value) :
    (((((W.setCell ⟨w.heap.size, 0, none⟩ a0).setCell ⟨w.heap.size, 1, none⟩ a1).setCell ⟨w.heap.size, 2, none⟩ a2).setCell ⟨w.heap.size, 3, none⟩ a3).setCell ⟨w.heap.size, 4, none⟩ a4).heap[w.heap.size]? = some (.cells #[a0, a1, a2, a3, a4] 33 (0, 0)) ∧
    Below w.heap.size w (((((W.setCell ⟨w.heap.size, 0, none⟩ a0).setCell ⟨w.heap.size, 1, none⟩ a1).setCell ⟨w.heap.size, 2, none⟩ a2).setCell ⟨w.heap.size, 3, none⟩ a3).setCell ⟨w.heap.size, 4, none⟩ a4) := by
  have h0 := heap_setCell_same W w.heap.size 0 _ _ a0 h.res
  have h1 := heap_setCell_same _ w.heap.size 1 _ _ a1 h0
  have h2 := heap_setCell_same _ w.heap.size 2 _ _ a2 h1
  have h3 := heap_setCell_same _ w.heap.size 3 _ _ a3 h2
  have h4 := heap_setCell_same _ w.heap.size 4 _ _ a4 h3
  refine ⟨h4, ?_⟩
  have b := fun {W1 : World} (hb : Below w.heap.size w W1) (i : Nat) (u : Value) => hb.setCell (p := ⟨w.heap.size, i, none⟩) (Nat.le_refl _) u
  exact b (b (b (b (b h.bel 0 a0) 1 a1) 2 a2) 3 a3) 4 a4
theorem resT {W : World} {B : Nat} {cs : Array Value} (h : W.heap[B]? = some (.cells cs 33 (0, 0))) (hs : cs.size = 5) (tmps : Array Value) (h2 : tmps.getD 2 undef = .pointer (some ⟨B, 0, none⟩)) :
    (results Tryd.f23 tmps).run Tryd.prog W = .ok (.tuple #[.agg cs, tmps.getD 3 undef]) W := by
  have h2' : tmps[2]?.getD undef = .pointer (some ⟨B, 0, none⟩) := by simpa using h2
  have hl := run_loadVar_row (P := Tryd.prog) W B 33 33 cs (0, 0) _ h Tryd.underlying33 rfl (by rw [hs]; kernel_rfl)
  simp [results, Tryd.results23, h2', asAddr, hl]
theorem k_calls {P : Program} {f : FuncId} {args : Array Value} {Q : Ending → World → Prop} {W : World} (R : World → Prop) (h : R W) (H : ∀ W, R W → Calls P f args W Q) : Calls P f args W Q := H W h
theorem keep1 {w W : World} {k p s n : Nat} {x : ByteArray} {g p0 : Nat} {v : Value} (hS : Scn w g v p0) (h : NW w W k p s n x) : W.cell? ⟨g, 1, none⟩ = some (.int .i64 (p0 : Nat)) := (hS.below h.bel).cell1
end Go.Proofs.YtmbejmhnoeoohaaDoor
