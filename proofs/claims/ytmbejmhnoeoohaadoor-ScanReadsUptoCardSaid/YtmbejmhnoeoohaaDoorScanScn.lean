/- THE SCANNER IN MEMORY: its block; what is kept where it alone has turned. -/
import Derived.Test.YtmbejmhnoeoohaaDoorScanNumber
import Derived.Lib.SmallJoins
namespace Go.Proofs.YtmbejmhnoeoohaaDoor
open Go Go.RowKit

/-- block g is a scanner over the slice v, at place p -/
def Scn (w : World) (g : Nat) (v : Value) (p : Nat) : Prop := w.heap[g]? = some (.cells #[v, .int .i64 (p : Nat)] 48 (0, 0))

theorem Scn.lt {w : World} {g : Nat} {v : Value} {p : Nat} (h : Scn w g v p) : g < w.heap.size := by
  rcases Nat.lt_or_ge g w.heap.size with hlt | hge
  · exact hlt
  · unfold Scn at h; rw [Array.getElem?_eq_none hge] at h; cases h
theorem Scn.cell0 {w : World} {g : Nat} {v : Value} {p : Nat} (h : Scn w g v p) : w.cell? ⟨g, 0, none⟩ = some v := by rw [cell_of_row w g 0 _ _ _ h]; rfl
theorem Scn.cell1 {w : World} {g : Nat} {v : Value} {p : Nat} (h : Scn w g v p) : w.cell? ⟨g, 1, none⟩ = some (.int .i64 (p : Nat)) := by rw [cell_of_row w g 1 _ _ _ h]; rfl
theorem Scn.frozen {w : World} {g : Nat} {v : Value} {p : Nat} (h : Scn w g v p) (i : Nat) : w.frozen? ⟨g, i, none⟩ = false := by
  unfold Scn at h; simp [World.frozen?, h]
theorem Scn.set {w : World} {g : Nat} {v : Value} {p : Nat} (h : Scn w g v p) (q : Nat) {u : Value} (hu : u = .int .i64 (q : Nat)) : Scn (w.setCell ⟨g, 1, none⟩ u) g v q := by
  subst hu
  unfold Scn at h ⊢
  rw [heap_setCell_same w g 1 _ _ _ h]; rfl
theorem Scn.drewN {w : World} {g : Nat} {v : Value} {p : Nat} (h : Scn w g v p) (n : Nat) : Scn (w.drewN n) g v p := h
theorem Scn.below {w w' : World} {g : Nat} {v : Value} {p : Nat} (h : Scn w g v p) (hb : Below w.heap.size w w') : Scn w' g v p := (hb.block g h.lt).trans h

theorem g_refl (w : World) (g : Nat) : w.grownBy w (some g) := ⟨rfl, rfl, rfl, Nat.le_refl _, fun _ _ _ => rfl⟩
theorem g_drewN {a w : World} {g : Nat} (h : a.grownBy w (some g)) (n : Nat) : a.grownBy (w.drewN n) (some g) := ⟨h.os, h.tape, h.output, h.size, h.block⟩
theorem g_set {a w : World} {g i : Nat} (h : a.grownBy w (some g)) (u : Value) : a.grownBy (w.setCell ⟨g, i, none⟩ u) (some g) :=
  ⟨h.os, h.tape, h.output, by simpa [World.setCell] using h.size, fun k hk hne => (Below.heap_setCell w ⟨g, i, none⟩ u k (fun e => hne (by rw [e]))).trans (h.block k hk hne)⟩
theorem g_below {a w w' : World} {g : Nat} (h : a.grownBy w (some g)) (hb : Below w.heap.size w w') : a.grownBy w' (some g) :=
  ⟨hb.os.trans h.os, hb.tape.trans h.tape, hb.output.trans h.output, Nat.le_trans h.size hb.size, fun i hi hn => (hb.block i (Nat.lt_of_lt_of_le hi h.size)).trans (h.block i hi hn)⟩
theorem g_trans {a b c : World} {g : Nat} (h : a.grownBy b (some g)) (k : b.grownBy c (some g)) : a.grownBy c (some g) :=
  ⟨k.os.trans h.os, k.tape.trans h.tape, k.output.trans h.output, Nat.le_trans h.size k.size, fun i hi hn => (k.block i (Nat.lt_of_lt_of_le hi h.size) hn).trans (h.block i hi hn)⟩

/-- the bytes lie in another block than the scanner -/
theorem Scn.ne_bytes {w : World} {g p : Nat} {v v2 : Value} {l : List UInt8} (h : Scn w g v p) (hv : Bs w v l) (h2 : Bs w v2 l) : ∀ a n c, v2 = .slice (some a) n c → 0 < l.length → a.block ≠ g := by
  rintro a n c rfl hl rfl
  obtain ⟨b, o, cap, e, _⟩ := h2.form hl
  obtain ⟨p', cap', rfl, _⟩ := id hv
  injection e with e1 _ _
  injection e1 with e1
  subst e1
  have hc := h2.cell (i := 0) (x := l[0]) (List.getElem?_eq_getElem hl)
  rw [cell_of_row w b (o + 0) _ _ _ h] at hc
  match o, hc with
  | 0, hc => simp at hc
  | 1, hc => simp at hc
  | o + 2, hc => simp at hc
theorem Bs.beside {w w' : World} {g p : Nat} {v : Value} {l : List UInt8} (h : Bs w v l) (hs : Scn w g v p) (hg : w.grownBy w' (some g)) : Bs w' v l :=
  h.grown hg fun a n c e hl => fun e2 => hs.ne_bytes h h a n c e hl (by injection e2 with e2; exact e2.symm)
theorem Env.beside {w w' : World} {g p : Nat} {v : Value} {l : List UInt8} (h : Env w) (hv : Bs w v l) (hs : Scn w g v p) (hg : w.grownBy w' (some g)) : Env w' := by
  obtain ⟨pv, cap, rfl, _⟩ := id hv
  have hc0 := hs.cell0
  obtain ⟨h1, m, h2⟩ := h
  have n1 : g ≠ 0 := by
    rintro rfl
    have := h1 0 (.string (wordB 0)) rfl
    rw [Nat.add_zero, hc0] at this; cases this
  have n2 : g ≠ 1 := by
    rintro rfl
    rw [hc0] at h2; cases h2
  refine ⟨fun j u hj => ?_, m, ?_⟩
  · have h3 := h1 j u hj
    exact (World.cell?_of_block (a := ⟨0, 0 + j, none⟩) (hg.block _ (World.block_lt_of_cell? w _ h3) (fun e => n1 (by injection e with e; exact e.symm)))).trans h3
  · exact (World.cell?_of_block (a := ⟨1, 0, none⟩) (hg.block _ (World.block_lt_of_cell? w _ h2) (fun e => n2 (by injection e with e; exact e.symm)))).trans h2

/-- a new literal of bytes, marked or not -/
theorem Bs.lit (w : World) (l : List UInt8) (hl : l.length ≤ 100) (fr : Nat × Nat) : Bs (w.alloc (.cells (bc l).toArray 5 fr)) (.slice (some ⟨w.heap.size, 0, none⟩) l.length l.length) l :=
  ⟨_, _, rfl, Nat.le_refl _, by omega, fun _ => ⟨_, _, rfl, fun j x hj => by
    have h := World.news_of_block (w := w.alloc (.cells (bc l).toArray 5 fr)) (heap_alloc_new w _)
    have := h j (.int .u8 (x.toNat : Nat)) (by simp [bc, hj])
    have hadd : (⟨w.heap.size, 0, none⟩ : Addr).add j = ⟨w.heap.size, 0 + j, none⟩ := by unfold Addr.add; split <;> simp_all
    rwa [hadd] at this⟩⟩

theorem Bs.lit_at {w : World} {g : Nat} {fr : Nat × Nat} (l : List UInt8) (hl : l.length ≤ 100) (hg : g = w.heap.size) : Bs (w.alloc (.cells (bc l).toArray 5 fr)) (.slice (some ⟨g, 0, none⟩) l.length l.length) l := by
  subst hg; exact Bs.lit w l hl fr

/-- '[]byte' of a constant text, behind draws; behind a further literal -/
theorem conv_lit0 (W : World) (C : Array Value) (m c : Nat) :
    (convert 22 22 (.slice (some ⟨W.heap.size, 0, none⟩) m c)).run Tryd.prog (W.alloc (.cells C 5)) = .ok (.slice (some ⟨W.heap.size, 0, none⟩) m c) (W.alloc (.cells C 5 (C.size, C.size + 1))) :=
  Joins.run_convert_bytes_const_at W _ _ C m c _ rfl Tryd.underlying22 Tryd.underlying5
theorem conv_lit1 (W : World) (n : Nat) (C : Array Value) (m c : Nat) :
    (convert 22 22 (.slice (some ⟨W.heap.size, 0, none⟩) m c)).run Tryd.prog ((W.drewN n).alloc (.cells C 5)) = .ok (.slice (some ⟨W.heap.size, 0, none⟩) m c) ((W.drewN n).alloc (.cells C 5 (C.size, C.size + 1))) :=
  Joins.run_convert_bytes_const_at (W.drewN n) _ _ C m c _ rfl Tryd.underlying22 Tryd.underlying5
theorem conv_lit2 (W : World) (n : Nat) (o : Obj) (C : Array Value) (m c : Nat) :
    (convert 22 22 (.slice (some ⟨W.heap.size + 1, 0, none⟩) m c)).run Tryd.prog (((W.drewN n).alloc o).alloc (.cells C 5)) = .ok (.slice (some ⟨W.heap.size + 1, 0, none⟩) m c) (((W.drewN n).alloc o).alloc (.cells C 5 (C.size, C.size + 1))) :=
  Joins.run_convert_bytes_const_at ((W.drewN n).alloc o) _ _ C m c _ (by rw [World.size_alloc]; rfl) Tryd.underlying22 Tryd.underlying5

/-- what skip leaves -/
def SkipPost (w : World) (g : Nat) (v : Value) (l : List UInt8) (p0 : Nat) (e : Ending) (w' : World) : Prop :=
  ∃ (p1 : Nat) (ok : Bool), e = .returned (.bool ok) ∧ p0 ≤ p1 ∧ p1 ≤ l.length ∧ Scn w' g v p1 ∧ w.grownBy w' (some g) ∧ (∀ r, scanAt (l.drop p0) p0 r = scanAt (l.drop p1) p1 r) ∧
    (ok = true → p1 < l.length → skipN (l.drop p1) = some 0) ∧ (ok = false → p1 < l.length ∧ skipN (l.drop p1) = none)
end Go.Proofs.YtmbejmhnoeoohaaDoor
