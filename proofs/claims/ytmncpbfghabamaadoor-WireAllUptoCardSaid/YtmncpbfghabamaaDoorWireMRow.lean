/- WIRE: rows of messages in memory; what a stream's reading answers. -/
import Derived.Test.YtmncpbfghabamaaDoorWireFr
import Derived.Test.YtmncpbfghabamaaDoorWireBk
namespace Go.Proofs.YtmncpbfghabamaaDoor
open Go Go.RowKit

/-- a message: its six numbers, its two texts, its value -/
abbrev Mg := List Int × ByteArray × ByteArray × Dv
def MgIn (P : Nat → Prop) (W : World) (l : List Value) (x : Mg) : Prop :=
  ∃ (n0 n1 n2 n3 n4 n5 : Int) (tp rp : ByteArray) (kd di db : Int) (ds : ByteArray) (p : Option Addr) (n c : Nat), l = [.int .i64 n0, .string tp, .int .i64 kd, .int .i64 di, .int .u64 db, .string ds, .slice p n c, .int .i64 n1, .int .i64 n2, .string rp, .int .i64 n3, .int .i64 n4, .int .i64 n5] ∧ x.1 = [n0, n1, n2, n3, n4, n5] ∧ x.2.1 = tp ∧ x.2.2.1 = rp ∧ DvIn P W 16 [.int .i64 kd, .int .i64 di, .int .u64 db, .string ds, .slice p n c] x.2.2.2
theorem MgIn.kept {P Q : Nat → Prop} {w w' : World} {l : List Value} {x : Mg} (h : MgIn P w l x) (hk : ∀ b, P b → b < w.heap.size → w'.heap[b]? = w.heap[b]? ∧ Q b) : MgIn Q w' l x := by
  obtain ⟨n0, n1, n2, n3, n4, n5, tp, rp, kd, di, db, ds, p, n, c, h1, h2, h3, h4, h5⟩ := h
  exact ⟨n0, n1, n2, n3, n4, n5, tp, rp, kd, di, db, ds, p, n, c, h1, h2, h3, h4, h5.kept hk⟩
theorem MgIn.len {P : Nat → Prop} {w : World} {l : List Value} {x : Mg} (h : MgIn P w l x) : l.length = 13 := by
  obtain ⟨n0, n1, n2, n3, n4, n5, tp, rp, kd, di, db, ds, p, n, c, rfl, -⟩ := h
  rfl
/-- a row of messages of the call's own -/
def MRow (W : World) (base : Nat) (v : Value) (ts : List Mg) : Prop :=
  ∃ cs : List Value, W.ownsRow base 39 13 v ts.length cs ∧ ∀ (j : Nat) (t : Mg), ts[j]? = some t → MgIn (RowP base W v) W ((cs.drop (j * 13)).take 13) t
theorem MRow.nil (W : World) (base : Nat) : MRow W base (.slice none 0 0) [] := ⟨[], World.ownsRow_nil _ _ _ _, fun j t h => by simp at h⟩
theorem MRow.lt {W : World} {base : Nat} {v : Value} {ts : List Mg} (h : MRow W base v ts) : ∀ k, v.ownBlock = some k → base ≤ k ∧ k < W.heap.size := by
  obtain ⟨cs, ho, -⟩ := h
  exact fun k hk => ho.lt k hk
theorem MRow.form {W : World} {base : Nat} {v : Value} {ts : List Mg} (h : MRow W base v ts) : ∃ q c, v = .slice q ts.length c := by
  obtain ⟨cs, ho, -⟩ := h
  rcases ho.2 with ⟨h1, h2⟩ | ⟨g, cap, cur, h1, -⟩
  · exact ⟨none, 0, by rw [h1, h2]⟩
  · exact ⟨_, _, h1⟩
/-- what lies above may come -/
theorem MRow.below {W W' : World} {base : Nat} {v : Value} {ts : List Mg} (h : MRow W base v ts) (hb : Below W.heap.size W W') : MRow W' base v ts := by
  obtain ⟨cs, ho, hc⟩ := h
  refine ⟨cs, ho.kept (row := none) ⟨hb.os, hb.tape, hb.output, hb.size, fun k hk _ => hb.block k hk⟩ (Decidable.em _), fun j t hj => (hc j t hj).kept fun b hP hlt => ⟨hb.block b hlt, hP.1, Nat.lt_of_lt_of_le hP.2.1 hb.size, hP.2.2⟩⟩
/-- one more -/
theorem MRow.snoc {W W1 W2 : World} {base : Nat} {v v2 : Value} {ts : List Mg} {t : Mg} {l : List Value} (h : MRow W base v ts) (ht : MgIn (RowP base W v) W l t) (hs : W1.heap.size ≥ W.heap.size) (hk : ∀ b, b < W.heap.size → W1.heap[b]? = W.heap[b]?)
    (h2 : ∀ cs, W.ownsRow base 39 13 v ts.length cs → W2.ownsRow base 39 13 v2 (ts.length + 1) (cs ++ l)) (hg : W1.grownBy W2 v.ownBlock) (hat : v2.ownBlock = v.ownBlock ∨ v2.ownBlock = some W1.heap.size) : MRow W2 base v2 (ts ++ [t]) := by
  obtain ⟨cs, ho, hc⟩ := h
  have hl : cs.length = ts.length * 13 := ho.1
  have hkk : ∀ b, RowP base W v b → b < W.heap.size → W2.heap[b]? = W.heap[b]? ∧ RowP base W2 v2 b := fun b hb hlt =>
    ⟨(hg.block b (by omega) hb.2.2).trans (hk b hlt), hb.1, Nat.lt_of_lt_of_le hlt (Nat.le_trans hs hg.size), by
      rcases hat with e | e
      · rw [e]; exact hb.2.2
      · rw [e]; intro e2; injection e2 with e2; omega⟩
  refine ⟨cs ++ l, by rw [List.length_append, List.length_singleton]; exact h2 cs ho, fun j u hj => ?_⟩
  by_cases hlt : j < ts.length
  · rw [List.getElem?_append_left hlt] at hj
    have h3 := (hc j u hj).kept hkk
    rw [List.drop_append_of_le_length (by omega), List.take_append_of_le_length (by rw [List.length_drop]; omega)]
    exact h3
  · have hjl := (List.getElem?_eq_some_iff.1 hj).1
    rw [List.length_append, List.length_singleton] at hjl
    obtain rfl : j = ts.length := by omega
    rw [List.getElem?_append_right (Nat.le_refl _), Nat.sub_self] at hj
    injection hj with hj
    subst hj
    rw [← hl, List.drop_left, List.take_of_length_le (by rw [ht.len]; omega)]
    exact ht.kept hkk
/-- the cells of one -/
theorem MRow.at_ {W : World} {base : Nat} {v : Value} {ts : List Mg} (h : MRow W base v ts) {j : Nat} {t : Mg} (hj : ts[j]? = some t) :
    ∃ g cap, v = .slice (some ⟨g, 0, none⟩) ts.length cap ∧ g < W.heap.size ∧ ∃ (n0 n1 n2 n3 n4 n5 : Int) (tp rp : ByteArray) (kd di db : Int) (ds : ByteArray) (p : Option Addr) (n c : Nat), (W.cell? ⟨g, j * 13, none⟩ = some (.int .i64 n0) ∧ W.cell? ⟨g, j * 13 + 1, none⟩ = some (.string tp) ∧ W.cell? ⟨g, j * 13 + 2, none⟩ = some (.int .i64 kd) ∧ W.cell? ⟨g, j * 13 + 3, none⟩ = some (.int .i64 di) ∧ W.cell? ⟨g, j * 13 + 4, none⟩ = some (.int .u64 db) ∧ W.cell? ⟨g, j * 13 + 5, none⟩ = some (.string ds) ∧ W.cell? ⟨g, j * 13 + 6, none⟩ = some (.slice p n c) ∧ W.cell? ⟨g, j * 13 + 7, none⟩ = some (.int .i64 n1) ∧ W.cell? ⟨g, j * 13 + 8, none⟩ = some (.int .i64 n2) ∧ W.cell? ⟨g, j * 13 + 9, none⟩ = some (.string rp) ∧ W.cell? ⟨g, j * 13 + 10, none⟩ = some (.int .i64 n3) ∧ W.cell? ⟨g, j * 13 + 11, none⟩ = some (.int .i64 n4) ∧ W.cell? ⟨g, j * 13 + 12, none⟩ = some (.int .i64 n5)) ∧ t.1 = [n0, n1, n2, n3, n4, n5] ∧ t.2.1 = tp ∧ t.2.2.1 = rp ∧ DvIn (fun _ => True) W 16 [.int .i64 kd, .int .i64 di, .int .u64 db, .string ds, .slice p n c] t.2.2.2 := by
  have hlt := (List.getElem?_eq_some_iff.1 hj).1
  have hbl := h.lt
  obtain ⟨cs, ho, hc⟩ := h
  obtain ⟨g, cap, rfl⟩ : ∃ g cap, v = .slice (some ⟨g, 0, none⟩) ts.length cap := by
    rcases ho.2 with ⟨h1, h2⟩ | ⟨g, cap, cur, h1, -⟩
    · omega
    · exact ⟨_, _, h1⟩
  obtain ⟨n0, n1, n2, n3, n4, n5, tp, rp, kd, di, db, ds, p, n, c, h1, h2, h3, h4, h5⟩ := hc j t hj
  have hcell : ∀ i, i < 13 → W.cell? ⟨g, j * 13 + i, none⟩ = ([.int .i64 n0, .string tp, .int .i64 kd, .int .i64 di, .int .u64 db, .string ds, .slice p n c, .int .i64 n1, .int .i64 n2, .string rp, .int .i64 n3, .int .i64 n4, .int .i64 n5] : List Value)[i]? := fun i hi => by
    rw [ho.cellAt (j * 13 + i) (by omega), ← h1, List.getElem?_take, if_pos hi, List.getElem?_drop]
  refine ⟨g, cap, rfl, (hbl g rfl).2, n0, n1, n2, n3, n4, n5, tp, rp, kd, di, db, ds, p, n, c, ⟨hcell 0 (by omega), hcell 1 (by omega), hcell 2 (by omega), hcell 3 (by omega), hcell 4 (by omega), hcell 5 (by omega), hcell 6 (by omega), hcell 7 (by omega), hcell 8 (by omega), hcell 9 (by omega), hcell 10 (by omega), hcell 11 (by omega), hcell 12 (by omega)⟩, h2, h3, h4, h5.kept fun b _ _ => ⟨rfl, trivial⟩⟩
/-- a stream -/
def allF : Nat → List UInt8 → Nat → List Mg × Nat × Int
  | 0, _, p => ([], p, 0)
  | f + 1, l, p => if l.length ≤ p then ([], p, 0) else
    match decD (l.drop p) with
    | .err e => ([], p, e)
    | .ok x n => (x :: (allF f l (p + n)).1, (allF f l (p + n)).2)
theorem decD_size {l : List UInt8} {x : Mg} {n : Nat} (h : decD l = .ok x n) : 0 < n ∧ n ≤ l.length := by
  obtain ⟨ns, tp, rp, t⟩ := x
  obtain ⟨h1, h2, -, -, h5⟩ := decD_back h
  refine ⟨?_, h1⟩
  rcases Nat.eq_zero_or_pos n with h0 | h0
  · rw [h0, List.take_zero] at h2
    unfold frameB at h2
    rw [if_neg (by omega)] at h2
    simp at h2
  · exact h0
/-- where a stream's reading stands: so many taken, at a place -/
def AllAt (l : List UInt8) (acc : List Mg) (p : Nat) : Prop := acc.length ≤ p ∧ p ≤ l.length ∧ ∃ f, l.length < p + f ∧ allF (l.length + 1) l 0 = (acc ++ (allF f l p).1, (allF f l p).2)
theorem AllAt.start (l : List UInt8) : AllAt l [] 0 := ⟨Nat.le_refl _, Nat.zero_le _, l.length + 1, by omega, by simp⟩
theorem AllAt.step {l : List UInt8} {acc : List Mg} {p n : Nat} {x : Mg} (h : AllAt l acc p) (hlt : p < l.length) (hd : decD (l.drop p) = .ok x n) : AllAt l (acc ++ [x]) (p + n) ∧ 0 < n := by
  obtain ⟨h0, h1, f, h2, h3⟩ := h
  obtain ⟨s1, s2⟩ := decD_size hd
  rw [List.length_drop] at s2
  cases f with
  | zero => omega
  | succ f =>
    refine ⟨⟨by rw [List.length_append, List.length_singleton]; omega, by omega, f, by omega, ?_⟩, s1⟩
    rw [h3]
    conv => lhs; unfold allF
    rw [if_neg (by omega), hd]
    simp
theorem AllAt.err {l : List UInt8} {acc : List Mg} {p : Nat} {e : Int} (h : AllAt l acc p) (hlt : p < l.length) (hd : decD (l.drop p) = .err e) : allF (l.length + 1) l 0 = (acc, p, e) := by
  obtain ⟨h0, h1, f, h2, h3⟩ := h
  cases f with
  | zero => omega
  | succ f =>
    rw [h3]
    unfold allF
    rw [if_neg (by omega), hd]
    simp
theorem AllAt.done {l : List UInt8} {acc : List Mg} {p : Nat} (h : AllAt l acc p) (hge : ¬ p < l.length) : allF (l.length + 1) l 0 = (acc, p, 0) := by
  obtain ⟨h0, h1, f, h2, h3⟩ := h
  cases f with
  | zero => omega
  | succ f =>
    rw [h3]
    unfold allF
    rw [if_pos (by omega)]
    simp
def mzero : Value := .agg #[.int .i64 0, .string ⟨#[]⟩, .int .i64 0, .int .i64 0, .int .u64 0, .string ⟨#[]⟩, .slice none 0 0, .int .i64 0, .int .i64 0, .string ⟨#[]⟩, .int .i64 0, .int .i64 0, .int .i64 0]
theorem info_msg : (Tryd.prog.info? 39).map (fun i => (i.zero, i.size, i.bytes)) = some (some mzero, 13, 144) := by kernel_rfl
def AllOut (l : List UInt8) (w : World) (r : Ending) (W' : World) : Prop :=
  ∃ (v : Value) (p : Nat) (e : Int), r = .returned (.tuple #[v, .int .i64 (p : Nat), .int .i64 e]) ∧ Below w.heap.size w W' ∧ (allF (l.length + 1) l 0).2 = (p, e) ∧ MRow W' w.heap.size v (allF (l.length + 1) l 0).1
end Go.Proofs.YtmncpbfghabamaaDoor
