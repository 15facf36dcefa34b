/- THE PROGRAM's Scan. -/
import Derived.Test.YtmbejmhnoeoohaaDoorScanNextD
namespace Go.Proofs.YtmbejmhnoeoohaaDoor
open Go Go.RowKit

/-- a token's cells -/
def tc (t : Tok) : List Value := [.int .i64 (t.kind : Nat), .int .i64 (t.pos : Nat), .int .i64 (t.stop : Nat), .int .u64 (t.num : Nat), .string (ba t.text)]
def tcs (ts : List Tok) : List Value := ts.flatMap tc
theorem tcs_len (ts : List Tok) : (tcs ts).length = ts.length * 5 := by
  induction ts with
  | nil => rfl
  | cons t ts ih => simp only [tcs, List.flatMap_cons, List.length_append, List.length_cons] at ih ⊢; rw [ih]; simp [tc]; omega
theorem tcs_snoc (ts : List Tok) (t : Tok) : tcs (ts ++ [t]) = tcs ts ++ tc t := by simp [tcs]
theorem tcs_at : ∀ (ts : List Tok) (j : Nat) (t : Tok), ts[j]? = some t → ∀ i, i < 5 → (tcs ts)[j * 5 + i]? = (tc t)[i]?
  | [], j, t, h, i, _ => by simp at h
  | s :: ts, 0, t, h, i, hi => by
    obtain rfl : s = t := by simpa using h
    have : (tcs (s :: ts)) = tc s ++ tcs ts := rfl
    rw [this, List.getElem?_append_left (by simp [tc]; omega)]; simp
  | s :: ts, j + 1, t, h, i, hi => by
    have : (tcs (s :: ts)) = tc s ++ tcs ts := rfl
    rw [this, List.getElem?_append_right (by simp [tc]; omega)]
    have := tcs_at ts j t (by simpa using h) i hi
    rw [← this]; congr 1; simp [tc]; omega
/-- the slice value v reads as the tokens ts -/
def Tks (w : World) (v : Value) (ts : List Tok) : Prop :=
  ∃ p cap, v = .slice p ts.length cap ∧ ts.length ≤ cap ∧ cap ≤ 9223372036854775807 ∧ (0 < ts.length → ∃ b o, p = some ⟨b, o, none⟩ ∧ ∀ j t, ts[j]? = some t → ∀ i u, (tc t)[i]? = some u → w.cell? ⟨b, o + (j * 5 + i), none⟩ = some u)
theorem Tks.below {w w' : World} {v : Value} {ts : List Tok} (h : Tks w v ts) (hb : Below w.heap.size w w') : Tks w' v ts := by
  obtain ⟨p, cap, hv, h1, h2, hc⟩ := h
  refine ⟨p, cap, hv, h1, h2, fun hn => ?_⟩
  obtain ⟨b, o, hp, hc⟩ := hc hn
  exact ⟨b, o, hp, fun j t hj i u hu => (hb.cell (World.block_lt_of_cell? w _ (hc j t hj i u hu))).trans (hc j t hj i u hu)⟩
theorem Tks.of_own {w : World} {base : Nat} {v : Value} {ts : List Tok} (h : w.ownsRow base 33 5 v ts.length (tcs ts)) : Tks w v ts := by
  rcases h.2 with ⟨rfl, h0⟩ | ⟨g, cap, cur, rfl, hb, hg, hn, hm, hs, ht⟩
  · have : ts = [] := List.eq_nil_of_length_eq_zero h0
    subst this
    exact ⟨none, 0, rfl, Nat.le_refl _, by omega, fun hn => by simp at hn⟩
  · refine ⟨_, cap, rfl, hn, by unfold maxLen at hm; omega, fun _ => ⟨g, 0, rfl, fun j t hj i u hu => ?_⟩⟩
    have hi : i < 5 := by
      obtain ⟨hi, _⟩ := List.getElem?_eq_some_iff.1 hu
      simpa [tc] using hi
    have := h.cells (g := g) rfl (j * 5 + i) u (by rw [tcs_at ts j t hj i hi]; exact hu)
    have hadd : (⟨g, 0, none⟩ : Addr).add (j * 5 + i) = ⟨g, 0 + (j * 5 + i), none⟩ := by unfold Addr.add; split <;> simp_all
    rwa [hadd] at this

/-- what Scan hands back -/
def ScanPost (w : World) (r : Got) (e : Ending) (w' : World) : Prop := Below w.heap.size w w' ∧ match r with
  | .toks ts => ∃ v, e = .returned (.tuple #[v, .agg #[.int .i64 0, .int .i64 0]]) ∧ Tks w' v ts
  | .bad p k => e = .returned (.tuple #[.slice none 0 0, .agg #[.int .i64 (p : Nat), .int .i64 (k : Nat)]])
theorem scan_bad {w w' : World} {r : Got} {p k : Nat} (hr : r = .bad p k) (hb : Below w.heap.size w w') : ScanPost w r (.returned (.tuple #[.slice none 0 0, .agg #[.int .i64 (p : Nat), .int .i64 (k : Nat)]])) w' := by subst hr; exact ⟨hb, rfl⟩
theorem scan_toks {w w' : World} {r : Got} {ts : List Tok} {v : Value} (hr : r = .toks ts) (hb : Below w.heap.size w w') (hv : Tks w' v ts) : ScanPost w r (.returned (.tuple #[v, .agg #[.int .i64 0, .int .i64 0]])) w' := by subst hr; exact ⟨hb, v, rfl, hv⟩

/-- the fault's block -/
def FW (w W : World) (a b : Nat) : Prop := Below w.heap.size w W ∧ W.heap[w.heap.size]? = some (.cells #[.int .i64 (a : Nat), .int .i64 (b : Nat)] 26 (0, 0))
theorem FW.lt {w W : World} {a b : Nat} (h : FW w W a b) : w.heap.size < W.heap.size := by
  rcases Nat.lt_or_ge w.heap.size W.heap.size with hlt | hge
  · exact hlt
  · have := h.2; rw [Array.getElem?_eq_none hge] at this; cases this
theorem FW.fill {w W : World} {a b : Nat} (h : FW w W a b) (a' b' : Nat) {u v : Value} (hu : u = .int .i64 (a' : Nat)) (hv : v = .int .i64 (b' : Nat)) : FW w ((W.setCell ⟨w.heap.size, 0, none⟩ u).setCell ⟨w.heap.size, 1, none⟩ v) a' b' := by
  subst hu; subst hv
  have h0 := heap_setCell_same W w.heap.size 0 _ _ (.int .i64 (a' : Nat)) h.2
  have h1 := heap_setCell_same _ w.heap.size 1 _ _ (.int .i64 (b' : Nat)) h0
  exact ⟨(h.1.setCell (p := ⟨w.heap.size, 0, none⟩) (Nat.le_refl _) _).setCell (p := ⟨w.heap.size, 1, none⟩) (Nat.le_refl _) _, h1⟩
theorem FW.drew_ {w W : World} {a b : Nat} (h : FW w W a b) : FW w W.drew a b := ⟨h.1.drew, h.2⟩
theorem FW.below {w W W' : World} {a b : Nat} (h : FW w W a b) (hb : Below W.heap.size W W') : FW w W' a b := ⟨h.1.trans (hb.mono (Nat.le_of_lt h.lt)), (hb.block _ h.lt).trans h.2⟩
theorem FW.beside {w W W' : World} {a b g : Nat} (h : FW w W a b) (hg : W.grownBy W' (some g)) (hne : w.heap.size < g) : FW w W' a b :=
  ⟨⟨hg.os.trans h.1.os, hg.tape.trans h.1.tape, hg.output.trans h.1.output, Nat.le_trans h.1.size hg.size, fun k hk => (hg.block k (Nat.lt_of_lt_of_le hk h.1.size) (fun e => by injection e with e; omega)).trans (h.1.block k hk)⟩,
    (hg.block _ h.lt (fun e => by injection e with e; omega)).trans h.2⟩
theorem FW.cells {w W : World} {a b : Nat} (h : FW w W a b) : W.cell? ⟨w.heap.size, 0, none⟩ = some (.int .i64 (a : Nat)) ∧ W.cell? ⟨w.heap.size, 1, none⟩ = some (.int .i64 (b : Nat)) := by
  refine ⟨?_, ?_⟩ <;> (rw [cell_of_row W _ _ _ _ _ h.2]; rfl)
theorem FW.frozen {w W : World} {a b : Nat} (h : FW w W a b) (i : Nat) : W.frozen? ⟨w.heap.size, i, none⟩ = false := by have := h.2; simp [World.frozen?, this]
theorem resF {W : World} {B : Nat} {cs : Array Value} (h : W.heap[B]? = some (.cells cs 26 (0, 0))) (hs : cs.size = 2) (tmps : Array Value) (h3 : tmps.getD 3 undef = .pointer (some ⟨B, 0, none⟩)) :
    (results Tryd.f9 tmps).run Tryd.prog W = .ok (.tuple #[tmps.getD 2 undef, .agg cs]) W := by
  have h3' : tmps[3]?.getD undef = .pointer (some ⟨B, 0, none⟩) := by simpa using h3
  have hl := run_loadVar_row (P := Tryd.prog) W B 26 26 cs (0, 0) _ h Tryd.underlying26 rfl (by rw [hs]; kernel_rfl)
  simp [results, Tryd.results9, h3', asAddr, hl]

theorem info_token : (Tryd.prog.info? 33).map (fun i => (i.zero, i.size, i.bytes)) = some (some (.agg #[.int .i64 0, .int .i64 0, .int .i64 0, .int .u64 0, .string ByteArray.empty]), 5, 48) := by kernel_rfl

/-- how far Scan has come -/
def ScAt (l : List UInt8) (p : Nat) (ts : List Tok) : Prop := p ≤ l.length ∧ ts.length ≤ 16384 ∧ scanAt l 0 16384 = appS ts (scanAt (l.drop p) p (16384 - ts.length))
theorem scAt_skip {l : List UInt8} {p p1 : Nat} {ts : List Tok} (h : ScAt l p ts) (h1 : p1 ≤ l.length) (h2 : ∀ r, scanAt (l.drop p) p r = scanAt (l.drop p1) p1 r) : ScAt l p1 ts := ⟨h1, h.2.1, by rw [h.2.2, h2]⟩
theorem drop_ne {l : List UInt8} {p : Nat} (h : p < l.length) : l.drop p ≠ [] := by intro e; have := congrArg List.length e; rw [List.length_drop] at this; simp at this; omega
theorem scAt_open {l : List UInt8} {p : Nat} {ts : List Tok} (h : ScAt l p ts) (hp : p < l.length) (h1 : skipN (l.drop p) = none) : scanAt l 0 16384 = .bad p 62 := by
  rw [h.2.2, scanAt_open (drop_ne hp) _ _ h1]; rfl
theorem scAt_end {l : List UInt8} {p : Nat} {ts : List Tok} (h : ScAt l p ts) (hp : p = l.length) : scanAt l 0 16384 = .toks ts := by
  rw [h.2.2, hp, List.drop_length, scanAt_nil]; simp [appS]
theorem appS_cons (ts : List Tok) (t : Tok) (g : Got) : appS ts (consS t g) = appS (ts ++ [t]) g := by cases g <;> simp [appS, consS]
theorem scAt_tok {l : List UInt8} {p : Nat} {ts : List Tok} (h : ScAt l p ts) (hp : p < l.length) (h1 : skipN (l.drop p) = some 0) :
    ((oneS (l.drop p) p).1 = 61 → scanAt l 0 16384 = .bad p 61) ∧ (¬ (oneS (l.drop p) p).1 = 61 → ts.length = 16384 → scanAt l 0 16384 = .bad p 66) ∧
    (¬ (oneS (l.drop p) p).1 = 61 → ¬ ts.length = 16384 → ¬ (oneS (l.drop p) p).1 = 0 → scanAt l 0 16384 = .bad p (oneS (l.drop p) p).1) ∧
    ((oneS (l.drop p) p).1 = 0 → ¬ ts.length = 16384 → p < (oneS (l.drop p) p).2.stop ∧ ScAt l (oneS (l.drop p) p).2.stop (ts ++ [(oneS (l.drop p) p).2])) := by
  have ht := h.2.1
  have e := scanAt_tok (drop_ne hp) p (16384 - ts.length) h1
  refine ⟨fun a => ?_, fun a b => ?_, fun a b c => ?_, fun a b => ?_⟩
  · rw [h.2.2, e, if_pos a]; rfl
  · rw [h.2.2, e, if_neg a, if_pos (by omega)]; rfl
  · rw [h.2.2, e, if_neg a, if_neg (by omega), if_pos c]; rfl
  · obtain ⟨s1, s2⟩ := oneS_stop a
    rw [List.length_drop] at s2
    refine ⟨s1, by omega, by simp; omega, ?_⟩
    rw [h.2.2, e, if_neg (by omega), if_neg (by omega), if_neg (by omega), appS_cons, List.drop_drop]
    rw [show p + ((oneS (l.drop p) p).2.stop - p) = (oneS (l.drop p) p).2.stop by omega]
    congr 2
    simp; omega
end Go.Proofs.YtmbejmhnoeoohaaDoor
