/- STATS: the book of any events. -/
import Derived.Test.YtejehjlegfpgbaaStatsDoneB
import Derived.Test.YtejehjlegfpgbaaStatsPlain
namespace Go.Proofs.Ytejehjlegfpgbaa
open Go Go.RowKit Go.Maps

theorem MapIs.put {w : World} {g m : Nat} {f : Int → Option Int} (h : MapIs w g m f) (hm : m < maxLen) {i a : Int} (hi : Wf i) (ha : Wf a) :
    ∃ w', (Instr.mapUpdate 51 (.map (some g)) (.int .i64 i) (.int .i64 a)).run Try.prog w = .ok () w' ∧ w.grownBy w' (some g) ∧ MapIs w' g (m + 1) (put f i a) := by
  obtain ⟨D, h1, h2, h3⟩ := h
  obtain ⟨w', hrun, r1, r2⟩ := h1.update keyed64 Try.underlying51 hm (key64 hi) (d := .lit (.int .i64 a)) (ps := []) (plainElem_int Try.underlying2 ha.lit)
  exact ⟨w', hrun, r2, MapIs.upd_ D h2 h3 r1⟩
theorem Evs.all15 {w : World} {v : Value} {l : List Ev} (h : Evs w v l) (hn : 0 < l.length) : ∃ b o cap, v = .slice (some ⟨b, o, none⟩) l.length cap ∧ b < w.heap.size ∧ ∀ k e, l[k]? = some e →
    w.cell? ⟨b, o + k * 15, none⟩ = some (.int .i64 e.k) ∧ w.cell? ⟨b, o + k * 15 + 1, none⟩ = some (.int .i64 e.a) ∧ w.cell? ⟨b, o + k * 15 + 2, none⟩ = some (.int .i64 e.i) ∧ w.cell? ⟨b, o + k * 15 + 3, none⟩ = some (.int .i64 e.h) ∧ w.cell? ⟨b, o + k * 15 + 4, none⟩ = some (.int .i64 (e.x 4)) ∧
    w.cell? ⟨b, o + k * 15 + 5, none⟩ = some (.int .i64 e.er) ∧ w.cell? ⟨b, o + k * 15 + 6, none⟩ = some (.int .i64 (e.x 6)) ∧ w.cell? ⟨b, o + k * 15 + 7, none⟩ = some (.int .i64 (e.x 7)) ∧ w.cell? ⟨b, o + k * 15 + 8, none⟩ = some (.int .i64 (e.x 8)) ∧ w.cell? ⟨b, o + k * 15 + 9, none⟩ = some (.bool e.xb) ∧
    w.cell? ⟨b, o + k * 15 + 10, none⟩ = some (.int .i64 (e.x 10)) ∧ w.cell? ⟨b, o + k * 15 + 11, none⟩ = some (.int .i64 (e.x 11)) ∧ w.cell? ⟨b, o + k * 15 + 12, none⟩ = some (.int .u64 (e.x 12)) ∧ w.cell? ⟨b, o + k * 15 + 13, none⟩ = some (.string e.xs) ∧ w.cell? ⟨b, o + k * 15 + 14, none⟩ = some (.slice e.xp e.xn e.xc) := by
  obtain ⟨b, o, cap, hv, hb, hc⟩ := h.form hn
  exact ⟨b, o, cap, hv, hb, fun k e he => ⟨hc k e he 0 _ rfl, hc k e he 1 _ rfl, hc k e he 2 _ rfl, hc k e he 3 _ rfl, hc k e he 4 _ rfl, hc k e he 5 _ rfl, hc k e he 6 _ rfl, hc k e he 7 _ rfl, hc k e he 8 _ rfl, hc k e he 9 _ rfl, hc k e he 10 _ rfl, hc k e he 11 _ rfl, hc k e he 12 _ rfl, hc k e he 13 _ rfl, hc k e he 14 _ rfl⟩⟩

def zero9 : Array Value := #[.int .i64 0, .int .i64 0, .int .i64 0, .int .i64 0, .int .i64 0, .int .i64 0, .int .i64 0, .int .i64 0, .int .i64 0]
theorem made9 (N j : Nat) (hj : j < N) : (madeCells zero9 N)[j]? = some (.int .i64 0) := by
  unfold madeCells
  rw [Array.getElem?_map, Array.getElem?_range, if_pos hj]
  have h9 : j % 9 < 9 := Nat.mod_lt _ (by omega)
  show some (zero9[j % 9]!) = _
  generalize j % 9 = q at h9
  have : q = 0 ∨ q = 1 ∨ q = 2 ∨ q = 3 ∨ q = 4 ∨ q = 5 ∨ q = 6 ∨ q = 7 ∨ q = 8 := by omega
  rcases this with rfl | rfl | rfl | rfl | rfl | rfl | rfl | rfl | rfl <;> rfl
theorem made1 (N j : Nat) (hj : j < N) : (madeCells #[Value.slice none 0 0] N)[j]? = some (.slice none 0 0) := by
  unfold madeCells
  rw [Array.getElem?_map, Array.getElem?_range, if_pos hj]
  have : j % 1 = 0 := Nat.mod_one j
  show some ((#[Value.slice none 0 0] : Array Value)[j % 1]!) = _
  rw [this]; rfl
theorem bk_start {W : World} {base gB gC gW gM n : Nat} (hn : n ≤ 64) (hlt : gB < base ∧ gC < base ∧ gW < base ∧ gM < base ∧ base ≤ W.heap.size) (hne : gB ≠ gC ∧ gB ≠ gW ∧ gB ≠ gM ∧ gC ≠ gW ∧ gC ≠ gM ∧ gW ≠ gM)
    (hB : W.heap[gB]? = some (.cells #[.slice (some ⟨gC, 0, none⟩) n n, .slice (some ⟨gW, 0, none⟩) n n, .map (some gM)] 53 (0, 0)))
    (hC : W.heap[gC]? = some (.cells (madeCells zero9 (n * 9)) 30 (0, 0))) (hW : W.heap[gW]? = some (.cells (madeCells #[.slice none 0 0] n) 32 (0, 0)))
    (hM : W.heap[gM]? = some (.map #[] 0)) : BK W base gB gC gW gM n 0 (fun _ => .slice none 0 0) startS := by
  refine ⟨hn, hlt, hne, hB, ⟨_, hC, by rw [size_madeCells]; omega, fun j hj => made9 _ _ (by omega)⟩, ⟨_, hW, size_madeCells _ _, fun h hh => made1 _ _ hh⟩, fun h _ => World.ownsRow_nil _ _ _ _, fun h h' _ _ _ => .inl rfl, ?_⟩
  exact ⟨.map [], ⟨#[], 0, hM, ⟨by simp, MapKept.stamped_empty 0, by simp⟩, Nat.le_refl _, rfl⟩, isMap_empty, fun i z => rfl⟩
theorem stepS_w (n : Nat) (s : St) (e : Ev) (r : Nat) : ((stepS n s e).w r).length ≤ (s.w r).length + 1 := by
  unfold stepS
  by_cases h1 : e.k = 1
  · rw [if_pos h1]; exact Nat.le_succ _
  rw [if_neg h1]
  by_cases h7 : e.k = 7
  · rw [if_pos h7]; unfold doneS
    split
    · split
      · exact Nat.le_succ _
      · show (upd s.w _ _ r).length ≤ _
        unfold upd
        split
        case isTrue h => rw [h]; simp
        case isFalse => omega
    · exact Nat.le_succ _
  · rw [if_neg h7]
    cases kindF e.k with
    | none => exact Nat.le_succ _
    | some j => dsimp only; split <;> exact Nat.le_succ _
theorem readS_len (n : Nat) (l : List Ev) (r : Nat) : ((readS n l).w r).length ≤ l.length := by
  have H : ∀ (l : List Ev) (s : St), ((l.foldl (stepS n) s).w r).length ≤ (s.w r).length + l.length := by
    intro l
    induction l with
    | nil => intro s; exact Nat.le_refl _
    | cons e l ih => intro s; have h1 := ih (stepS n s e); have h2 := stepS_w n s e r; simp only [List.foldl_cons, List.length_cons]; omega
  have := H l startS
  simpa [readS, startS] using this
theorem step_pub {n : Nat} {s : St} {e : Ev} (h : e.k = 1) : stepS n s e = { s with f := _root_.Go.Proofs.Ytejehjlegfpgbaa.put s.f e.i e.a } := by unfold stepS; rw [if_pos h]
theorem step_done {n : Nat} {s : St} {e : Ev} (h : e.k = 7) : stepS n s e = doneS n s e := by unfold stepS; rw [if_neg (by omega), if_pos h]
theorem step_kind {n : Nat} {s : St} {e : Ev} {j : Nat} (h : e.k = 3 + (j : Int)) (hj : j < 4) : stepS n s e = if InR n e.h then { s with c := inc s.c (e.h.toNat * 9 + j) 1 } else s := by
  unfold stepS kindF
  have : j = 0 ∨ j = 1 ∨ j = 2 ∨ j = 3 := by omega
  rcases this with rfl | rfl | rfl | rfl <;> simp [h]
theorem step_other {n : Nat} {s : St} {e : Ev} (h : ¬ e.k = 1 ∧ ¬ e.k = 3 ∧ ¬ e.k = 4 ∧ ¬ e.k = 5 ∧ ¬ e.k = 6 ∧ ¬ e.k = 7) : stepS n s e = s := by
  unfold stepS kindF; simp [h]
theorem BK.turnZ {w : World} {base gB gC gW gM n m : Nat} {V : Nat → Value} {s : St} (h : BK w base gB gC gW gM n m V s) (o : Obj) (j : Nat) (u : Value) : BK ((w.alloc o).setCell ⟨w.heap.size, j, none⟩ u) base gB gC gW gM n m V s := by
  have h1 := h.below ((Below.refl _ _).alloc (Nat.le_refl _) o)
  have hg : (w.alloc o).grownBy ((w.alloc o).setCell ⟨w.heap.size, j, none⟩ u) (some w.heap.size) := ⟨rfl, rfl, rfl, by simp [World.setCell], fun k hk hne => Below.heap_setCell (w.alloc o) ⟨w.heap.size, j, none⟩ u k (fun e => hne (by rw [e]))⟩
  exact h1.beyond hg h.lt.2.2.2.2 (fun r hr e => by have := ((h.rw_ r hr).lt _ e).2; omega)
end Go.Proofs.Ytejehjlegfpgbaa
