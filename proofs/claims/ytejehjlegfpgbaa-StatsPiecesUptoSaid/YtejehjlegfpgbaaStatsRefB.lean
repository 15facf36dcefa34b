/- STATS: Add (of both), the reference's one. -/
import Derived.Test.YtejehjlegfpgbaaStatsRefA
namespace Go.Proofs.Ytejehjlegfpgbaa
open Go Go.RowKit Go.Maps

/-- nine numbers -/
def c9 (c : Nat → Int) : Array Value := #[.int .i64 (c 0), .int .i64 (c 1), .int .i64 (c 2), .int .i64 (c 3), .int .i64 (c 4), .int .i64 (c 5), .int .i64 (c 6), .int .i64 (c 7), .int .i64 (c 8)]
def addC (x y : Nat → Int) : Nat → Int := fun j => addJ j (x j) (y j)
def AggPost (w : World) (c : Nat → Int) (r : Ending) (w' : World) : Prop := r = .returned (.agg (c9 c)) ∧ Below w.heap.size w w'
theorem heap3 (w : World) (A B : Obj) (cs : Array Value) (t : TypeId) : (((w.alloc A).alloc B).alloc (.cells cs t)).heap[w.heap.size + 1 + 1]? = some (.cells cs t (0, 0)) := by
  have h := heap_alloc_new ((w.alloc A).alloc B) (.cells cs t)
  rw [World.size_alloc, World.size_alloc] at h
  exact h
theorem heap2 (w : World) (A : Obj) (cs : Array Value) (t : TypeId) : ((w.alloc A).alloc (.cells cs t)).heap[w.heap.size + 1]? = some (.cells cs t (0, 0)) := by
  have h := heap_alloc_new (w.alloc A) (.cells cs t)
  rw [World.size_alloc] at h
  exact h
theorem below3 (w : World) (A B C : Obj) : Below w.heap.size w (((w.alloc A).alloc B).alloc C) :=
  (((Below.refl _ _).alloc (Nat.le_refl _) _).alloc (by simp) _).alloc (by simp <;> omega) _
theorem add_max {x y : Nat → Int} {a : Int} (h : a = max (x 8) (y 8)) : (#[.int .i64 (wrap64 (x 0 + y 0)), .int .i64 (wrap64 (x 1 + y 1)), .int .i64 (wrap64 (x 2 + y 2)), .int .i64 (wrap64 (x 3 + y 3)), .int .i64 (wrap64 (x 4 + y 4)), .int .i64 (wrap64 (x 5 + y 5)), .int .i64 (wrap64 (x 6 + y 6)), .int .i64 (wrap64 (x 7 + y 7)), .int .i64 a] : Array Value) = c9 (addC x y) := by
  rw [h]; rfl
theorem resRA {W : World} {B : Nat} {cs : Array Value} (h : W.heap[B]? = some (.cells cs 30 (0, 0))) (hs : cs.size = 9) (tmps : Array Value) (h2 : tmps.getD 4 undef = .pointer (some ⟨B, 0, none⟩)) :
    (results Try.f20 tmps).run Try.prog W = .ok (.agg cs) W := by
  have h2' : tmps[4]?.getD undef = .pointer (some ⟨B, 0, none⟩) := by simpa using h2
  have hl := run_loadVar_row (P := Try.prog) W B 30 30 cs (0, 0) _ h Try.underlying30 rfl (by rw [hs]; kernel_rfl)
  simp [results, Try.results20, h2', asAddr, hl]
set_option maxHeartbeats 2000000 in
theorem refAdd_any (x y : Nat → Int) (w : World) : Calls Try.prog 20 #[.agg (c9 x), .agg (c9 y)] w (AggPost w (addC x y)) := by
  obtain ⟨PP, hPP⟩ : ∃ PP, AggPost w (addC x y) = PP := ⟨_, rfl⟩
  rw [hPP]
  have HPP := Lib.hid hPP
  clear hPP
  unfold c9
  go_enter Try.func20, Try.ntmps20
  go_wp2
  all_goals
    refine bodyPost_ret (resRA (heap3 _ _ _ _ _) rfl _ rfl) rfl ?_
    rw [← HPP.out, add_max (x := x) (y := y) (by omega)]
    exact ⟨rfl, below3 _ _ _ _⟩
theorem resPA {W : World} {B : Nat} {cs : Array Value} (h : W.heap[B]? = some (.cells cs 30 (0, 0))) (hs : cs.size = 9) (tmps : Array Value) (h2 : tmps.getD 4 undef = .pointer (some ⟨B, 0, none⟩)) :
    (results Try.f17 tmps).run Try.prog W = .ok (.agg cs) W := by
  have h2' : tmps[4]?.getD undef = .pointer (some ⟨B, 0, none⟩) := by simpa using h2
  have hl := run_loadVar_row (P := Try.prog) W B 30 30 cs (0, 0) _ h Try.underlying30 rfl (by rw [hs]; kernel_rfl)
  simp [results, Try.results17, h2', asAddr, hl]
set_option maxHeartbeats 2000000 in
theorem add_any (x y : Nat → Int) (w : World) : Calls Try.prog 17 #[.agg (c9 x), .agg (c9 y)] w (AggPost w (addC x y)) := by
  obtain ⟨PP, hPP⟩ : ∃ PP, AggPost w (addC x y) = PP := ⟨_, rfl⟩
  rw [hPP]
  have HPP := Lib.hid hPP
  clear hPP
  unfold c9
  go_enter Try.func17, Try.ntmps17
  go_wp2
  all_goals
    refine bodyPost_ret (resPA (heap3 _ _ _ _ _) rfl _ rfl) rfl ?_
    rw [← HPP.out, add_max (x := x) (y := y) (by omega)]
    exact ⟨rfl, below3 _ _ _ _⟩
end Go.Proofs.Ytejehjlegfpgbaa
