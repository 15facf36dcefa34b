/- STATS: what the program sees of an event. -/
import Derived.Test.YtejehjlegfpgbaaStatsBase
namespace Go.Proofs.Ytejehjlegfpgbaa
open Go Go.RowKit

def lookV (e : Ev) : Value :=
  if e.k = 1 then .iface 63 (.agg #[.int .i64 e.i, .int .i64 e.a])
  else if e.k = 3 then .iface 65 (.agg #[.int .i64 e.h])
  else if e.k = 4 then .iface 68 (.agg #[.int .i64 e.h])
  else if e.k = 5 then .iface 69 (.agg #[.int .i64 e.h])
  else if e.k = 6 then .iface 70 (.agg #[.int .i64 e.h])
  else if e.k = 7 then .iface 72 (.agg #[.int .i64 e.h, .int .i64 e.i, .int .i64 e.a, .int .i64 e.er])
  else .nilIface

theorem ec_cells (w : World) (e : Ev) (t : TypeId) : (w.alloc (.cells (ec e).toArray t)).cell? ⟨w.heap.size, 0, none⟩ = some (.int .i64 e.k) ∧ (w.alloc (.cells (ec e).toArray t)).cell? ⟨w.heap.size, 1, none⟩ = some (.int .i64 e.a) ∧
    (w.alloc (.cells (ec e).toArray t)).cell? ⟨w.heap.size, 2, none⟩ = some (.int .i64 e.i) ∧ (w.alloc (.cells (ec e).toArray t)).cell? ⟨w.heap.size, 3, none⟩ = some (.int .i64 e.h) ∧ (w.alloc (.cells (ec e).toArray t)).cell? ⟨w.heap.size, 5, none⟩ = some (.int .i64 e.er) := by
  refine ⟨?_, ?_, ?_, ?_, ?_⟩ <;> (rw [cell_of_row _ _ _ _ _ _ (heap_alloc_new w _)]; rfl)

set_option maxHeartbeats 2000000 in
theorem look_any (e : Ev) (w : World) :
    Calls Try.prog 24 #[.agg (ec e).toArray] w fun r w' => r = .returned (lookV e) ∧ w' = w.alloc (.cells (ec e).toArray 50) := by
  obtain ⟨c0, c1, c2, c3, c5⟩ := ec_cells w e 50
  have hk : e.k = 1 ∨ e.k = 3 ∨ e.k = 4 ∨ e.k = 5 ∨ e.k = 6 ∨ e.k = 7 ∨ ((e.k == 1) = false ∧ (e.k == 3) = false ∧ (e.k == 4) = false ∧ (e.k == 5) = false ∧ (e.k == 6) = false ∧ (e.k == 7) = false) := by
    simp only [beq_eq_false_iff_ne, ne_eq]; omega
  generalize hV : lookV e = V
  unfold lookV at hV
  rcases hk with hk | hk | hk | hk | hk | hk | ⟨h1, h3, h4, h5, h6, h7⟩
  case inr.inr.inr.inr.inr.inr =>
    simp only [beq_eq_false_iff_ne, ne_eq] at h1 h3 h4 h5 h6 h7
    rw [if_neg h1, if_neg h3, if_neg h4, if_neg h5, if_neg h6, if_neg h7] at hV
    have b1 : (e.k == 1) = false := beq_eq_false_iff_ne.2 h1
    have b3 : (e.k == 3) = false := beq_eq_false_iff_ne.2 h3
    have b4 : (e.k == 4) = false := beq_eq_false_iff_ne.2 h4
    have b5 : (e.k == 5) = false := beq_eq_false_iff_ne.2 h5
    have b6 : (e.k == 6) = false := beq_eq_false_iff_ne.2 h6
    have b7 : (e.k == 7) = false := beq_eq_false_iff_ne.2 h7
    subst hV
    go_enter Try.func24, Try.ntmps24
    go_wp2
    go_ret
    exact ⟨rfl, rfl⟩
  all_goals
    rw [hk] at c0 hV
    simp only [Int.reduceEq, if_false, if_pos] at hV
    clear hk
    subst hV
    go_enter Try.func24, Try.ntmps24
    go_wp2
    go_ret
    exact ⟨rfl, rfl⟩
end Go.Proofs.Ytejehjlegfpgbaa
