/- WIRE: the arguments opened: Turned. -/
import Derived.Test.YtmncpbfghabamaaDoorWireRow
namespace Go.Proofs.YtmncpbfghabamaaDoor
open Go Go.ChangeShapes Go.WideShapes Go.ChangeAt Go.RowKit Go.Deep

theorem co_Turned : Tryd.prog.cellsOf 54 = 3 := by kernel_rfl
theorem wf_u16 {z : Int} (h : (Lit.int .u16 z).wf = true) : 0 ≤ z ∧ z < 65536 := by
  simp only [Lit.wf, Bool.and_eq_true, decide_eq_true_eq] at h
  have h1 : 0 ≤ z := h.1
  have h2 : z ≤ 65535 := h.2
  omega
section
variable {H : Type} {enc_ : TypeId × Value → H} {w : World} {base : Nat} {spare : Nat → Bool} {held : Bool}
set_option maxRecDepth 100000 in
theorem read_turned : ∀ (fuel : Nat) (cs : List Value) (x : DataW H × List MemPlace), DataW.trod enc_ Tryd.prog w base spare held fuel 54 cs = some x →
    ∃ (ta tb tc : Int), cs = [.int .i64 ta, .int .u16 tb, .int .i64 tc] ∧ I64 ta ∧ (0 ≤ tb ∧ tb < 65536) ∧ I64 tc := by
  intro fuel cs x h
  obtain ⟨xs, m, hm, rfl, hlen, hx, hf⟩ := DataW.trod_struct Tryd.underlying54 h
  rw [co_Turned] at hlen
  match xs, hx with
  | [y0, y1, y2], _ =>
  match cs, hlen with
  | [c0, c1, c2], _ =>
    have q0 : DataW.trod enc_ Tryd.prog w base spare held m 3 [c0] = some y0 := by have h := hf 0 _ rfl; rw [show Tryd.prog.cellsOf _ = 1 from by kernel_rfl] at h; exact h
    have q1 : DataW.trod enc_ Tryd.prog w base spare held m 49 [c1] = some y1 := by have h := hf 1 _ rfl; rw [show Tryd.prog.cellsOf _ = 1 from by kernel_rfl] at h; exact h
    have q2 : DataW.trod enc_ Tryd.prog w base spare held m 3 [c2] = some y2 := by have h := hf 2 _ rfl; rw [show Tryd.prog.cellsOf _ = 1 from by kernel_rfl] at h; exact h
    obtain ⟨z0, rfl, f0⟩ := rdw_int Tryd.underlying3 q0
    obtain ⟨z1, rfl, f1⟩ := rdw_int Tryd.underlying49 q1
    obtain ⟨z2, rfl, f2⟩ := rdw_int Tryd.underlying3 q2
    exact ⟨z0, z1, z2, rfl, wf_i64 f0, wf_u16 f1, wf_i64 f2⟩
end
end Go.Proofs.YtmncpbfghabamaaDoor
