/- THE LAW TrieNobody. -/
import Derived.Test.YtflomcbclofbaaaDoorTrieAwake
import Derived.Test.YtflomcbclofbaaaDoorTrieNobW
import Derived.Test.YtflomcbclofbaaaDoorRead
namespace Go.Proofs.YtflomcbclofbaaaDoor
open Go Go.ChangeShapes Go.WideShapes Go.ChangeAt Go.RowKit

theorem co_Act : Tryd.prog.cellsOf 37 = 3 := by kernel_rfl
section
variable {H : Type} {enc_ : TypeId × Value → H} {w : World} {base : Nat} {spare : Nat → Bool} {held : Bool}
theorem read_act : ∀ (fuel : Nat) (cs : List Value) (x : DataW H × List MemPlace), DataW.trod enc_ Tryd.prog w base spare held fuel 37 cs = some x →
    ∃ (k z : Int) (f : ByteArray), cs = [.int .i64 k, .string f, .int .i64 z] ∧ (Lit.int .i64 z).wf = true ∧ f.size ≤ Rows.uptoBulk x.1 := by
  intro fuel cs x h
  obtain ⟨hlen, m, hm, hf⟩ := rd_struct Tryd.underlying37 h
  rw [co_Act] at hlen
  match cs, hlen with
  | [c0, c1, c2], _ =>
    obtain ⟨y0, -, q0⟩ := hf 0 _ rfl
    obtain ⟨y1, hb1, q1⟩ := hf 1 _ rfl
    obtain ⟨y2, -, q2⟩ := hf 2 _ rfl
    obtain ⟨k, rfl, -⟩ := rd_int Tryd.underlying3 (q0 1 (by kernel_rfl))
    obtain ⟨f, rfl, hs⟩ := rd_string Tryd.underlying9 (q1 1 (by kernel_rfl))
    obtain ⟨z, rfl, hz⟩ := rd_int Tryd.underlying3 (q2 1 (by kernel_rfl))
    exact ⟨k, z, f, rfl, hz, Nat.le_trans hs hb1⟩
end
theorem trieNobody_any (w : World) (b : Bool) (k z : Int) (f : ByteArray) (hT : Tabs w) :
    Calls Tryd.prog 4 #[.bool b, .agg #[.int .i64 k, .string f, .int .i64 z]] w fun e w' => e = .returned (.bool true) ∧ Below w.heap.size w w' := nobody_walk awake_any w b k z f hT
end Go.Proofs.YtflomcbclofbaaaDoor
