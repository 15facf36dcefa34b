/- STATS: AN ARGUMENT OF TYPE []int64, opened. -/
import Derived.Test.YtejehjlegfpgbaaStatsRow
import Derived.Test.YtejehjlegfpgbaaStatsRefE
namespace Go.Proofs.Ytejehjlegfpgbaa
open Go Go.ChangeShapes Go.WideShapes Go.ChangeAt Go.RowKit Go.Deep

theorem open_il {H : Type} {enc : TypeId × Value → H} {W : World} {a0 : Option Addr} {len cap : Nat} {d0 : DataW H} {p : List MemPlace}
    (h0 : DataW.Trod enc Try.prog W 0 (fun _ => true) true 32 (.slice a0 len cap) d0 p) :
    ∃ l : List Int, Il W (.slice a0 len cap) l ∧ l.length ≤ Rows.uptoBulk d0 ∧ True := by
  obtain ⟨fuel, hf⟩ := h0
  rcases open_ints Try.underlying32 Try.underlying2 co_int64 hf with ⟨hcs, hx⟩ | ⟨a, len', cap', zs, hcs, _, hl, hm, hz, hx, hcell, hwz⟩
  · simp [Value.cells] at hcs
    obtain ⟨rfl, rfl, rfl⟩ := hcs
    exact ⟨[], ⟨none, 0, rfl, Nat.le_refl _, by omega, fun h => by simp at h⟩, Nat.zero_le _, trivial⟩
  · simp [Value.cells] at hcs
    obtain ⟨rfl, rfl, rfl⟩ := hcs
    simp only [Prod.mk.injEq] at hx
    obtain ⟨rfl, rfl⟩ := hx
    simp only [if_true] at hz
    unfold maxLen at hm
    have hlen : (zs.take len).length = len := by simp; omega
    refine ⟨zs.take len, ⟨_, _, by rw [hlen], by rw [hlen]; exact hl, by omega, fun h => ?_⟩, ?_, trivial⟩
    · rw [hlen] at h
      have hc0 := hcell 0 (by omega)
      have e0 : a.add 0 = a := if_pos rfl
      rw [e0] at hc0
      obtain ⟨b, o, rfl⟩ := plain_addr hc0
      refine ⟨b, o, rfl, fun j x hj => ?_⟩
      obtain ⟨hlt, e2⟩ := List.getElem?_eq_some_iff.1 hj
      rw [hlen] at hlt
      have := hcell j (by omega)
      rw [add_plain] at this
      rw [this]
      have e3 : zs[j]? = some x := by rw [List.getElem?_take_of_lt (by omega)] at hj; exact hj
      simp [List.getD, e3]
    · rw [hlen]
      simp only [Rows.uptoBulk]
      have := bulk_len (H := H) (lits .i64 (zs.take len))
      have e : (lits (H := H) .i64 (zs.take len)).length = len := by simp [lits]; omega
      omega
end Go.Proofs.Ytejehjlegfpgbaa
