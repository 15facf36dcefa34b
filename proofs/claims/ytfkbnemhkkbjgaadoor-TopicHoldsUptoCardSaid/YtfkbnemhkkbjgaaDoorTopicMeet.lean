/- THE PROGRAM's at, least. -/
import Derived.Test.YtfkbnemhkkbjgaaDoorTopicCovers
import Derived.RegionTactic
import Derived.Test.YtfkbnemhkkbjgaaDoorTopicRefF
namespace Go.Proofs.YtfkbnemhkkbjgaaDoor
open Go Go.RowKit


set_option maxHeartbeats 400000 in
theorem least_any (x : ByteArray) (w : World) :
    Calls Tryd.prog 46 #[.string x] w fun e w' => e = .returned (.string (leastV x)) ∧ w = w' := by
  unfold leastV
  cases h : (x.toList == [43])
  all_goals
    go_enter Tryd.func46, Tryd.ntmps46
    go_wp2
    go_ret
    exact ⟨rfl, rfl⟩

set_option maxHeartbeats 1000000 in
theorem at_behind (l : List ByteArray) (k : Nat) (v : Value) (w : World) (hS : Sl w v l) (hk : l.length ≤ k) :
    Calls Tryd.prog 45 #[v, .int .i64 k] w fun e w' => e = .returned (.agg #[.string ⟨#[]⟩, .bool true, .bool false]) ∧ Below w.heap.size w w' := by
  obtain ⟨p, cap, rfl, hc1, hc2, hcells⟩ := hS
  have hge : (l.length : Int) ≤ (k : Int) := by omega
  clear hcells
  go_enter Tryd.func45, Tryd.ntmps45
  go_wp2
  exact bodyPost_ret (v := .agg #[.string ⟨#[]⟩, .bool true, .bool false]) (by simp [results, Tryd.results45, go_sem]) rfl ⟨rfl, (Below.refl _ w).alloc (Nat.le_refl _) _⟩

set_option maxHeartbeats 1000000 in
theorem at_in (l : List ByteArray) (k : Nat) (x : ByteArray) (v : Value) (w : World) (hS : Sl w v l) (hx : l[k]? = some x) :
    Calls Tryd.prog 45 #[v, .int .i64 k] w fun e w' => e = .returned (.agg #[.string x, .bool false, .bool (x.toList == [35])]) ∧ Below w.heap.size w w' := by
  obtain ⟨hlt, _⟩ := List.getElem?_eq_some_iff.1 hx
  obtain ⟨p, cap, rfl, hc1, hc2, hcells⟩ := hS
  have hge : ¬ (l.length : Int) ≤ (k : Int) := by omega
  obtain ⟨b, o, rfl, hcell⟩ := hcells.resolve_left (by rintro rfl; simp at hlt)
  have hck := hcell k x hx
  have hbb := World.block_lt_of_cell? w _ hck
  have hlt' : (k : Int) < (l.length : Int) := by omega
  clear hcells hcell hx
  go_enter Tryd.func45, Tryd.ntmps45
  go_wp2

  go_region
  all_goals go_wp2
  refine bodyPost_ret (v := .agg #[.string x, .bool false, .bool (x.toList == [35])]) (by simp [results, Tryd.results45, go_sem]) rfl ⟨rfl, ?_⟩
  exact ((Below.refl _ w).alloc (Nat.le_refl _) _).drew
end Go.Proofs.YtfkbnemhkkbjgaaDoor
