/- ROUTE: conduitref01.Has. -/
import Derived.Test.YtpgdiekpeceicaaDoorRouteHolds
namespace Go.Proofs.YtpgdiekpeceicaaDoor
open Go Go.RowKit

def hasK (k m : Nat) : Bool :=
  match m with
  | 0 => k == 4 || k == 5 || k == 7 || k == 8 || k == 9 || k == 11 || k == 12
  | 1 => k == 5 || k == 2 || k == 10
  | 2 => k == 10 || k == 11 || k == 12
  | 3 => k == 11 || k == 12
  | 4 => k == 1 || k == 2 || k == 3 || k == 4 || k == 5
  | 5 => k == 1 || k == 3
  | _ => false
theorem has0 (k : Nat) (hk : k < 14) (w : World) : Calls Tryd.prog 65 #[.int .i64 (k : Nat), .int .i64 0] w fun r w' => r = .returned (.bool (hasK k 0)) ∧ Below w.heap.size w w' := by
  have : k = 0 ∨ k = 1 ∨ k = 2 ∨ k = 3 ∨ k = 4 ∨ k = 5 ∨ k = 6 ∨ k = 7 ∨ k = 8 ∨ k = 9 ∨ k = 10 ∨ k = 11 ∨ k = 12 ∨ k = 13 := by omega
  rcases this with rfl | rfl | rfl | rfl | rfl | rfl | rfl | rfl | rfl | rfl | rfl | rfl | rfl | rfl <;>
  · go_enter Tryd.func65, Tryd.ntmps65
    go_wp2
    go_ret
    exact ⟨rfl, Below.refl _ _⟩
theorem has1 (k : Nat) (hk : k < 14) (w : World) : Calls Tryd.prog 65 #[.int .i64 (k : Nat), .int .i64 1] w fun r w' => r = .returned (.bool (hasK k 1)) ∧ Below w.heap.size w w' := by
  have : k = 0 ∨ k = 1 ∨ k = 2 ∨ k = 3 ∨ k = 4 ∨ k = 5 ∨ k = 6 ∨ k = 7 ∨ k = 8 ∨ k = 9 ∨ k = 10 ∨ k = 11 ∨ k = 12 ∨ k = 13 := by omega
  rcases this with rfl | rfl | rfl | rfl | rfl | rfl | rfl | rfl | rfl | rfl | rfl | rfl | rfl | rfl <;>
  · go_enter Tryd.func65, Tryd.ntmps65
    go_wp2
    go_ret
    exact ⟨rfl, Below.refl _ _⟩
theorem has2 (k : Nat) (hk : k < 14) (w : World) : Calls Tryd.prog 65 #[.int .i64 (k : Nat), .int .i64 2] w fun r w' => r = .returned (.bool (hasK k 2)) ∧ Below w.heap.size w w' := by
  have : k = 0 ∨ k = 1 ∨ k = 2 ∨ k = 3 ∨ k = 4 ∨ k = 5 ∨ k = 6 ∨ k = 7 ∨ k = 8 ∨ k = 9 ∨ k = 10 ∨ k = 11 ∨ k = 12 ∨ k = 13 := by omega
  rcases this with rfl | rfl | rfl | rfl | rfl | rfl | rfl | rfl | rfl | rfl | rfl | rfl | rfl | rfl <;>
  · go_enter Tryd.func65, Tryd.ntmps65
    go_wp2
    go_ret
    exact ⟨rfl, Below.refl _ _⟩
theorem has3 (k : Nat) (hk : k < 14) (w : World) : Calls Tryd.prog 65 #[.int .i64 (k : Nat), .int .i64 3] w fun r w' => r = .returned (.bool (hasK k 3)) ∧ Below w.heap.size w w' := by
  have : k = 0 ∨ k = 1 ∨ k = 2 ∨ k = 3 ∨ k = 4 ∨ k = 5 ∨ k = 6 ∨ k = 7 ∨ k = 8 ∨ k = 9 ∨ k = 10 ∨ k = 11 ∨ k = 12 ∨ k = 13 := by omega
  rcases this with rfl | rfl | rfl | rfl | rfl | rfl | rfl | rfl | rfl | rfl | rfl | rfl | rfl | rfl <;>
  · go_enter Tryd.func65, Tryd.ntmps65
    go_wp2
    go_ret
    exact ⟨rfl, Below.refl _ _⟩
theorem has4 (k : Nat) (hk : k < 14) (w : World) : Calls Tryd.prog 65 #[.int .i64 (k : Nat), .int .i64 4] w fun r w' => r = .returned (.bool (hasK k 4)) ∧ Below w.heap.size w w' := by
  have : k = 0 ∨ k = 1 ∨ k = 2 ∨ k = 3 ∨ k = 4 ∨ k = 5 ∨ k = 6 ∨ k = 7 ∨ k = 8 ∨ k = 9 ∨ k = 10 ∨ k = 11 ∨ k = 12 ∨ k = 13 := by omega
  rcases this with rfl | rfl | rfl | rfl | rfl | rfl | rfl | rfl | rfl | rfl | rfl | rfl | rfl | rfl <;>
  · go_enter Tryd.func65, Tryd.ntmps65
    go_wp2
    go_ret
    exact ⟨rfl, Below.refl _ _⟩
theorem has5 (k : Nat) (hk : k < 14) (w : World) : Calls Tryd.prog 65 #[.int .i64 (k : Nat), .int .i64 5] w fun r w' => r = .returned (.bool (hasK k 5)) ∧ Below w.heap.size w w' := by
  have : k = 0 ∨ k = 1 ∨ k = 2 ∨ k = 3 ∨ k = 4 ∨ k = 5 ∨ k = 6 ∨ k = 7 ∨ k = 8 ∨ k = 9 ∨ k = 10 ∨ k = 11 ∨ k = 12 ∨ k = 13 := by omega
  rcases this with rfl | rfl | rfl | rfl | rfl | rfl | rfl | rfl | rfl | rfl | rfl | rfl | rfl | rfl <;>
  · go_enter Tryd.func65, Tryd.ntmps65
    go_wp2
    go_ret
    exact ⟨rfl, Below.refl _ _⟩
end Go.Proofs.YtpgdiekpeceicaaDoor
