/- ROUTE: conduitref02.Methods, Lacks, Implements. -/
import Derived.Test.YtpgdiekpeceicaaDoorRouteHas
namespace Go.Proofs.YtpgdiekpeceicaaDoor
open Go Go.RowKit

theorem hasK_any (k : Nat) (hk : k < 14) (m : Nat) (hm : m < 6) (w : World) : Calls Tryd.prog 65 #[.int .i64 (k : Nat), .int .i64 (m : Nat)] w fun r w' => r = .returned (.bool (hasK k m)) ∧ Below w.heap.size w w' := by
  have : m = 0 ∨ m = 1 ∨ m = 2 ∨ m = 3 ∨ m = 4 ∨ m = 5 := by omega
  rcases this with rfl | rfl | rfl | rfl | rfl | rfl
  · exact has0 k hk w
  · exact has1 k hk w
  · exact has2 k hk w
  · exact has3 k hk w
  · exact has4 k hk w
  · exact has5 k hk w
def methodsL (f : Nat) : List Nat :=
  match f with
  | 0 => [0]
  | 1 => [1]
  | 2 => [2]
  | 3 => [3]
  | 4 => [4]
  | 5 => [5]
  | 6 => [0, 1]
  | 7 => [0, 4]
  | 8 => [4, 5]
  | 9 => [0, 1, 4]
  | _ => []
theorem methodsL_lt : ∀ f, f < 10 → ∀ m ∈ methodsL f, m < 6 := by decide
/-- new cells that hold the numbers of a list -/
def MethPost (w : World) (l : List Nat) (r : Ending) (w' : World) : Prop := ∃ c, r = .returned (.slice (some ⟨w.heap.size, 0, none⟩) l.length c) ∧ Below w.heap.size w w' ∧ w.heap.size < w'.heap.size ∧ ∀ j m, l[j]? = some m → w'.cell? ⟨w.heap.size, j, none⟩ = some (.int .i64 (m : Nat))
theorem meth0 (w : World) : Calls Tryd.prog 54 #[.int .i64 0] w (MethPost w [0]) := by
  obtain ⟨PP, hPP⟩ : ∃ PP, MethPost w [0] = PP := ⟨_, rfl⟩
  rw [hPP]
  have HPP := Lib.hid hPP
  clear hPP
  go_enter Tryd.func54, Tryd.ntmps54
  go_wp2
  rw [← HPP.out]
  refine ⟨_, rfl, (Below.refl _ _).alloc (Nat.le_refl _) _, by simp, fun j m h => ?_⟩
  have hj : j = 0 := by have := (List.getElem?_eq_some_iff.1 h).1; simp at this; omega
  rcases hj with rfl <;> (cases h; go_simp)
theorem meth1 (w : World) : Calls Tryd.prog 54 #[.int .i64 1] w (MethPost w [1]) := by
  obtain ⟨PP, hPP⟩ : ∃ PP, MethPost w [1] = PP := ⟨_, rfl⟩
  rw [hPP]
  have HPP := Lib.hid hPP
  clear hPP
  go_enter Tryd.func54, Tryd.ntmps54
  go_wp2
  rw [← HPP.out]
  refine ⟨_, rfl, (Below.refl _ _).alloc (Nat.le_refl _) _, by simp, fun j m h => ?_⟩
  have hj : j = 0 := by have := (List.getElem?_eq_some_iff.1 h).1; simp at this; omega
  rcases hj with rfl <;> (cases h; go_simp)
theorem meth2 (w : World) : Calls Tryd.prog 54 #[.int .i64 2] w (MethPost w [2]) := by
  obtain ⟨PP, hPP⟩ : ∃ PP, MethPost w [2] = PP := ⟨_, rfl⟩
  rw [hPP]
  have HPP := Lib.hid hPP
  clear hPP
  go_enter Tryd.func54, Tryd.ntmps54
  go_wp2
  rw [← HPP.out]
  refine ⟨_, rfl, (Below.refl _ _).alloc (Nat.le_refl _) _, by simp, fun j m h => ?_⟩
  have hj : j = 0 := by have := (List.getElem?_eq_some_iff.1 h).1; simp at this; omega
  rcases hj with rfl <;> (cases h; go_simp)
theorem meth3 (w : World) : Calls Tryd.prog 54 #[.int .i64 3] w (MethPost w [3]) := by
  obtain ⟨PP, hPP⟩ : ∃ PP, MethPost w [3] = PP := ⟨_, rfl⟩
  rw [hPP]
  have HPP := Lib.hid hPP
  clear hPP
  go_enter Tryd.func54, Tryd.ntmps54
  go_wp2
  rw [← HPP.out]
  refine ⟨_, rfl, (Below.refl _ _).alloc (Nat.le_refl _) _, by simp, fun j m h => ?_⟩
  have hj : j = 0 := by have := (List.getElem?_eq_some_iff.1 h).1; simp at this; omega
  rcases hj with rfl <;> (cases h; go_simp)
theorem meth4 (w : World) : Calls Tryd.prog 54 #[.int .i64 4] w (MethPost w [4]) := by
  obtain ⟨PP, hPP⟩ : ∃ PP, MethPost w [4] = PP := ⟨_, rfl⟩
  rw [hPP]
  have HPP := Lib.hid hPP
  clear hPP
  go_enter Tryd.func54, Tryd.ntmps54
  go_wp2
  rw [← HPP.out]
  refine ⟨_, rfl, (Below.refl _ _).alloc (Nat.le_refl _) _, by simp, fun j m h => ?_⟩
  have hj : j = 0 := by have := (List.getElem?_eq_some_iff.1 h).1; simp at this; omega
  rcases hj with rfl <;> (cases h; go_simp)
theorem meth5 (w : World) : Calls Tryd.prog 54 #[.int .i64 5] w (MethPost w [5]) := by
  obtain ⟨PP, hPP⟩ : ∃ PP, MethPost w [5] = PP := ⟨_, rfl⟩
  rw [hPP]
  have HPP := Lib.hid hPP
  clear hPP
  go_enter Tryd.func54, Tryd.ntmps54
  go_wp2
  rw [← HPP.out]
  refine ⟨_, rfl, (Below.refl _ _).alloc (Nat.le_refl _) _, by simp, fun j m h => ?_⟩
  have hj : j = 0 := by have := (List.getElem?_eq_some_iff.1 h).1; simp at this; omega
  rcases hj with rfl <;> (cases h; go_simp)
theorem meth6 (w : World) : Calls Tryd.prog 54 #[.int .i64 6] w (MethPost w [0, 1]) := by
  obtain ⟨PP, hPP⟩ : ∃ PP, MethPost w [0, 1] = PP := ⟨_, rfl⟩
  rw [hPP]
  have HPP := Lib.hid hPP
  clear hPP
  go_enter Tryd.func54, Tryd.ntmps54
  go_wp2
  rw [← HPP.out]
  refine ⟨_, rfl, (Below.refl _ _).alloc (Nat.le_refl _) _, by simp, fun j m h => ?_⟩
  have hj : j = 0 ∨ j = 1 := by have := (List.getElem?_eq_some_iff.1 h).1; simp at this; omega
  rcases hj with rfl | rfl <;> (cases h; go_simp)
theorem meth7 (w : World) : Calls Tryd.prog 54 #[.int .i64 7] w (MethPost w [0, 4]) := by
  obtain ⟨PP, hPP⟩ : ∃ PP, MethPost w [0, 4] = PP := ⟨_, rfl⟩
  rw [hPP]
  have HPP := Lib.hid hPP
  clear hPP
  go_enter Tryd.func54, Tryd.ntmps54
  go_wp2
  rw [← HPP.out]
  refine ⟨_, rfl, (Below.refl _ _).alloc (Nat.le_refl _) _, by simp, fun j m h => ?_⟩
  have hj : j = 0 ∨ j = 1 := by have := (List.getElem?_eq_some_iff.1 h).1; simp at this; omega
  rcases hj with rfl | rfl <;> (cases h; go_simp)
theorem meth8 (w : World) : Calls Tryd.prog 54 #[.int .i64 8] w (MethPost w [4, 5]) := by
  obtain ⟨PP, hPP⟩ : ∃ PP, MethPost w [4, 5] = PP := ⟨_, rfl⟩
  rw [hPP]
  have HPP := Lib.hid hPP
  clear hPP
  go_enter Tryd.func54, Tryd.ntmps54
  go_wp2
  rw [← HPP.out]
  refine ⟨_, rfl, (Below.refl _ _).alloc (Nat.le_refl _) _, by simp, fun j m h => ?_⟩
  have hj : j = 0 ∨ j = 1 := by have := (List.getElem?_eq_some_iff.1 h).1; simp at this; omega
  rcases hj with rfl | rfl <;> (cases h; go_simp)
theorem meth9 (w : World) : Calls Tryd.prog 54 #[.int .i64 9] w (MethPost w [0, 1, 4]) := by
  obtain ⟨PP, hPP⟩ : ∃ PP, MethPost w [0, 1, 4] = PP := ⟨_, rfl⟩
  rw [hPP]
  have HPP := Lib.hid hPP
  clear hPP
  go_enter Tryd.func54, Tryd.ntmps54
  go_wp2
  rw [← HPP.out]
  refine ⟨_, rfl, (Below.refl _ _).alloc (Nat.le_refl _) _, by simp, fun j m h => ?_⟩
  have hj : j = 0 ∨ j = 1 ∨ j = 2 := by have := (List.getElem?_eq_some_iff.1 h).1; simp at this; omega
  rcases hj with rfl | rfl | rfl <;> (cases h; go_simp)
theorem meth_any (f : Nat) (hf : f < 10) (w : World) : Calls Tryd.prog 54 #[.int .i64 (f : Nat)] w (MethPost w (methodsL f)) := by
  have : f = 0 ∨ f = 1 ∨ f = 2 ∨ f = 3 ∨ f = 4 ∨ f = 5 ∨ f = 6 ∨ f = 7 ∨ f = 8 ∨ f = 9 := by omega
  rcases this with rfl | rfl | rfl | rfl | rfl | rfl | rfl | rfl | rfl | rfl
  · exact meth0 w
  · exact meth1 w
  · exact meth2 w
  · exact meth3 w
  · exact meth4 w
  · exact meth5 w
  · exact meth6 w
  · exact meth7 w
  · exact meth8 w
  · exact meth9 w
end Go.Proofs.YtpgdiekpeceicaaDoor
