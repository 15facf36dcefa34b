/- ROUTE: sample, face. -/
import Derived.Test.YtpgdiekpeceicaaDoorRouteKind
namespace Go.Proofs.YtpgdiekpeceicaaDoor
open Go Go.RowKit

def SamplePost (w : World) (k : Nat) (r : Ending) (w' : World) : Prop := ∃ v, r = .returned v ∧ SampleIs k v ∧ Below w.heap.size w w'
theorem sample0 (w : World) : Calls Tryd.prog 70 #[.int .i64 0] w (SamplePost w 0) := by
  obtain ⟨PP, hPP⟩ : ∃ PP, SamplePost w 0 = PP := ⟨_, rfl⟩
  rw [hPP]
  have HPP := Lib.hid hPP
  clear hPP
  go_enter Tryd.func70, Tryd.ntmps70
  go_wp2
  rw [← HPP.out]
  exact ⟨_, rfl, Or.inl ⟨rfl, rfl⟩, Below.refl _ _⟩
theorem sample1 (w : World) : Calls Tryd.prog 70 #[.int .i64 1] w (SamplePost w 1) := by
  obtain ⟨PP, hPP⟩ : ∃ PP, SamplePost w 1 = PP := ⟨_, rfl⟩
  rw [hPP]
  have HPP := Lib.hid hPP
  clear hPP
  go_enter Tryd.func70, Tryd.ntmps70
  go_wp2
  rw [← HPP.out]
  exact ⟨_, rfl, Or.inr (Or.inl ⟨rfl, rfl⟩), Below.refl _ _⟩
theorem sample2 (w : World) : Calls Tryd.prog 70 #[.int .i64 2] w (SamplePost w 2) := by
  obtain ⟨PP, hPP⟩ : ∃ PP, SamplePost w 2 = PP := ⟨_, rfl⟩
  rw [hPP]
  have HPP := Lib.hid hPP
  clear hPP
  go_enter Tryd.func70, Tryd.ntmps70
  go_wp2
  rw [← HPP.out]
  exact ⟨_, rfl, Or.inr (Or.inr (Or.inl ⟨rfl, rfl⟩)), Below.refl _ _⟩
theorem sample3 (w : World) : Calls Tryd.prog 70 #[.int .i64 3] w (SamplePost w 3) := by
  obtain ⟨PP, hPP⟩ : ∃ PP, SamplePost w 3 = PP := ⟨_, rfl⟩
  rw [hPP]
  have HPP := Lib.hid hPP
  clear hPP
  go_enter Tryd.func70, Tryd.ntmps70
  go_wp2
  rw [← HPP.out]
  exact ⟨_, rfl, Or.inr (Or.inr (Or.inr (Or.inl ⟨rfl, rfl⟩))), Below.refl _ _⟩
theorem sample4 (w : World) : Calls Tryd.prog 70 #[.int .i64 4] w (SamplePost w 4) := by
  obtain ⟨PP, hPP⟩ : ∃ PP, SamplePost w 4 = PP := ⟨_, rfl⟩
  rw [hPP]
  have HPP := Lib.hid hPP
  clear hPP
  go_enter Tryd.func70, Tryd.ntmps70
  go_wp2
  rw [← HPP.out]
  exact ⟨_, rfl, Or.inr (Or.inr (Or.inr (Or.inr (Or.inl ⟨rfl, rfl⟩)))), Below.refl _ _⟩
theorem sample5 (w : World) : Calls Tryd.prog 70 #[.int .i64 5] w (SamplePost w 5) := by
  obtain ⟨PP, hPP⟩ : ∃ PP, SamplePost w 5 = PP := ⟨_, rfl⟩
  rw [hPP]
  have HPP := Lib.hid hPP
  clear hPP
  go_enter Tryd.func70, Tryd.ntmps70
  go_wp2
  rw [← HPP.out]
  exact ⟨_, rfl, Or.inr (Or.inr (Or.inr (Or.inr (Or.inr (Or.inl ⟨rfl, rfl⟩))))), Below.refl _ _⟩
theorem sample6 (w : World) : Calls Tryd.prog 70 #[.int .i64 6] w (SamplePost w 6) := by
  obtain ⟨PP, hPP⟩ : ∃ PP, SamplePost w 6 = PP := ⟨_, rfl⟩
  rw [hPP]
  have HPP := Lib.hid hPP
  clear hPP
  go_enter Tryd.func70, Tryd.ntmps70
  go_wp2
  rw [← HPP.out]
  exact ⟨_, rfl, Or.inr (Or.inr (Or.inr (Or.inr (Or.inr (Or.inr (Or.inl ⟨rfl, rfl⟩)))))), Below.refl _ _⟩
theorem sample7 (w : World) : Calls Tryd.prog 70 #[.int .i64 7] w (SamplePost w 7) := by
  obtain ⟨PP, hPP⟩ : ∃ PP, SamplePost w 7 = PP := ⟨_, rfl⟩
  rw [hPP]
  have HPP := Lib.hid hPP
  clear hPP
  go_enter Tryd.func70, Tryd.ntmps70
  go_wp2
  rw [← HPP.out]
  exact ⟨_, rfl, Or.inr (Or.inr (Or.inr (Or.inr (Or.inr (Or.inr (Or.inr (Or.inl ⟨rfl, rfl⟩))))))), Below.refl _ _⟩
theorem sample8 (w : World) : Calls Tryd.prog 70 #[.int .i64 8] w (SamplePost w 8) := by
  obtain ⟨PP, hPP⟩ : ∃ PP, SamplePost w 8 = PP := ⟨_, rfl⟩
  rw [hPP]
  have HPP := Lib.hid hPP
  clear hPP
  go_enter Tryd.func70, Tryd.ntmps70
  go_wp2
  rw [← HPP.out]
  exact ⟨_, rfl, Or.inr (Or.inr (Or.inr (Or.inr (Or.inr (Or.inr (Or.inr (Or.inr (Or.inl ⟨rfl, rfl⟩)))))))), Below.refl _ _⟩
theorem sample9 (w : World) : Calls Tryd.prog 70 #[.int .i64 9] w (SamplePost w 9) := by
  obtain ⟨PP, hPP⟩ : ∃ PP, SamplePost w 9 = PP := ⟨_, rfl⟩
  rw [hPP]
  have HPP := Lib.hid hPP
  clear hPP
  go_enter Tryd.func70, Tryd.ntmps70
  go_wp2
  rw [← HPP.out]
  exact ⟨_, rfl, Or.inr (Or.inr (Or.inr (Or.inr (Or.inr (Or.inr (Or.inr (Or.inr (Or.inr (Or.inl ⟨rfl, rfl⟩))))))))), Below.refl _ _⟩
theorem sample10 (w : World) : Calls Tryd.prog 70 #[.int .i64 10] w (SamplePost w 10) := by
  obtain ⟨PP, hPP⟩ : ∃ PP, SamplePost w 10 = PP := ⟨_, rfl⟩
  rw [hPP]
  have HPP := Lib.hid hPP
  clear hPP
  go_enter Tryd.func70, Tryd.ntmps70
  go_wp2
  rw [← HPP.out]
  exact ⟨_, rfl, Or.inr (Or.inr (Or.inr (Or.inr (Or.inr (Or.inr (Or.inr (Or.inr (Or.inr (Or.inr (Or.inl ⟨rfl, rfl⟩)))))))))), Below.refl _ _⟩
theorem sample11 (w : World) : Calls Tryd.prog 70 #[.int .i64 11] w (SamplePost w 11) := by
  obtain ⟨PP, hPP⟩ : ∃ PP, SamplePost w 11 = PP := ⟨_, rfl⟩
  rw [hPP]
  have HPP := Lib.hid hPP
  clear hPP
  go_enter Tryd.func70, Tryd.ntmps70
  go_wp2
  rw [← HPP.out]
  exact ⟨_, rfl, Or.inr (Or.inr (Or.inr (Or.inr (Or.inr (Or.inr (Or.inr (Or.inr (Or.inr (Or.inr (Or.inr (Or.inl ⟨rfl, _, rfl⟩))))))))))), (Below.refl _ _).alloc (Nat.le_refl _) _⟩
theorem sample12 (w : World) : Calls Tryd.prog 70 #[.int .i64 12] w (SamplePost w 12) := by
  obtain ⟨PP, hPP⟩ : ∃ PP, SamplePost w 12 = PP := ⟨_, rfl⟩
  rw [hPP]
  have HPP := Lib.hid hPP
  clear hPP
  go_enter Tryd.func70, Tryd.ntmps70
  go_wp2
  rw [← HPP.out]
  exact ⟨_, rfl, Or.inr (Or.inr (Or.inr (Or.inr (Or.inr (Or.inr (Or.inr (Or.inr (Or.inr (Or.inr (Or.inr (Or.inr (Or.inl ⟨rfl, rfl⟩)))))))))))), Below.refl _ _⟩
theorem sample13 (w : World) : Calls Tryd.prog 70 #[.int .i64 13] w (SamplePost w 13) := by
  obtain ⟨PP, hPP⟩ : ∃ PP, SamplePost w 13 = PP := ⟨_, rfl⟩
  rw [hPP]
  have HPP := Lib.hid hPP
  clear hPP
  go_enter Tryd.func70, Tryd.ntmps70
  go_wp2
  rw [← HPP.out]
  exact ⟨_, rfl, Or.inr (Or.inr (Or.inr (Or.inr (Or.inr (Or.inr (Or.inr (Or.inr (Or.inr (Or.inr (Or.inr (Or.inr (Or.inr (⟨rfl, rfl⟩))))))))))))), Below.refl _ _⟩
theorem sample_any (k : Nat) (hk : k < 14) (w : World) : Calls Tryd.prog 70 #[.int .i64 (k : Nat)] w (SamplePost w k) := by
  have : k = 0 ∨ k = 1 ∨ k = 2 ∨ k = 3 ∨ k = 4 ∨ k = 5 ∨ k = 6 ∨ k = 7 ∨ k = 8 ∨ k = 9 ∨ k = 10 ∨ k = 11 ∨ k = 12 ∨ k = 13 := by omega
  rcases this with rfl | rfl | rfl | rfl | rfl | rfl | rfl | rfl | rfl | rfl | rfl | rfl | rfl | rfl
  · exact sample0 w
  · exact sample1 w
  · exact sample2 w
  · exact sample3 w
  · exact sample4 w
  · exact sample5 w
  · exact sample6 w
  · exact sample7 w
  · exact sample8 w
  · exact sample9 w
  · exact sample10 w
  · exact sample11 w
  · exact sample12 w
  · exact sample13 w
theorem face0 {v : Value} {b : Bool} (h : TA v 132 b) (w : World) : Calls Tryd.prog 71 #[v, .int .i64 0] w fun r w' => r = .returned (.bool b) ∧ w = w' := by
  obtain ⟨x, ta⟩ := h
  go_enter Tryd.func71, Tryd.ntmps71
  go_wp2
  go_ret
  exact ⟨rfl, rfl⟩
theorem face1 {v : Value} {b : Bool} (h : TA v 135 b) (w : World) : Calls Tryd.prog 71 #[v, .int .i64 1] w fun r w' => r = .returned (.bool b) ∧ w = w' := by
  obtain ⟨x, ta⟩ := h
  go_enter Tryd.func71, Tryd.ntmps71
  go_wp2
  go_ret
  exact ⟨rfl, rfl⟩
theorem face2 {v : Value} {b : Bool} (h : TA v 138 b) (w : World) : Calls Tryd.prog 71 #[v, .int .i64 2] w fun r w' => r = .returned (.bool b) ∧ w = w' := by
  obtain ⟨x, ta⟩ := h
  go_enter Tryd.func71, Tryd.ntmps71
  go_wp2
  go_ret
  exact ⟨rfl, rfl⟩
theorem face3 {v : Value} {b : Bool} (h : TA v 141 b) (w : World) : Calls Tryd.prog 71 #[v, .int .i64 3] w fun r w' => r = .returned (.bool b) ∧ w = w' := by
  obtain ⟨x, ta⟩ := h
  go_enter Tryd.func71, Tryd.ntmps71
  go_wp2
  go_ret
  exact ⟨rfl, rfl⟩
theorem face4 {v : Value} {b : Bool} (h : TA v 144 b) (w : World) : Calls Tryd.prog 71 #[v, .int .i64 4] w fun r w' => r = .returned (.bool b) ∧ w = w' := by
  obtain ⟨x, ta⟩ := h
  go_enter Tryd.func71, Tryd.ntmps71
  go_wp2
  go_ret
  exact ⟨rfl, rfl⟩
theorem face5 {v : Value} {b : Bool} (h : TA v 147 b) (w : World) : Calls Tryd.prog 71 #[v, .int .i64 5] w fun r w' => r = .returned (.bool b) ∧ w = w' := by
  obtain ⟨x, ta⟩ := h
  go_enter Tryd.func71, Tryd.ntmps71
  go_wp2
  go_ret
  exact ⟨rfl, rfl⟩
theorem face6 {v : Value} {b : Bool} (h : TA v 150 b) (w : World) : Calls Tryd.prog 71 #[v, .int .i64 6] w fun r w' => r = .returned (.bool b) ∧ w = w' := by
  obtain ⟨x, ta⟩ := h
  go_enter Tryd.func71, Tryd.ntmps71
  go_wp2
  go_ret
  exact ⟨rfl, rfl⟩
theorem face7 {v : Value} {b : Bool} (h : TA v 153 b) (w : World) : Calls Tryd.prog 71 #[v, .int .i64 7] w fun r w' => r = .returned (.bool b) ∧ w = w' := by
  obtain ⟨x, ta⟩ := h
  go_enter Tryd.func71, Tryd.ntmps71
  go_wp2
  go_ret
  exact ⟨rfl, rfl⟩
theorem face8 {v : Value} {b : Bool} (h : TA v 156 b) (w : World) : Calls Tryd.prog 71 #[v, .int .i64 8] w fun r w' => r = .returned (.bool b) ∧ w = w' := by
  obtain ⟨x, ta⟩ := h
  go_enter Tryd.func71, Tryd.ntmps71
  go_wp2
  go_ret
  exact ⟨rfl, rfl⟩
theorem face9 {v : Value} {b : Bool} (h : TA v 159 b) (w : World) : Calls Tryd.prog 71 #[v, .int .i64 9] w fun r w' => r = .returned (.bool b) ∧ w = w' := by
  obtain ⟨x, ta⟩ := h
  go_enter Tryd.func71, Tryd.ntmps71
  go_wp2
  go_ret
  exact ⟨rfl, rfl⟩
theorem face_any {k : Nat} {v : Value} (h : SampleIs k v) (f : Nat) (hf : f < 10) (w : World) : Calls Tryd.prog 71 #[v, .int .i64 (f : Nat)] w fun r w' => r = .returned (.bool (faceB k f)) ∧ w = w' := by
  obtain ⟨h0, h1, h2, h3, h4, h5, h6, h7, h8, h9⟩ := sample_face h
  have : f = 0 ∨ f = 1 ∨ f = 2 ∨ f = 3 ∨ f = 4 ∨ f = 5 ∨ f = 6 ∨ f = 7 ∨ f = 8 ∨ f = 9 := by omega
  rcases this with rfl | rfl | rfl | rfl | rfl | rfl | rfl | rfl | rfl | rfl
  · exact face0 h0 w
  · exact face1 h1 w
  · exact face2 h2 w
  · exact face3 h3 w
  · exact face4 h4 w
  · exact face5 h5 w
  · exact face6 h6 w
  · exact face7 h7 w
  · exact face8 h8 w
  · exact face9 h9 w
end Go.Proofs.YtpgdiekpeceicaaDoor
