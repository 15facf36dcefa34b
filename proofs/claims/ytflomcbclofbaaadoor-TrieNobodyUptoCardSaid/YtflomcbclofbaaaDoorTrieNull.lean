/- TRIE: a Trie that New did not give. -/
import Derived.Test.YtflomcbclofbaaaDoorTriePut
import Derived.Test.YtflomcbclofbaaaDoorTopicFilter
import Derived.Deep.RegionWith
import Derived.Deep.DrawnRows
namespace Go.Proofs.YtflomcbclofbaaaDoor
open Go Go.RowKit
attribute [local go_sem ↓] Go.wp_at_zero Go.wp_at_succ

/-- no trie -/
def Nul (W : World) (p : Option Addr) : Prop := p = none ∨ ∃ a, p = some ⟨a, 0, none⟩ ∧ W.heap[a]? = some (.cells #[.pointer none, .int .i64 0] 40 (0, 0))
theorem no_null (p : Option Addr) (w : World) (h : Nul w p) : Calls Tryd.prog 19 #[.pointer p] w fun e w' => e = .returned (.bool true) ∧ w' = w :=
  no_any p w true (h.imp (fun h => ⟨h, rfl⟩) (fun ⟨a, h1, h2⟩ => ⟨a, none, 0, h1, h2, rfl⟩))
theorem null_Add (p : Option Addr) (w : World) (f : ByteArray) (z : Int) (h : Nul w p) : Calls Tryd.prog 6 #[.pointer p, .string f, .int .i64 z] w fun e w' => e = .returned (.bool false) ∧ w' = w := by
  obtain ⟨PP, hPP⟩ : ∃ PP : Ending → World → Prop, (fun e w' => e = .returned (.bool false) ∧ w' = w) = PP := ⟨_, rfl⟩
  rw [hPP]
  have HPP := Lib.hid hPP
  have CN := Lib.hid (no_null p w h)
  clear hPP h
  go_enter Tryd.func6, Tryd.ntmps6
  go_wp2_with fail
  refine CN.out.mono ?_
  rintro e w1 ⟨rfl, hw⟩
  subst w1
  go_wp2_with fail
  rw [← HPP.out]
  exact ⟨rfl, rfl⟩
theorem null_Match (p : Option Addr) (w : World) (f : ByteArray) (h : Nul w p) : Calls Tryd.prog 7 #[.pointer p, .string f] w fun e w' => e = .returned (.slice none 0 0) ∧ w' = w := by
  obtain ⟨PP, hPP⟩ : ∃ PP : Ending → World → Prop, (fun e w' => e = .returned (.slice none 0 0) ∧ w' = w) = PP := ⟨_, rfl⟩
  rw [hPP]
  have HPP := Lib.hid hPP
  have CN := Lib.hid (no_null p w h)
  clear hPP h
  go_enter Tryd.func7, Tryd.ntmps7
  go_wp2_with fail
  refine CN.out.mono ?_
  rintro e w1 ⟨rfl, hw⟩
  subst w1
  go_wp2_with fail
  rw [← HPP.out]
  exact ⟨rfl, rfl⟩
theorem null_Filters (p : Option Addr) (w : World) (h : Nul w p) : Calls Tryd.prog 12 #[.pointer p] w fun e w' => e = .returned (.slice none 0 0) ∧ w' = w := by
  obtain ⟨PP, hPP⟩ : ∃ PP : Ending → World → Prop, (fun e w' => e = .returned (.slice none 0 0) ∧ w' = w) = PP := ⟨_, rfl⟩
  rw [hPP]
  have HPP := Lib.hid hPP
  have CN := Lib.hid (no_null p w h)
  clear hPP h
  go_enter Tryd.func12, Tryd.ntmps12
  go_wp2_with fail
  refine CN.out.mono ?_
  rintro e w1 ⟨rfl, hw⟩
  subst w1
  go_wp2_with fail
  rw [← HPP.out]
  exact ⟨rfl, rfl⟩
theorem null_Under (p : Option Addr) (w : World) (f : ByteArray) (h : Nul w p) : Calls Tryd.prog 13 #[.pointer p, .string f] w fun e w' => e = .returned (.slice none 0 0) ∧ w' = w := by
  obtain ⟨PP, hPP⟩ : ∃ PP : Ending → World → Prop, (fun e w' => e = .returned (.slice none 0 0) ∧ w' = w) = PP := ⟨_, rfl⟩
  rw [hPP]
  have HPP := Lib.hid hPP
  have CN := Lib.hid (no_null p w h)
  clear hPP h
  go_enter Tryd.func13, Tryd.ntmps13
  go_wp2_with fail
  refine CN.out.mono ?_
  rintro e w1 ⟨rfl, hw⟩
  subst w1
  go_wp2_with fail
  rw [← HPP.out]
  exact ⟨rfl, rfl⟩
theorem null_Len (p : Option Addr) (w : World) (h : Nul w p) : Calls Tryd.prog 14 #[.pointer p] w fun e w' => e = .returned (.int .i64 0) ∧ w' = w := by
  obtain ⟨PP, hPP⟩ : ∃ PP : Ending → World → Prop, (fun e w' => e = .returned (.int .i64 0) ∧ w' = w) = PP := ⟨_, rfl⟩
  rw [hPP]
  have HPP := Lib.hid hPP
  have CN := Lib.hid (no_null p w h)
  clear hPP h
  go_enter Tryd.func14, Tryd.ntmps14
  go_wp2_with fail
  refine CN.out.mono ?_
  rintro e w1 ⟨rfl, hw⟩
  subst w1
  go_wp2_with fail
  rw [← HPP.out]
  exact ⟨rfl, rfl⟩
theorem null_Nodes (p : Option Addr) (w : World) (h : Nul w p) : Calls Tryd.prog 15 #[.pointer p] w fun e w' => e = .returned (.int .i64 0) ∧ w' = w := by
  obtain ⟨PP, hPP⟩ : ∃ PP : Ending → World → Prop, (fun e w' => e = .returned (.int .i64 0) ∧ w' = w) = PP := ⟨_, rfl⟩
  rw [hPP]
  have HPP := Lib.hid hPP
  have CN := Lib.hid (no_null p w h)
  clear hPP h
  go_enter Tryd.func15, Tryd.ntmps15
  go_wp2_with fail
  refine CN.out.mono ?_
  rintro e w1 ⟨rfl, hw⟩
  subst w1
  go_wp2_with fail
  rw [← HPP.out]
  exact ⟨rfl, rfl⟩
theorem null_Remove (p : Option Addr) (w : World) (f : ByteArray) (z : Int) (h : Nul w p) : Calls Tryd.prog 11 #[.pointer p, .string f, .int .i64 z] w fun e w' => e = .returned (.bool false) ∧ Below w.heap.size w w' := by
  obtain ⟨PP, hPP⟩ : ∃ PP : Ending → World → Prop, (fun e w' => e = .returned (.bool false) ∧ Below w.heap.size w w') = PP := ⟨_, rfl⟩
  rw [hPP]
  have HPP := Lib.hid hPP
  have CN := Lib.hid (no_null p w.drew h)
  clear hPP h
  go_enter Tryd.func11, Tryd.ntmps11
  go_upto_region 1 with fail
  refine wp_region_any (by kernel_rfl) ?_
  change wpAny _ _ _ _ _ _ _ (World.drew _)
  refine wpAny_take (i := 0) (v := .pointer p) rfl (by kernel_rfl) (by kernel_rfl) (by kernel_rfl) (fun _ _ _ h => h) (Or.inl ⟨by kernel_rfl, ?_⟩) ?_
  · (intro w; go_simp)
  refine wpAny_ready (rs := [1]) (by kernel_rfl) (by simp) ?_
  refine AllReady.cons rfl (fun K hK => ?_) AllReady.nil
  go_simp
  go_wp2_with (go_at_call 19; refine CN.out.mono ?_; rintro e w1 ⟨rfl, hw⟩; subst w1)
  refine wpAny_take (i := 2) (v := .bool true) rfl (by kernel_rfl) (by kernel_rfl) (by kernel_rfl) (fun _ _ _ h => h) (Or.inl ⟨by kernel_rfl, ?_⟩) ?_
  · (intro w; go_simp)
  refine wpAny_take (i := 3) (v := undef) rfl (by kernel_rfl) (by kernel_rfl) (by kernel_rfl) (fun _ _ _ h => h) (Or.inr ⟨by kernel_rfl, rfl⟩) ?_
  refine wpAny_ready (rs := [4]) (by kernel_rfl) (by simp) ?_
  refine AllReady.cons rfl (fun K hK => ?_) AllReady.nil
  go_simp
  refine hK _ _ ?_
  clear hK K
  refine wpAny_take (i := 5) (v := undef) rfl (by kernel_rfl) (by kernel_rfl) (by kernel_rfl) (fun _ _ _ h => h) (Or.inr ⟨by kernel_rfl, rfl⟩) ?_
  refine wpAny_take (i := 6) (v := .bool true) rfl (by kernel_rfl) (by kernel_rfl) (by kernel_rfl) (fun _ _ _ h => h) (Or.inl ⟨by kernel_rfl, ?_⟩) ?_
  · (intro w; go_simp)
  refine wpAny_take (i := 7) (v := .bool true) rfl (by kernel_rfl) (by kernel_rfl) (by kernel_rfl) (fun _ _ _ h => h) (Or.inl ⟨by kernel_rfl, ?_⟩) ?_
  · (intro w; go_simp)
  refine wpAny_take (i := 8) (v := undef) rfl (by kernel_rfl) (by kernel_rfl) (by kernel_rfl) (fun _ _ _ h => h) (Or.inr ⟨by kernel_rfl, rfl⟩) ?_
  refine wpAny_take (i := 9) (v := undef) rfl (by kernel_rfl) (by kernel_rfl) (by kernel_rfl) (fun _ _ _ h => h) (Or.inr ⟨by kernel_rfl, rfl⟩) ?_
  refine wpAny_take (i := 10) (v := undef) rfl (by kernel_rfl) (by kernel_rfl) (by kernel_rfl) (fun _ _ _ h => h) (Or.inr ⟨by kernel_rfl, rfl⟩) ?_
  refine wpAny_take (i := 11) (v := undef) rfl (by kernel_rfl) (by kernel_rfl) (by kernel_rfl) (fun _ _ _ h => h) (Or.inr ⟨by kernel_rfl, rfl⟩) ?_
  refine wpAny_take (i := 12) (v := undef) rfl (by kernel_rfl) (by kernel_rfl) (by kernel_rfl) (fun _ _ _ h => h) (Or.inr ⟨by kernel_rfl, rfl⟩) ?_
  refine wpAny_take (i := 14) (v := undef) rfl (by kernel_rfl) (by kernel_rfl) (by kernel_rfl) (fun _ _ _ h => h) (Or.inr ⟨by kernel_rfl, rfl⟩) ?_
  refine wpAny_ready (rs := [13]) (by kernel_rfl) (by simp) ?_
  refine AllReady.cons rfl (fun K hK => ?_) AllReady.nil
  go_simp
  refine hK _ _ ?_
  clear hK K
  refine wpAny_ready (rs := [15]) (by kernel_rfl) (by simp) ?_
  refine AllReady.cons rfl (fun K hK => ?_) AllReady.nil
  go_simp
  refine hK _ _ ?_
  clear hK K
  refine wpAny_take (i := 16) (v := undef) rfl (by kernel_rfl) (by kernel_rfl) (by kernel_rfl) (fun _ _ _ h => h) (Or.inr ⟨by kernel_rfl, rfl⟩) ?_
  refine wpAny_take (i := 17) (v := .bool true) rfl (by kernel_rfl) (by kernel_rfl) (by kernel_rfl) (fun _ _ _ h => h) (Or.inl ⟨by kernel_rfl, ?_⟩) ?_
  · (intro w; go_simp)
  refine wpAny_done (by kernel_rfl) ?_ _
  go_wp2_with fail
  rw [← HPP.out]
  exact ⟨rfl, (Below.refl _ _).drew⟩
end Go.Proofs.YtflomcbclofbaaaDoor
