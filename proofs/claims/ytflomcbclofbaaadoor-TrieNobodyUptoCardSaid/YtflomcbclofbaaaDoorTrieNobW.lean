/- THE LAW TrieNobody: the walk. -/
import Derived.Deep.RegionHeld3
import Derived.Test.YtflomcbclofbaaaDoorTrieNull
namespace Go.Proofs.YtflomcbclofbaaaDoor
open Go Go.RowKit
attribute [local go_sem ↓] Go.wp_at_zero Go.wp_at_succ

theorem Nul.below {W W' : World} {p : Option Addr} (h : Nul W p) (hb : Below W.heap.size W W') : Nul W' p := by
  rcases h with h | ⟨a, h1, h2⟩
  · exact .inl h
  · exact .inr ⟨a, h1, (hb.block a (Array.getElem?_eq_some_iff.1 h2).1).trans h2⟩
/-- what stays while nobody answers -/
def NS (w0 : World) (ab : Nat) (p : Option Addr) (f : ByteArray) (z : Int) (W : World) : Prop := W.cell? ⟨ab, 1, none⟩ = some (.string f) ∧ W.cell? ⟨ab, 2, none⟩ = some (.int .i64 z) ∧ Nul W p ∧ Below w0.heap.size w0 W
theorem NS.next {w0 : World} {ab : Nat} {p : Option Addr} {f : ByteArray} {z : Int} {W W' : World} (h : W.cell? ⟨ab, 1, none⟩ = some (.string f) ∧ W.cell? ⟨ab, 2, none⟩ = some (.int .i64 z) ∧ Nul W p ∧ Below w0.heap.size w0 W) (hb : Below W.heap.size W W') : NS w0 ab p f z W' := by
  obtain ⟨h1, h2, h3, h4⟩ := h
  exact ⟨(hb.cell (World.block_lt_of_cell? W _ h1)).trans h1, (hb.cell (World.block_lt_of_cell? W _ h2)).trans h2, h3.below hb, h4.trans (hb.mono h4.size)⟩
set_option maxHeartbeats 4000000 in
theorem nobody_walk (AW : ∀ w : World, Tabs w → Calls Tryd.prog 9 #[] w fun e w' => e = .returned (.bool true) ∧ Below w.heap.size w w') (w : World) (b : Bool) (k z : Int) (f : ByteArray) (hT : Tabs w) :
    Calls Tryd.prog 4 #[.bool b, .agg #[.int .i64 k, .string f, .int .i64 z]] w fun e w' => e = .returned (.bool true) ∧ Below w.heap.size w w' := by
  obtain ⟨PP, hPP⟩ : ∃ PP : Ending → World → Prop, (fun e w' => e = .returned (.bool true) ∧ Below w.heap.size w w') = PP := ⟨_, rfl⟩
  rw [hPP]
  have HPP := Lib.hid hPP
  clear hPP
  have HAW := Lib.hid AW
  clear AW
  cases b with
  | true =>
    go_enter Tryd.func4, Tryd.ntmps4
    go_wp2_with fail
    refine wp_world (fun W => NS w w.heap.size (some ⟨w.heap.size + 1, 0, none⟩) f z W) (by
      have hb := heap_alloc_new w (.cells #[.int .i64 k, .string f, .int .i64 z] 37)
      have hb1 := (Below.heap_alloc (w.alloc (.cells #[.int .i64 k, .string f, .int .i64 z] 37)) (.cells #[.pointer none, .int .i64 0] 40) w.heap.size (by simp)).trans hb
      have hb2 := heap_alloc_new (w.alloc (.cells #[.int .i64 k, .string f, .int .i64 z] 37)) (.cells #[.pointer none, .int .i64 0] 40)
      rw [World.size_alloc] at hb2
      exact ⟨by rw [cell_of_row _ _ _ _ _ _ hb1]; rfl, by rw [cell_of_row _ _ _ _ _ _ hb1]; rfl, .inr ⟨_, rfl, hb2⟩, ((Below.refl _ _).alloc (Nat.le_refl _) _).alloc (by simp) _⟩) (fun W0 hNS => ?_)
    go_loopw [6] (fun s6 wr => ∃ i : Nat, s6 = .int .i64 (i : Nat) ∧ i ≤ 2 ∧ Hid (NS w w.heap.size (some ⟨w.heap.size + 1, 0, none⟩) f z wr)) (fun s6 _ => 2 - (intOf s6).toNat)
    case atStart => exact ⟨0, rfl, by omega, hNS⟩
    case round =>
      obtain ⟨i, rfl, hi, hS⟩ := hrel
      by_cases hlt : i < 2
      · have hltI : (i : Int) < 2 := by omega
        have hi0 : (0 : Int) ≤ (i : Int) := by omega
        have k1 := hS.out.1
        have k2 := hS.out.2.1
        have kl : w.heap.size < wr.heap.size := World.block_lt_of_cell? wr _ k1
        go_wp2_with fail
        refine (null_Add _ _ _ _ hS.out.2.2.1).mono ?_
        rintro e w1 ⟨rfl, hw⟩
        subst w1
        go_wp2_with fail
        refine (null_Remove _ _ _ _ hS.out.2.2.1).mono ?_
        rintro e wR ⟨rfl, hbR⟩
        have hS2 := Lib.hid (NS.next hS.out hbR)
        have k1R := hS2.out.1
        have k2R := hS2.out.2.1
        have klR : w.heap.size < wR.heap.size := World.block_lt_of_cell? wR _ k1R
        clear hbR k1 k2 kl
        go_wp2_with fail
        refine (null_Match _ _ _ hS2.out.2.2.1).mono ?_
        rintro e w1 ⟨rfl, hw⟩
        subst w1
        go_wp2_with fail
        refine (null_Filters _ _ hS2.out.2.2.1).mono ?_
        rintro e w1 ⟨rfl, hw⟩
        subst w1
        go_wp2_with fail
        refine (null_Under _ _ _ hS2.out.2.2.1).mono ?_
        rintro e w1 ⟨rfl, hw⟩
        subst w1
        go_wp2_with fail
        refine (null_Len _ _ hS2.out.2.2.1).mono ?_
        rintro e w1 ⟨rfl, hw⟩
        subst w1
        go_wp2_with fail
        refine (null_Nodes _ _ hS2.out.2.2.1).mono ?_
        rintro e w1 ⟨rfl, hw⟩
        subst w1
        go_wp2_with fail
        go_roundw
        case rel => exact ⟨i + 1, by go_num, by omega, hS2.out⟩
        case measure => simp [intOf]; omega
      · have hltI : ¬ ((i : Int) < 2) := by omega
        go_wp2_with fail
        refine (HAW.out _ (hT.below hS.out.2.2.2)).mono ?_
        rintro e w9 ⟨rfl, hb9⟩
        have HB9 := Lib.hid (hS.out.2.2.2.trans (hb9.mono hS.out.2.2.2.size))
        clear hb9
        go_wp2_with fail
        rw [← HPP.out]
        exact ⟨rfl, HB9.out⟩
  | false =>
    go_enter Tryd.func4, Tryd.ntmps4
    go_wp2_with fail
    refine wp_world (fun W => NS w w.heap.size none f z W) (by
      have hb := heap_alloc_new w (.cells #[.int .i64 k, .string f, .int .i64 z] 37)
      exact ⟨by rw [cell_of_row _ _ _ _ _ _ hb]; rfl, by rw [cell_of_row _ _ _ _ _ _ hb]; rfl, .inl rfl, (Below.refl _ _).alloc (Nat.le_refl _) _⟩) (fun W0 hNS => ?_)
    go_loopw [6] (fun s6 wr => ∃ i : Nat, s6 = .int .i64 (i : Nat) ∧ i ≤ 2 ∧ Hid (NS w w.heap.size none f z wr)) (fun s6 _ => 2 - (intOf s6).toNat)
    case atStart => exact ⟨0, rfl, by omega, hNS⟩
    case round =>
      obtain ⟨i, rfl, hi, hS⟩ := hrel
      by_cases hlt : i < 2
      · have hltI : (i : Int) < 2 := by omega
        have hi0 : (0 : Int) ≤ (i : Int) := by omega
        have k1 := hS.out.1
        have k2 := hS.out.2.1
        have kl : w.heap.size < wr.heap.size := World.block_lt_of_cell? wr _ k1
        go_wp2_with fail
        refine (null_Add _ _ _ _ hS.out.2.2.1).mono ?_
        rintro e w1 ⟨rfl, hw⟩
        subst w1
        go_wp2_with fail
        refine (null_Remove _ _ _ _ hS.out.2.2.1).mono ?_
        rintro e wR ⟨rfl, hbR⟩
        have hS2 := Lib.hid (NS.next hS.out hbR)
        have k1R := hS2.out.1
        have k2R := hS2.out.2.1
        have klR : w.heap.size < wR.heap.size := World.block_lt_of_cell? wR _ k1R
        clear hbR k1 k2 kl
        go_wp2_with fail
        refine (null_Match _ _ _ hS2.out.2.2.1).mono ?_
        rintro e w1 ⟨rfl, hw⟩
        subst w1
        go_wp2_with fail
        refine (null_Filters _ _ hS2.out.2.2.1).mono ?_
        rintro e w1 ⟨rfl, hw⟩
        subst w1
        go_wp2_with fail
        refine (null_Under _ _ _ hS2.out.2.2.1).mono ?_
        rintro e w1 ⟨rfl, hw⟩
        subst w1
        go_wp2_with fail
        refine (null_Len _ _ hS2.out.2.2.1).mono ?_
        rintro e w1 ⟨rfl, hw⟩
        subst w1
        go_wp2_with fail
        refine (null_Nodes _ _ hS2.out.2.2.1).mono ?_
        rintro e w1 ⟨rfl, hw⟩
        subst w1
        go_wp2_with fail
        go_roundw
        case rel => exact ⟨i + 1, by go_num, by omega, hS2.out⟩
        case measure => simp [intOf]; omega
      · have hltI : ¬ ((i : Int) < 2) := by omega
        go_wp2_with fail
        refine (HAW.out _ (hT.below hS.out.2.2.2)).mono ?_
        rintro e w9 ⟨rfl, hb9⟩
        have HB9 := Lib.hid (hS.out.2.2.2.trans (hb9.mono hS.out.2.2.2.size))
        clear hb9
        go_wp2_with fail
        rw [← HPP.out]
        exact ⟨rfl, HB9.out⟩
end Go.Proofs.YtflomcbclofbaaaDoor
