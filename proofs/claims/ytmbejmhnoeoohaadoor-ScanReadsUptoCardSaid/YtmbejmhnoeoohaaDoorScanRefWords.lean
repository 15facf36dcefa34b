/- THE REFERENCE's words, marks, Kind, Text. -/
import Derived.Test.YtmbejmhnoeoohaaDoorScanWords
namespace Go.Proofs.YtmbejmhnoeoohaaDoor
open Go Go.RowKit

/-- eleven of the words, from the n-th on -/
def Elv (n : Nat) (w : World) (v : Value) : Prop := ∃ b, v = .slice (some ⟨b, 0, none⟩) 11 11 ∧ ∀ j, j < 11 → w.cell? ⟨b, j, none⟩ = some (.string (wordB (n + j)))
theorem Elv.below {n : Nat} {w w' : World} {v : Value} (h : Elv n w v) (hb : Below w.heap.size w w') : Elv n w' v := by
  obtain ⟨b, rfl, h⟩ := h
  exact ⟨b, rfl, fun j hj => (hb.cell (World.block_lt_of_cell? w _ (h j hj))).trans (h j hj)⟩
theorem elv_cells (n : Nat) (hn : n + 11 ≤ 22) (w : World) (t : TypeId) (f : Nat × Nat) : Elv n (w.alloc (.cells ((wordsV.drop n).take 11).toArray t f)) (.slice (some ⟨w.heap.size, 0, none⟩) 11 11) := by
  refine ⟨_, rfl, fun j hj => ?_⟩
  rw [cell_of_row _ _ _ _ _ _ (heap_alloc_new w _)]
  have hw : n + j < wordsS.length := by show _ < 22; omega
  simp [List.getElem?_drop, hj, wordsV, wordB, List.getD, hw]

theorem refWords_any (w : World) : Calls Tryd.prog 26 #[] w fun e w' => ∃ v, e = .returned v ∧ Elv 0 w' v ∧ Below w.heap.size w w' := by
  go_enter Tryd.func26, Tryd.ntmps26
  go_wp2
  go_ret
  exact ⟨_, rfl, elv_cells 0 (by omega) w _ _, (Below.refl _ _).alloc (Nat.le_refl _) _⟩
theorem refMarks_any (w : World) : Calls Tryd.prog 27 #[] w fun e w' => ∃ v, e = .returned v ∧ Elv 11 w' v ∧ Below w.heap.size w w' := by
  go_enter Tryd.func27, Tryd.ntmps27
  go_wp2
  go_ret
  exact ⟨_, rfl, elv_cells 11 (by omega) w _ _, (Below.refl _ _).alloc (Nat.le_refl _) _⟩

set_option maxHeartbeats 1000000 in
theorem refKind_any (s : ByteArray) (w : World) :
    Calls Tryd.prog 13 #[.string s] w fun e w' => e = .returned (.int .i64 (kindS s.data.toList : Nat)) ∧ Below w.heap.size w w' := by
  have H0 := Lib.hid (show kindS s.data.toList = kFrom (wordsS.drop 0) (4 + 0) s.data.toList from rfl)
  have HS := Lib.hid (fun k h => kFrom_step (k := k) h s)
  generalize kindS s.data.toList = K at *
  have CW := Lib.hid refWords_any
  have CM := Lib.hid refMarks_any
  go_enter Tryd.func13, Tryd.ntmps13
  go_wp2_with fail
  refine (CW.out _).mono ?_
  rintro e w1 ⟨v1, rfl, hv1, hb1⟩
  obtain ⟨b1, rfl, hc1⟩ := hv1
  have HC1 := Lib.hid hc1
  clear hc1 CW
  go_wp2
  go_loop [4] (fun i => ∃ k : Nat, k ≤ 11 ∧ i = .int .i64 (k : Nat) ∧ Hid (K = kFrom (wordsS.drop k) (4 + k) s.data.toList)) (fun i => 11 - (intOf i).toNat)
  case atStart => exact ⟨0, by omega, rfl, H0⟩
  case round =>
    obtain ⟨k, hk, rfl, HK⟩ := hrel
    by_cases hlt : k < 11
    · have hc := HC1.out k hlt
      rw [Nat.zero_add] at hc
      have hs := HS.out k (by omega)
      cases he : ((wordB k).toList == s.toList)
      · rw [he, if_neg (by simp)] at hs
        have HN : Hid (K = kFrom (wordsS.drop (k + 1)) (4 + (k + 1)) s.data.toList) := HK.out.trans hs
        clear hs
        go_wp2
        go_round
        case rel => exact ⟨k + 1, by omega, by go_num, HN⟩
        case measure => simp [intOf]; omega
      · rw [he, if_pos rfl] at hs
        have HN : Hid (K = 4 + k) := HK.out.trans hs
        clear hs
        go_wp2
        go_ret
        exact ⟨ret_i (by rw [HN.out]; omega), hb1⟩
    · obtain rfl : k = 11 := by omega
      go_wp2_with fail
      refine (CM.out _).mono ?_
      rintro e w2 ⟨v2, rfl, hv2, hb2⟩
      obtain ⟨b2, rfl, hc2⟩ := hv2
      have HC2 := Lib.hid hc2
      have hb12 : Below w.heap.size w w2 := hb1.trans (hb2.mono hb1.size)
      clear hc2 CM hb1 hb2
      go_wp2
      go_loop [6] (fun i => ∃ k : Nat, k ≤ 11 ∧ i = .int .i64 (k : Nat) ∧ Hid (K = kFrom (wordsS.drop (11 + k)) (4 + (11 + k)) s.data.toList)) (fun i => 11 - (intOf i).toNat)
      case atStart => exact ⟨0, by omega, rfl, HK⟩
      case round =>
        obtain ⟨k, hk, rfl, HK⟩ := hrel
        by_cases hlt : k < 11
        · have hc := HC2.out k hlt
          have hs := HS.out (11 + k) (by omega)
          cases he : ((wordB (11 + k)).toList == s.toList)
          · rw [he, if_neg (by simp)] at hs
            have HN : Hid (K = kFrom (wordsS.drop (11 + (k + 1))) (4 + (11 + (k + 1))) s.data.toList) := HK.out.trans hs
            clear hs
            go_wp2
            go_round
            case rel => exact ⟨k + 1, by omega, by go_num, HN⟩
            case measure => simp [intOf]; omega
          · rw [he, if_pos rfl] at hs
            have HN : Hid (K = 4 + (11 + k)) := HK.out.trans hs
            clear hs
            go_wp2
            go_ret
            exact ⟨ret_i (by rw [HN.out]; omega), hb12⟩
        · have HN : Hid (K = 0) := by
            have : k = 11 := by omega
            subst this; exact HK.out
          go_wp2
          go_ret
          exact ⟨ret_i (by rw [HN.out]; rfl), hb12⟩
end Go.Proofs.YtmbejmhnoeoohaaDoor
