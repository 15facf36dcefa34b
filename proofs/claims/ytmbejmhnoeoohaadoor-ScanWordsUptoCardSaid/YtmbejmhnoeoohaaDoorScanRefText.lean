/- THE REFERENCE's Text. -/
import Derived.Test.YtmbejmhnoeoohaaDoorScanRefWords
namespace Go.Proofs.YtmbejmhnoeoohaaDoor
open Go Go.RowKit

set_option maxHeartbeats 1000000 in
theorem refText_any (k : Int) (w : World) :
    Calls Tryd.prog 15 #[.int .i64 k] w fun e w' => e = .returned (.string (ba (textS k))) ∧ Below w.heap.size w w' := by
  have CW := Lib.hid refWords_any
  have CM := Lib.hid refMarks_any
  by_cases h1 : k < 4
  · have HN := Lib.hid (textS_no (.inl h1))
    have h3 : k < 15 := by omega
    go_enter Tryd.func15, Tryd.ntmps15
    go_wp2_with fail
    refine (CW.out _).mono ?_
    rintro e w1 ⟨v1, rfl, ⟨b1, rfl, -⟩, hb1⟩
    go_wp2_with fail
    refine (CM.out _).mono ?_
    rintro e w2 ⟨v2, rfl, ⟨b2, rfl, -⟩, hb2⟩
    have hb := hb1.trans (hb2.mono hb1.size)
    clear hb1 hb2
    go_wp2
    go_ret
    exact ⟨ret_s (by rw [HN.out]; rfl), hb⟩
  · by_cases h2 : 26 ≤ k
    · have HN := Lib.hid (textS_no (.inr h2))
      go_enter Tryd.func15, Tryd.ntmps15
      go_wp2_with fail
      refine (CW.out _).mono ?_
      rintro e w1 ⟨v1, rfl, ⟨b1, rfl, -⟩, hb1⟩
      go_wp2_with fail
      refine (CM.out _).mono ?_
      rintro e w2 ⟨v2, rfl, ⟨b2, rfl, -⟩, hb2⟩
      have hb := hb1.trans (hb2.mono hb1.size)
      clear hb1 hb2
      go_wp2
      go_ret
      exact ⟨ret_s (by rw [HN.out]; rfl), hb⟩
    · obtain ⟨j, rfl⟩ : ∃ j : Nat, k = (j : Int) + 4 := ⟨(k - 4).toNat, by omega⟩
      have HN := Lib.hid (textS_in (k := j) (by omega))
      by_cases h3 : j < 11
      · go_enter Tryd.func15, Tryd.ntmps15
        go_wp2_with fail
        refine (CW.out _).mono ?_
        rintro e w1 ⟨v1, rfl, ⟨b1, rfl, hc1⟩, hb1⟩
        have hc := hc1 j h3
        rw [Nat.zero_add] at hc
        clear hc1
        go_wp2
        go_ret
        exact ⟨ret_s HN.out.symm, hb1⟩
      · obtain ⟨i, rfl⟩ : ∃ i : Nat, j = i + 11 := ⟨j - 11, by omega⟩
        have HN : Hid (ba (textS ((i : Int) + 15)) = wordB (i + 11)) := by
          have := HN.out
          rwa [show ((i + 11 : Nat) : Int) + 4 = (i : Int) + 15 by omega] at this
        rw [show ((i + 11 : Nat) : Int) + 4 = (i : Int) + 15 by omega] at *
        have hi : i < 11 := by omega
        go_enter Tryd.func15, Tryd.ntmps15
        go_wp2_with fail
        refine (CW.out _).mono ?_
        rintro e w1 ⟨v1, rfl, ⟨b1, rfl, -⟩, hb1⟩
        go_wp2_with fail
        refine (CM.out _).mono ?_
        rintro e w2 ⟨v2, rfl, ⟨b2, rfl, hc2⟩, hb2⟩
        have hb := hb1.trans (hb2.mono hb1.size)
        have hc := hc2 i hi
        rw [Nat.add_comm] at hc
        clear hb1 hb2 hc2
        go_wp2
        go_ret
        exact ⟨ret_s HN.out.symm, hb⟩
end Go.Proofs.YtmbejmhnoeoohaaDoor
