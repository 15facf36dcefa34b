/- ROUTE: conduitref02.Lacks, Implements. -/
import Derived.Test.YtpgdiekpeceicaaDoorRouteMeth
namespace Go.Proofs.YtpgdiekpeceicaaDoor
open Go Go.RowKit

def lacksL (k : Nat) : List Nat → Int
  | [] => -1
  | m :: l => if hasK k m then lacksL k l else (m : Int)
theorem lacks_face : ∀ k, k < 14 → ∀ f, f < 10 → (0 < k && (lacksL k (methodsL f) == -1)) = faceB k f := by decide
theorem methodsL_pos : ∀ f, f < 10 → 0 < (methodsL f).length := by decide
theorem methodsL_len : ∀ f, f < 10 → (methodsL f).length ≤ 3 := by decide
theorem lacksL_skip {k : Nat} {l : List Nat} {j m : Nat} (h : l[j]? = some m) : lacksL k (l.drop j) = if hasK k m then lacksL k (l.drop (j + 1)) else (m : Int) := by
  obtain ⟨hj, e⟩ := List.getElem?_eq_some_iff.1 h
  rw [List.drop_eq_getElem_cons hj, e]
  rfl

set_option maxHeartbeats 4000000 in
theorem lacks_any (k : Nat) (hk : k < 14) (f : Nat) (hf : f < 10) (w : World) : Calls Tryd.prog 55 #[.int .i64 (k : Nat), .int .i64 (f : Nat)] w (fun r w' => r = .returned (.int .i64 (lacksL k (methodsL f))) ∧ Below w.heap.size w w') := by
  obtain ⟨PP, hPP⟩ : ∃ PP, (fun (r : Ending) (w' : World) => r = .returned (.int .i64 (lacksL k (methodsL f))) ∧ Below w.heap.size w w') = PP := ⟨_, rfl⟩
  rw [hPP]
  have HPP := Lib.hid hPP
  clear hPP
  have CM := Lib.hid (meth_any f hf)
  have HM := Lib.hid (methodsL_lt f hf)
  have hl3 := methodsL_len f hf
  have g1 : ¬ ((k : Int) < 0) := by omega
  have g2 : ¬ ((14 : Int) ≤ (k : Int)) := by omega
  generalize methodsL f = l at *
  go_enter Tryd.func55, Tryd.ntmps55
  go_wp2_with fail
  refine (CM.out _).mono ?_
  rintro e W ⟨c, rfl, hb, hlt, hc⟩
  have HB0 := Lib.hid hb
  have HC := Lib.hid hc
  have HL := Lib.hid hlt
  clear hb hc hlt
  go_wp2_with fail
  go_loopw [6] (fun i wr => ∃ j : Nat, i = .int .i64 (j : Nat) ∧ j ≤ l.length ∧ lacksL k l = lacksL k (l.drop j) ∧ Below W.heap.size W wr) (fun i _ => l.length - (intOf i).toNat)
  case atStart => exact ⟨0, rfl, by omega, rfl, Below.refl _ _⟩
  case round =>
    obtain ⟨j, rfl, hj, hs, hb⟩ := hrel
    have HB := Lib.hid hb
    by_cases hlt : j < l.length
    · obtain ⟨m, hm⟩ : ∃ m, l[j]? = some m := ⟨_, List.getElem?_eq_getElem hlt⟩
      have c0 := (hb.cell HL.out).trans (HC.out j m hm)
      have CH := Lib.hid (hasK_any k hk m (HM.out m (List.mem_of_getElem? hm)))
      have HS := Lib.hid (hs.trans (lacksL_skip hm))
      have g3 : (j : Int) < (l.length : Int) := by omega
      have hz := hb.size
      clear hb hs hm
      go_wp2_with fail
      refine (CH.out _).mono ?_
      rintro r' W2 ⟨rfl, hb2⟩
      have HB2 := Lib.hid (HB.out.trans (hb2.mono hz))
      have c1 := (hb2.cell (Nat.lt_of_lt_of_le HL.out hz)).trans c0
      clear hb2 c0
      cases hx : hasK k m
      · go_wp2_with fail
        rw [← HPP.out]
        exact ⟨by rw [HS.out, hx]; rfl, HB0.out.trans (HB2.out.mono (Nat.le_of_lt HL.out))⟩
      · go_wp2_with fail
        go_roundw
        case rel => exact ⟨j + 1, by go_num, by omega, by rw [HS.out, hx]; rfl, HB2.out⟩
        case measure => simp [intOf]; omega
    · obtain rfl : j = l.length := by omega
      clear hb
      go_wp2_with fail
      rw [← HPP.out]
      exact ⟨by rw [hs, List.drop_length]; rfl, HB0.out.trans (HB.out.mono (Nat.le_of_lt HL.out))⟩

set_option maxHeartbeats 4000000 in
theorem impl_any (k : Nat) (hk : k < 14) (f : Nat) (hf : f < 10) (w : World) : Calls Tryd.prog 45 #[.int .i64 (k : Nat), .int .i64 (f : Nat)] w (HoldPost w (faceB k f)) := by
  obtain ⟨PP, hPP⟩ : ∃ PP, HoldPost w (faceB k f) = PP := ⟨_, rfl⟩
  rw [hPP]
  have HPP := Lib.hid hPP
  clear hPP
  have CM := Lib.hid (meth_any f hf)
  have CL := Lib.hid (lacks_any k hk f hf)
  have HF := Lib.hid (lacks_face k hk f hf)
  have hp := methodsL_pos f hf
  have g2 : (k : Int) < 14 := by omega
  generalize methodsL f = l at *
  by_cases hz : k = 0
  · subst hz
    go_enter Tryd.func45, Tryd.ntmps45
    go_wp2_with fail
    rw [← HPP.out]
    exact ⟨congrArg (fun z => Ending.returned (.bool z)) HF.out, Below.refl _ _⟩
  · have g1 : (0 : Int) < (k : Int) := by omega
    have g3 : (0 : Int) < (l.length : Int) := by omega
    have g4 : 0 < k := by omega
    go_enter Tryd.func45, Tryd.ntmps45
    go_wp2_with fail
    refine (CM.out _).mono ?_
    rintro e W ⟨c, rfl, hb, hlt, hc⟩
    have HB0 := Lib.hid hb
    clear hb hc hlt
    go_wp2_with fail
    refine (CL.out _).mono ?_
    rintro e W2 ⟨rfl, hb2⟩
    have HB2 := Lib.hid (HB0.out.trans (hb2.mono HB0.out.size))
    clear hb2
    go_wp2_with fail
    rw [← HPP.out]
    refine ⟨congrArg (fun z => Ending.returned (.bool z)) (Eq.trans ?_ HF.out), HB2.out⟩
    simp [g4]
end Go.Proofs.YtpgdiekpeceicaaDoor
