/- THE PROGRAM's Kind and Text. -/
import Derived.Test.YtmbejmhnoeoohaaDoorScanLeaf
import Derived.Deep.MidRow
import Derived.Below
namespace Go.Proofs.YtmbejmhnoeoohaaDoor
open Go Go.RowKit

theorem ba_bytes (l : List UInt8) : (ba l).data.toList = l := rfl
theorem ba_toList (l : List UInt8) : (ba l).toList = l := by rw [ByteArray.toList_eq]; rfl

theorem ret_s {a b : ByteArray} (h : a = b) : Ending.returned (.string a) = .returned (.string b) := by rw [h]
def wordB (k : Nat) : ByteArray := ba (wordsS.getD k [])
def wordsV : List Value := wordsS.map fun l => Value.string (ba l)
/-- the program's table of words -/
def Words (w : World) : Prop := w.rangeAt 0 0 wordsV
theorem Words.below {w w' : World} (h : Words w) (hb : Below w.heap.size w w') : Words w' := fun j v hv => by
  have h1 := h j v hv
  exact (hb.cell (World.block_lt_of_cell? w _ h1)).trans h1

theorem idx_word (w : World) : ∀ k : Nat, k < 22 → (Instr.index 54 (.agg wordsV.toArray) (.int .i64 (k : Nat))).run Tryd.prog w = .ok (.string (wordB k)) w
  | 0, _ => by kernel_rfl
  | 1, _ => by kernel_rfl
  | 2, _ => by kernel_rfl
  | 3, _ => by kernel_rfl
  | 4, _ => by kernel_rfl
  | 5, _ => by kernel_rfl
  | 6, _ => by kernel_rfl
  | 7, _ => by kernel_rfl
  | 8, _ => by kernel_rfl
  | 9, _ => by kernel_rfl
  | 10, _ => by kernel_rfl
  | 11, _ => by kernel_rfl
  | 12, _ => by kernel_rfl
  | 13, _ => by kernel_rfl
  | 14, _ => by kernel_rfl
  | 15, _ => by kernel_rfl
  | 16, _ => by kernel_rfl
  | 17, _ => by kernel_rfl
  | 18, _ => by kernel_rfl
  | 19, _ => by kernel_rfl
  | 20, _ => by kernel_rfl
  | 21, _ => by kernel_rfl
  | k + 22, h => by omega

theorem kFrom_step {k : Nat} (h : k < 22) (s : ByteArray) : kFrom (wordsS.drop k) (4 + k) s.data.toList = if ((wordB k).toList == s.toList) = true then 4 + k else kFrom (wordsS.drop (k + 1)) (4 + (k + 1)) s.data.toList := by
  have hk : k < wordsS.length := h
  rw [List.drop_eq_getElem_cons hk, kFrom]
  have e : wordsS[k] = wordsS.getD k [] := by simp [hk]
  unfold wordB
  rw [ba_toList, ← ByteArray.toList_eq, e]
  by_cases hc : wordsS.getD k [] = s.toList
  · rw [if_pos hc, if_pos (by simpa using hc)]
  · rw [if_neg hc, if_neg (by simpa using hc)]; rfl

set_option maxHeartbeats 1000000 in
theorem kind_any (s : ByteArray) (w : World) (hW : Words w) :
    Calls Tryd.prog 12 #[.string s] w fun e w' => e = .returned (.int .i64 (kindS s.data.toList : Nat)) ∧ w = w' := by
  have H0 := Lib.hid (show kindS s.data.toList = kFrom (wordsS.drop 0) (4 + 0) s.data.toList from rfl)
  have HS := Lib.hid (fun k h => kFrom_step (k := k) h s)
  generalize kindS s.data.toList = K at *
  go_enter Tryd.func12, Tryd.ntmps12
  go_wp2_with (refine wpList_load_mid rfl _ _ rfl 0 0 rfl wordsV _ hW Tryd.underlying54 rfl (by kernel_rfl) ?_)
  go_loop [3, 4, 6] (fun _ _ i => ∃ k : Nat, k ≤ 22 ∧ i = .int .i64 (k : Nat) ∧ Hid (K = kFrom (wordsS.drop k) (4 + k) s.data.toList)) (fun _ _ i => 22 - (intOf i).toNat)
  case atStart => exact ⟨0, by omega, rfl, H0⟩
  case round =>
    obtain ⟨k, hk, rfl, HK⟩ := hrel
    by_cases hlt : k < 22
    · have hx := idx_word
      have hx : ∀ w, (Instr.index 54 (.agg wordsV.toArray) (.int .i64 (k : Nat))).run Tryd.prog w = .ok (.string (wordB k)) w := fun w => idx_word w k hlt
      have hs := HS.out k hlt
      cases he : ((wordB k).toList == s.toList)
      · rw [he, if_neg (by simp)] at hs
        have HN : Hid (K = kFrom (wordsS.drop (k + 1)) (4 + (k + 1)) s.data.toList) := HK.out.trans hs
        clear hs
        go_wp2
        go_round
        case rel => exact ⟨k + 1, by omega, by go_num, HN⟩
        case measure => simp [intOf]; omega
      · rw [he, if_pos rfl] at hs
        have HN : Hid (K = 4 + k) := HK.out.trans hs
        clear hs
        go_wp2
        go_ret
        exact ⟨ret_i (by rw [HN.out]; omega), rfl⟩
    · have HN : Hid (K = 0) := by
        have : k = 22 := by omega
        subst this; exact HK.out
      go_wp2
      go_ret
      exact ⟨ret_i (by rw [HN.out]; rfl), rfl⟩

theorem textS_no {k : Int} (h : k < 4 ∨ 26 ≤ k) : textS k = [] := by
  unfold textS
  rcases h with h | h
  · rw [if_pos h]
  · rw [if_neg (by omega)]
    have : wordsS.length ≤ (k - 4).toNat := by show 22 ≤ _; omega
    simp [List.getD, List.getElem?_eq_none this]
theorem textS_in {k : Nat} (h : k < 22) : ba (textS ((k : Int) + 4)) = wordB k := by
  unfold textS wordB
  rw [if_neg (by omega), show ((k : Int) + 4 - 4).toNat = k by omega]

set_option maxHeartbeats 1000000 in
theorem text_any (k : Int) (w : World) (hW : Words w) :
    Calls Tryd.prog 14 #[.int .i64 k] w fun e w' => e = .returned (.string (ba (textS k))) ∧ w = w' := by
  by_cases h1 : k < 4
  · have HN := Lib.hid (textS_no (.inl h1))
    go_enter Tryd.func14, Tryd.ntmps14
    go_wp2
    go_ret
    exact ⟨ret_s (by rw [HN.out]; rfl), rfl⟩
  · by_cases h2 : 26 ≤ k
    · have HN := Lib.hid (textS_no (.inr h2))
      go_enter Tryd.func14, Tryd.ntmps14
      go_wp2
      go_ret
      exact ⟨ret_s (by rw [HN.out]; rfl), rfl⟩
    · obtain ⟨j, rfl⟩ : ∃ j : Nat, k = (j : Int) + 4 := ⟨(k - 4).toNat, by omega⟩
      have hj : j < 22 := by omega
      have HN := Lib.hid (textS_in hj)
      have hc : w.cell? ⟨0, j, none⟩ = some (.string (wordB j)) := by
        have := hW j (.string (wordB j)) (by
          unfold wordsV wordB
          rw [List.getElem?_map, List.getElem?_eq_getElem (show j < wordsS.length from hj)]
          simp [List.getD, List.getElem?_eq_getElem (show j < wordsS.length from hj)])
        simpa using this
      go_enter Tryd.func14, Tryd.ntmps14
      go_wp2
      go_ret
      exact ⟨ret_s HN.out.symm, rfl⟩
end Go.Proofs.YtmbejmhnoeoohaaDoor
