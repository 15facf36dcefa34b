/- THE PROGRAM's number: what digits say. -/
import Derived.Test.YtmbejmhnoeoohaaDoorScanRun
namespace Go.Proofs.YtmbejmhnoeoohaaDoor
open Go Go.RowKit

theorem numV_snoc (l : List UInt8) (c : UInt8) : numV (l ++ [c]) = 10 * numV l + (c.toNat - 48) := by simp [numV, List.foldl_append]
theorem numV_take {l : List UInt8} {k : Nat} {c : UInt8} (h : l[k]? = some c) : numV (l.take (k + 1)) = 10 * numV (l.take k) + (c.toNat - 48) := by
  rw [List.take_add_one, h]; exact numV_snoc _ _
theorem numV_ge (l : List UInt8) : ∀ (r : List UInt8), numV l ≤ numV (l ++ r)
  | [] => by simp
  | c :: r => by
    have h1 : numV l ≤ numV (l ++ [c]) := by rw [numV_snoc]; omega
    have h2 := numV_ge (l ++ [c]) r
    rw [List.append_assoc] at h2
    exact Nat.le_trans h1 h2
theorem numV_part (l : List UInt8) (k : Nat) : numV (l.take k) ≤ numV l := by
  conv => rhs; rw [← List.take_append_drop k l]
  exact numV_ge _ _

/-- is it a number that may be? -/
def numOk (l : List UInt8) : Bool := decide (numV l ≤ 18446744073709551615) && (!(l.head? == some 48) || l.length == 1)
def NumPost (w : World) (l : List UInt8) (e : Ending) (w' : World) : Prop := ∃ n : Nat, e = .returned (.tuple #[.int .u64 (n : Nat), .bool (numOk l)]) ∧ (numOk l = true → n = numV l) ∧ w = w'
theorem num_no {w : World} {l : List UInt8} (h : numOk l = false) : NumPost w l (.returned (.tuple #[.int .u64 0, .bool false])) w := ⟨0, by rw [h]; rfl, by simp [h], rfl⟩
theorem num_end {w : World} {l : List UInt8} {n : Nat} {b : Bool} (h : numOk l = b) (hn : n = numV l) : NumPost w l (.returned (.tuple #[.int .u64 (n : Nat), .bool b])) w := ⟨n, by rw [h], fun _ => hn, rfl⟩

set_option maxHeartbeats 4000000 in
theorem number_any (v : Value) (l : List UInt8) (w : World) (hV : Bs w v l) (hl : l.length ≤ 1048577) (hl0 : 0 < l.length) (hd : ∀ c ∈ l, digB c = true) :
    Calls Tryd.prog 37 #[v] w (NumPost w l) := by
  obtain ⟨b, o, cap, rfl, hbl⟩ := hV.form (by omega)
  obtain ⟨_, hcap, hm⟩ := hV.len
  have HV := Lib.hid (fun (j : Nat) (x : UInt8) (hj : l[j]? = some x) => hV.cell hj)
  have HD : Hid (∀ (j : Nat) (x : UInt8) (_ : l[j]? = some x), 48 ≤ x.toNat ∧ x.toNat ≤ 57) := fun j x hj => (digB_iff x).1 (hd x (List.mem_of_getElem? hj))
  have HN := Lib.hid (fun k c h => @numV_take l k c h)
  have HP := Lib.hid (numV_part l)
  have H0 : Hid (numV (l.take 0) = 0) := rfl
  have HA : Hid (numV (l.take l.length) = numV l) := by show _ = _; rw [List.take_length]
  clear hV hd
  generalize hPP : NumPost w l = PP at *
  have HPP := Lib.hid hPP
  clear hPP
  go_enter Tryd.func37, Tryd.ntmps37
  go_wp2
  go_loop [4, 6, 7, 10] (fun n _ _ i => ∃ (k m : Nat), k ≤ l.length ∧ i = .int .i64 k ∧ n = .int .u64 m ∧ m ≤ 18446744073709551615 ∧ Hid (m = numV (l.take k))) (fun _ _ _ i => l.length - (intOf i).toNat)
  case atStart => exact ⟨0, 0, by omega, rfl, rfl, by omega, H0.out.symm⟩
  case round =>
    obtain ⟨k, m, hk, rfl, rfl, hmm, HM⟩ := hrel
    by_cases hlt : k < l.length
    · obtain ⟨c, hc⟩ : ∃ c, l[k]? = some c := ⟨_, List.getElem?_eq_getElem hlt⟩
      have hck := HV.out _ c hc
      obtain ⟨hc1, hc2⟩ := HD.out _ c hc
      have HM2 := Lib.hid (HN.out k c hc)
      clear hc
      by_cases ho : 18446744073709551615 < 10 * m + (c.toNat - 48)
      · have HB : Hid (numOk l = false) := by
          show _ = _
          have h1 := HP.out (k + 1)
          rw [HM2.out, ← HM.out] at h1
          unfold numOk
          rw [decide_eq_false (by omega)]; rfl
        have hgt : (18446744073709551615 - ((c.toNat : Int) - 48)) / 10 < (m : Int) := by omega
        clear ho
        go_wp2
        rw [← HPP.out]
        exact num_no HB.out
      · have hgt : (m : Int) ≤ (18446744073709551615 - ((c.toNat : Int) - 48)) / 10 := by omega
        have HM3 : Hid (10 * m + (c.toNat - 48) = numV (l.take (k + 1))) := by show _ = _; rw [HM2.out, ← HM.out]
        have hb1 : 10 * (m : Int) + ((c.toNat : Int) - 48) ≤ 18446744073709551615 := by omega
        go_wp2
        go_round
        case rel => exact ⟨k + 1, 10 * m + (c.toNat - 48), by omega, by go_num, by congr 1; omega, by omega, HM3⟩
        case measure => simp [intOf]; omega
    · obtain rfl : k = l.length := by omega
      have HM3 : Hid (m = numV l) := by show _ = _; rw [HM.out, HA.out]
      obtain ⟨c, hc⟩ : ∃ c, l[0]? = some c := ⟨_, List.getElem?_eq_getElem hl0⟩
      have hck := HV.out _ c hc
      simp only [Nat.add_zero] at hck
      have hcr := c.toNat_lt
      have HO : Hid (numOk l = (!(c == 48) || l.length == 1)) := by
        show _ = _
        unfold numOk
        rw [decide_eq_true (by rw [← HM3.out]; exact hmm), List.head?_eq_getElem?, hc]; simp
      clear hc
      go_wp2
      · rw [← HPP.out]
        have e : c = 48 := UInt8.toNat_inj.1 (show c.toNat = 48 by have : (c.toNat : Int) = 48 := by assumption
                                                                   omega)
        exact num_end (by rw [HO.out, e]; rw [Bool.eq_iff_iff]; simp; omega) HM3.out
      · rw [← HPP.out]
        have e : ¬ c = 48 := fun h => by
          have h1 : ¬ (c.toNat : Int) = 48 := by assumption
          exact h1 (by rw [h]; rfl)
        exact num_end (by rw [HO.out]; simp [e]) HM3.out
end Go.Proofs.YtmbejmhnoeoohaaDoor
