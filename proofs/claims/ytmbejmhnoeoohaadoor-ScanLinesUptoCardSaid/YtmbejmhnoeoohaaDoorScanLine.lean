/- LINES: the plain column; bytes.LastIndexByte; the reference's Line. -/
import Derived.Test.YtmbejmhnoeoohaaDoorScanLib
namespace Go.Proofs.YtmbejmhnoeoohaaDoor
open Go Go.RowKit

/-- the column behind these bytes, when it was c ahead of them -/
def colF (l : List UInt8) (c : Nat) : Nat := l.foldl (fun c x => if x = 10 then 1 else c + 1) c
def colS (l : List UInt8) : Nat := colF l 1
theorem colF_app (a b : List UInt8) (c : Nat) : colF (a ++ b) c = colF b (colF a c) := by simp [colF]
theorem colF_none : ∀ (l : List UInt8) (c : Nat), (∀ x ∈ l, x ≠ 10) → colF l c = c + l.length
  | [], c, _ => rfl
  | x :: r, c, h => by
    have hx : x ≠ 10 := h x (by simp)
    show colF r (if x = 10 then 1 else c + 1) = _
    rw [if_neg hx, colF_none r (c + 1) (fun y hy => h y (by simp [hy]))]
    simp; omega
theorem col_none {l : List UInt8} (h : ∀ x ∈ l.drop 0, x ≠ 10) : (l.length : Int) - (-1) = (colS l : Nat) := by
  rw [List.drop_zero] at h
  unfold colS
  rw [colF_none l 1 h]; omega
theorem col_found {l : List UInt8} {k : Nat} (hk : l[k]? = some 10) (h : ∀ x ∈ l.drop (k + 1), x ≠ 10) : (l.length : Int) - (k : Nat) = (colS l : Nat) := by
  obtain ⟨hlt, e⟩ := List.getElem?_eq_some_iff.1 hk
  have e2 : l = l.take k ++ 10 :: l.drop (k + 1) := by
    conv => lhs; rw [← List.take_append_drop k l, List.drop_eq_getElem_cons hlt, e]
  have : colS l = 1 + (l.drop (k + 1)).length := by
    unfold colS
    conv => lhs; rw [e2, colF_app]
    show colF (l.drop (k + 1)) 1 = _
    exact colF_none _ 1 h
  rw [this, List.length_drop]; omega
theorem col_step {l : List UInt8} {k : Nat} {c : UInt8} (hk : l[k]? = some c) : colS (l.take (k + 1)) = (if c = 10 then 1 else colS (l.take k) + 1) ∧ (l.take (k + 1)).count 10 = (l.take k).count 10 + (if c = 10 then 1 else 0) := by
  obtain ⟨hlt, e⟩ := List.getElem?_eq_some_iff.1 hk
  have e2 : l.take (k + 1) = l.take k ++ [c] := by rw [List.take_add_one, hk]; rfl
  rw [e2]
  refine ⟨by unfold colS; rw [colF_app]; rfl, ?_⟩
  rw [List.count_append, List.count_singleton]
  by_cases h : c = 10 <;> simp [h]

set_option maxHeartbeats 1000000 in
theorem lastIndexByteB_any (v : Value) (l : List UInt8) (w : World) (hV : Bs w v l) (hl : l.length ≤ 1048577) :
    Calls Tryd.prog 45 #[v, .int .u8 10] w fun e w' => e = .returned (.int .i64 ((l.length : Int) - (colS l : Nat))) ∧ w = w' := by
  obtain ⟨p, cap, rfl, h1, h2, hcell⟩ := hV
  have HC := Lib.hid hcell
  clear hcell
  go_enter Tryd.func45, Tryd.ntmps45
  go_wp2
  go_loop [5] (fun i => ∃ k : Nat, k ≤ l.length ∧ i = .int .i64 ((k : Int) - 1) ∧ ∀ x ∈ l.drop k, x ≠ 10) (fun i => (intOf i + 1).toNat)
  case atStart => exact ⟨l.length, Nat.le_refl _, rfl, by simp⟩
  case round =>
    obtain ⟨k, hk, rfl, hn⟩ := hrel
    cases k with
    | zero =>
      have HN := Lib.hid (col_none hn)
      clear hn
      go_wp2
      go_ret
      exact ⟨by rw [← HN.out]; simp; omega, rfl⟩
    | succ k =>
      obtain ⟨c, hc⟩ : ∃ c, l[k]? = some c := ⟨_, List.getElem?_eq_getElem (by omega)⟩
      obtain ⟨b, o, rfl, hcell⟩ := HC.out (by omega)
      have hck := hcell k c hc
      clear hcell
      rw [show ((k + 1 : Nat) : Int) - 1 = (k : Int) by omega]
      have hcr := c.toNat_lt
      by_cases h10 : c.toNat = 10
      · obtain rfl : c = 10 := UInt8.toNat_inj.1 h10
        have HN := Lib.hid (col_found hc hn)
        clear hn
        go_wp2
        go_ret
        exact ⟨by rw [← HN.out]; simp; omega, rfl⟩
      · have hn' : Hid (∀ x ∈ l.drop k, x ≠ 10) := by
          intro x hx
          obtain ⟨hlt, e⟩ := List.getElem?_eq_some_iff.1 hc
          rw [List.drop_eq_getElem_cons hlt, e] at hx
          rcases List.mem_cons.1 hx with h | h
          · subst h; intro e; subst e; exact h10 rfl
          · exact hn x h
        have e10 : ((c.toNat : Int) == 10) = false := beq_eq_false_iff_ne.2 (by omega)
        clear hn
        go_wp2
        go_round
        case rel => exact ⟨k, by omega, by go_num, hn'.out⟩
        case measure => simp [intOf]
theorem lastIndexByte_any (v : Value) (l : List UInt8) (w : World) (hV : Bs w v l) (hl : l.length ≤ 1048577) :
    Calls Tryd.prog 31 #[v, .int .u8 10] w fun e w' => e = .returned (.int .i64 ((l.length : Int) - (colS l : Nat))) ∧ w = w' := by
  have C := Lib.hid (lastIndexByteB_any v l w hV hl)
  go_enter Tryd.func31, Tryd.ntmps31
  go_wp2_with fail
  refine C.out.mono ?_
  rintro e w' ⟨rfl, rfl⟩
  go_wp2
  go_ret
  exact ⟨rfl, rfl⟩
end Go.Proofs.YtmbejmhnoeoohaaDoor
