/- LINES: the reference's Line, the program's Line. -/
import Derived.Test.YtmbejmhnoeoohaaDoorScanLine
import Derived.Test.YtmbejmhnoeoohaaDoorScanScn
namespace Go.Proofs.YtmbejmhnoeoohaaDoor
open Go Go.RowKit

theorem colF_le : ∀ (l : List UInt8) (c : Nat), 1 ≤ c → colF l c ≤ c + l.length
  | [], c, _ => Nat.le_refl _
  | x :: r, c, h => by
    show colF r (if x = 10 then 1 else c + 1) ≤ _
    have h1 := colF_le r 1 (Nat.le_refl _)
    have h2 := colF_le r (c + 1) (by omega)
    split <;> simp <;> omega

def LinePost (w : World) (l : List UInt8) (m : Nat) (e : Ending) (w' : World) : Prop := e = .returned (.tuple #[.int .i64 (1 + ((l.take m).count 10 : Nat)), .int .i64 (colS (l.take m) : Nat)]) ∧ Below w.heap.size w w'

set_option maxHeartbeats 1000000 in
theorem refLine_any (v : Value) (l : List UInt8) (pos : Int) (m : Nat) (w : World) (hV : Bs w v l) (hl : l.length ≤ 1048577) (hm : m ≤ l.length) (hM : (m : Int) = min (max pos 0) l.length) :
    Calls Tryd.prog 21 #[v, .int .i64 pos] w (LinePost w l m) := by
  obtain ⟨p, cap, rfl, h1, h2, hcell⟩ := hV
  have HC := Lib.hid hcell
  clear hcell
  have HM := Lib.hid hM
  clear hM
  generalize hPP : LinePost w l m = PP at *
  have HPP := Lib.hid hPP
  clear hPP
  go_enter Tryd.func21, Tryd.ntmps21
  go_wp2
  rw [← HM.out]
  go_loop [6, 7, 8] (fun a b i => ∃ k : Nat, k ≤ m ∧ i = .int .i64 (k : Nat) ∧ a = .int .i64 (1 + ((l.take k).count 10 : Nat)) ∧ b = .int .i64 (colS (l.take k) : Nat) ∧ (l.take k).count 10 ≤ k ∧ colS (l.take k) ≤ k + 1) (fun _ _ i => m - (intOf i).toNat)
  case atStart => exact ⟨0, Nat.zero_le _, rfl, rfl, rfl, Nat.le_refl _, Nat.le_refl _⟩
  case round =>
    obtain ⟨k, hk, rfl, rfl, rfl, hb1, hb2⟩ := hrel
    by_cases hlt : k < m
    · obtain ⟨c, hc⟩ : ∃ c, l[k]? = some c := ⟨_, List.getElem?_eq_getElem (by omega)⟩
      obtain ⟨b, o, rfl, hcell⟩ := HC.out (by omega)
      have hck := hcell k c hc
      obtain ⟨hs1, hs2⟩ := col_step hc
      clear hcell
      have hcr := c.toNat_lt
      have hkl : k < l.length := by omega
      generalize (l.take k).count 10 = x at *
      generalize colS (l.take k) = y at *
      by_cases h10 : c.toNat = 10
      · obtain rfl : c = 10 := UInt8.toNat_inj.1 h10
        rw [if_pos rfl] at hs1 hs2
        have HS1 := Lib.hid hs1
        have HS2 := Lib.hid hs2
        clear hs1 hs2
        go_wp2
        go_round
        case rel => exact ⟨k + 1, by omega, by go_num, by rw [HS2.out]; go_num, by rw [HS1.out]; rfl, by rw [HS2.out]; omega, by rw [HS1.out]; omega⟩
        case measure => simp [intOf]; omega
      · have e10 : ((c.toNat : Int) == 10) = false := beq_eq_false_iff_ne.2 (by omega)
        rw [if_neg (fun e => h10 (by rw [e]; rfl))] at hs1 hs2
        have HS1 := Lib.hid hs1
        have HS2 := Lib.hid hs2
        clear hs1 hs2
        go_wp2
        go_round
        case rel => exact ⟨k + 1, by omega, by go_num, by rw [HS2.out]; rfl, by rw [HS1.out]; go_num, by rw [HS2.out]; omega, by rw [HS1.out]; omega⟩
        case measure => simp [intOf]; omega
    · obtain rfl : k = m := by omega
      go_wp2
      rw [← HPP.out]
      exact ⟨rfl, Below.refl _ _⟩

/-- 'v[:k]' -/
theorem Bs.front_nil {w : World} {p : Option Addr} {n cap : Nat} {l : List UInt8} (h : Bs w (.slice p n cap) l) {k : Nat} (hk : k ≤ l.length) :
    ∃ q cq, (∀ w' : World, Sem.run Tryd.prog (Instr.slice 22 (.slice p n cap) none (some (Value.int IntKind.i64 (k : Nat))) none) w' = .ok (.slice q k cq) w') ∧ Bs w (.slice q k cq) (l.take k) ∧
      ((p = none → cap = 0) → (.slice q k cq : Value) = .slice none 0 0 ∨ ∃ a n c, (.slice q k cq : Value) = .slice (some a) n c) := by
  obtain ⟨e, h1, h2⟩ := h.len
  subst e
  have c1 : (0 : Int) ≤ (k : Int) := by omega
  have c2 : (k : Int) ≤ cap := by omega
  have e : (l.take k).length = k := by rw [List.length_take]; omega
  refine ⟨if cap = 0 then p else p.map (·.add 0), cap, fun w' => ?_, ?_, ?_⟩
  · by_cases h0 : cap = 0
    · subst h0
      have : k = 0 := by omega
      subst this
      go_simp
    · have h0' : ¬ (cap = 0) := h0
      cases p <;> go_simp
  · refine ⟨_, cap, by rw [e], by rw [e]; omega, by omega, fun hn => ?_⟩
    rw [e] at hn
    obtain ⟨b, o, cap', hv, _⟩ := h.form (by omega)
    injection hv with e1 _ _
    subst e1
    rw [if_neg (by omega)]
    refine ⟨b, o, ?_, fun j x hj => ?_⟩
    · show some ((⟨b, o, none⟩ : Addr).add 0) = _
      unfold Addr.add; split <;> simp_all
    · have hjk : j < k := by
        obtain ⟨hh, _⟩ := List.getElem?_eq_some_iff.1 hj
        omega
      rw [List.getElem?_take_of_lt hjk] at hj
      exact h.cell hj
  · intro hp
    cases p with
    | none =>
      have := hp rfl
      subst this
      have : k = 0 := by omega
      subst this
      exact .inl rfl
    | some a => exact .inr (by split; exact ⟨_, _, _, rfl⟩; exact ⟨_, _, _, rfl⟩)

set_option maxHeartbeats 1000000 in
theorem line_any (p : Option Addr) (n cap : Nat) (l : List UInt8) (pos : Int) (m : Nat) (w : World) (hV : Bs w (.slice p n cap) l) (hp : p = none → cap = 0) (hl : l.length ≤ 1048577) (hm : m ≤ l.length) (hM : (m : Int) = min (max pos 0) l.length) :
    Calls Tryd.prog 20 #[.slice p n cap, .int .i64 pos] w (LinePost w l m) := by
  obtain ⟨q, cq, hrun, hB, hq⟩ := hV.front_nil hm
  have hq := hq hp
  obtain ⟨e, _, _⟩ := hV.len
  subst e
  have hlen : (l.take m).length = m := by rw [List.length_take]; omega
  have CC : Hid (∀ w1 v2, Below w.heap.size w w1 → Bs w1 v2 [10] → Calls Tryd.prog 30 #[.slice q m cq, v2] w1 fun e w' => e = .returned (.int .i64 ((l.take m).count 10 : Nat)) ∧ w1 = w') := fun w1 v2 h1 h2 => count_any _ v2 _ w1 (hB.below h1) h2 hq
  have CL : Hid (∀ w1, Below w.heap.size w w1 → Calls Tryd.prog 31 #[.slice q m cq, .int .u8 10] w1 fun e w' => e = .returned (.int .i64 ((m : Int) - (colS (l.take m) : Nat))) ∧ w1 = w') := fun w1 h1 => by
    have := lastIndexByte_any _ _ w1 (hB.below h1) (by rw [hlen]; omega)
    rwa [hlen] at this
  have hcc : (l.take m).count 10 ≤ m := by have := List.count_le_length (a := 10) (l := l.take m); omega
  have hcol : colS (l.take m) ≤ m + 1 := by have := colF_le (l.take m) 1 (Nat.le_refl _); rw [hlen] at this; unfold colS; omega
  have hM' : min (max pos 0) (l.length : Int) = (m : Int) := hM.symm
  have HB0 : Hid (∀ o : Obj, Below w.heap.size w (w.alloc o)) := fun o => (Below.refl _ _).alloc (Nat.le_refl _) _
  have kc0 := conv_lit0
  have HR : Hid (1 + ((l.take m).count 10 : Nat) = 1 + (l.take m).count 10) := rfl
  generalize hPP : LinePost w l m = PP at *
  have HPP := Lib.hid hPP
  clear hPP hB hq hV hM
  go_enter Tryd.func20, Tryd.ntmps20
  go_wp2_with fail
  refine (CC.out _ _ (HB0.out _) (by exact Bs.lit_at [10] (by decide) rfl)).mono ?_
  rintro e w' ⟨rfl, rfl⟩
  go_wp2_with fail
  refine (CL.out _ (HB0.out _)).mono ?_
  rintro e w' ⟨rfl, rfl⟩
  go_wp2
  rw [show (m : Int) - ((m : Int) - (colS (l.take m) : Nat)) = (colS (l.take m) : Nat) by omega, ← HPP.out]
  exact ⟨rfl, HB0.out _⟩
end Go.Proofs.YtmbejmhnoeoohaaDoor
