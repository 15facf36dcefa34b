/- ROUTE: the kinds of which a pattern holds. -/
import Derived.Test.YtpgdiekpeceicaaDoorRouteFace
import Derived.Laws.ShiftsVarLaws
namespace Go.Proofs.YtpgdiekpeceicaaDoor
open Go Go.RowKit

theorem below_drewN {B : Nat} {a w : World} (h : Below B a w) (q : Nat) : Below B a (w.drewN q) := ⟨h.os, h.tape, h.output, h.size, h.block⟩
theorem wp_world {P : Program} {c : Code} {Q : Exit → Act → World → Prop} {a : Act} {W : World} (R : World → Prop) (h : R W) (H : ∀ W, R W → Code.wp P c Q a W) : Code.wp P c Q a W := H W h
theorem k_world {K : Act → World → Prop} {a : Act} {W : World} (R : World → Prop) (h : R W) (H : ∀ W, R W → K a W) : K a W := H W h
def mk (p : Nat → Bool) : Nat → Nat
  | 0 => 0
  | k + 1 => if p k then mk p k ||| 2 ^ k else mk p k
theorem mk_lt (p : Nat → Bool) : ∀ k, mk p k < 2 ^ k := by
  intro k
  induction k with
  | zero => exact Nat.one_pos
  | succ k ih =>
    have h2 : 2 ^ k < 2 ^ (k + 1) := Nat.pow_lt_pow_right (by omega) (by omega)
    unfold mk
    split
    · exact Nat.or_lt_two_pow (Nat.lt_trans ih h2) h2
    · exact Nat.lt_trans ih h2
def isB (op num : Int) (k : Nat) : Bool :=
  if op = 1 then k != 0 else if op = 2 then (if num = 11 then k == 11 || k == 12 else num == (k : Int)) else if op = 3 then faceB k num.toNat else false
/-- a pattern that has no parts, and is fit -/
def LeafOk (op num : Int) : Prop := op = 1 ∨ (op = 2 ∧ 0 ≤ num ∧ num < 14) ∨ (op = 3 ∧ 0 ≤ num ∧ num < 10)
theorem or_bit {m k : Nat} (hm : m < 16384) (hk : k < 14) : bits .or .u32 (m : Int) ((2 : Int) ^ k % 4294967296) = ((m ||| 2 ^ k : Nat) : Int) := by
  have h2 : 2 ^ k ≤ 2 ^ 13 := Nat.pow_le_pow_right (by omega) (by omega)
  have e : ((2 : Int) ^ k % 4294967296) = ((2 ^ k : Nat) : Int) := by
    rw [show ((2 : Int) ^ k) = ((2 ^ k : Nat) : Int) by simp]
    exact Int.emod_eq_of_lt (Int.natCast_nonneg _) (Int.ofNat_lt.2 (by omega : 2 ^ k < 4294967296))
  rw [e]
  exact u32_or_nat _ _ (by omega) (by omega)
def MaskPost (w : World) (m : Nat) (r : Ending) (w' : World) : Prop := r = .returned (.int .u32 (m : Nat)) ∧ Below w.heap.size w w'

set_option maxRecDepth 100000 in
set_option maxHeartbeats 8000000 in
theorem leaf_any (op num : Int) (hok : LeafOk op num) (u : Value) (w : World) : Calls Tryd.prog 60 #[.agg #[.int .i64 op, .int .i64 num, u]] w (MaskPost w (mk (isB op num) 14)) := by
  obtain ⟨PP, hPP⟩ : ∃ PP, MaskPost w (mk (isB op num) 14) = PP := ⟨_, rfl⟩
  rw [hPP]
  have HPP := Lib.hid hPP
  clear hPP
  have HOK := Lib.hid hok
  clear hok
  go_enter Tryd.func60, Tryd.ntmps60
  go_wp2
  have HB0 : Hid (Below w.heap.size w (w.alloc (.cells #[.int .i64 op, .int .i64 num, u] 40)) ∧ (w.alloc (.cells #[.int .i64 op, .int .i64 num, u] 40)).heap[w.heap.size]? = some (.cells #[.int .i64 op, .int .i64 num, u] 40 (0, 0))) := ⟨(Below.refl _ _).alloc (Nat.le_refl _) _, heap_alloc_new w _⟩
  go_loopw [3, 7] (fun s i wr => ∃ k : Nat, i = .int .i64 (k : Nat) ∧ k ≤ 14 ∧ s = .int .u32 (mk (isB op num) k : Nat) ∧ Below w.heap.size w wr ∧ wr.heap[w.heap.size]? = some (.cells #[.int .i64 op, .int .i64 num, u] 40 (0, 0))) (fun _ i _ => 14 - (intOf i).toNat)
  case atStart => exact ⟨0, rfl, by omega, rfl, HB0.out.1, HB0.out.2⟩
  case round =>
    obtain ⟨k, rfl, hk, rfl, hb, hh⟩ := hrel
    clear HB0
    have HB := Lib.hid hb
    have HH := Lib.hid hh
    by_cases hlt : k < 14
    · have CS := Lib.hid (sample_any k hlt wr)
      have g1 : (k : Int) < 14 := by omega
      have g2 : (0 : Int) ≤ (k : Int) := by omega
      have hs := hb.size
      clear hb hh
      go_wp2_with fail
      refine CS.out.mono ?_
      rintro r' W ⟨v, rfl, hv, hb2⟩
      have c0 : W.cell? ⟨w.heap.size, 0, none⟩ = some (.int .i64 op) := by rw [cell_of_row W _ 0 _ _ _ ((hb2.block _ (by have := (Array.getElem?_eq_some_iff.1 HH.out).1; omega)).trans HH.out)]; rfl
      have c1 : W.cell? ⟨w.heap.size, 1, none⟩ = some (.int .i64 num) := by rw [cell_of_row W _ 1 _ _ _ ((hb2.block _ (by have := (Array.getElem?_eq_some_iff.1 HH.out).1; omega)).trans HH.out)]; rfl
      have HH2 := Lib.hid ((hb2.block _ (by have := (Array.getElem?_eq_some_iff.1 HH.out).1; omega)).trans HH.out)
      have HB2 := Lib.hid (HB.out.trans (hb2.mono HB.out.size))
      have HV := Lib.hid hv
      have HS : Hid (mk (isB op num) (k + 1) = if isB op num k then mk (isB op num) k ||| 2 ^ k else mk (isB op num) k) := rfl
      have hm1 : mk (isB op num) k < 16384 := Nat.lt_of_lt_of_le (mk_lt _ k) (Nat.pow_le_pow_right (by omega) (by omega) : 2 ^ k ≤ 2 ^ 14)
      clear hb2 hv HB HH CS
      rcases HOK.out with h1 | ⟨h1, h2, h3⟩ | ⟨h1, h2, h3⟩
      · have hn := sample_nil HV.out
        have hg := sample_guard HV.out
        have HIS : Hid (isB op num k = (k != 0)) := by show _ = _; unfold isB; rw [if_pos h1]
        rw [h1] at c0
        cases hb : (k != 0) with
        | false =>
          rw [hb] at hn HIS
          clear h1 hb
          go_wp2
          go_roundw
          case rel => exact ⟨k + 1, by go_num, by omega, by rw [HS.out, HIS.out]; rfl, HB2.out, HH2.out⟩
          case measure => simp [intOf]; omega
        | true =>
          rw [hb] at hn HIS
          clear h1 hb
          go_wp2
          go_roundw
          case rel => exact ⟨k + 1, by go_num, by omega, by rw [HS.out, HIS.out]; exact congrArg (Value.int .u32) (or_bit hm1 hlt), HB2.out, HH2.out⟩
          case measure => simp [intOf]; omega
      · rw [h1] at c0
        by_cases h11 : num = 11
        · have hbx := sample_box HV.out
          have HIS : Hid (isB op num k = (k == 11 || k == 12)) := by show _ = _; unfold isB; rw [if_neg (by omega), if_pos h1, if_pos h11]
          rw [h11] at c1
          have hne : (11 == (k : Int)) = true ∨ (11 == (k : Int)) = false := by cases (11 == (k : Int)) <;> simp
          obtain ⟨x, hbx⟩ := hbx
          cases hb : (k == 11 || k == 12) with
          | false =>
            rw [hb] at hbx HIS
            clear h1 h2 h3 h11 hb
            rcases hne with hne | hne
            all_goals
              go_wp2
              go_roundw
              case rel => exact ⟨k + 1, by go_num, by omega, by rw [HS.out, HIS.out]; rfl, HB2.out, HH2.out⟩
              case measure => simp [intOf]; omega
          | true =>
            rw [hb] at hbx HIS
            clear h1 h2 h3 h11 hb
            rcases hne with hne | hne
            all_goals
              go_wp2
              go_roundw
              case rel => exact ⟨k + 1, by go_num, by omega, by rw [HS.out, HIS.out]; exact congrArg (Value.int .u32) (or_bit hm1 hlt), HB2.out, HH2.out⟩
              case measure => simp [intOf]; omega
        · have HIS : Hid (isB op num k = (num == (k : Int))) := by show _ = _; unfold isB; rw [if_neg (by omega), if_pos h1, if_neg h11]
          have h11b : (num == 11) = false := beq_eq_false_iff_ne.2 h11
          cases hb : (num == (k : Int)) with
          | false =>
            rw [hb] at HIS
            clear h1 h2 h3 h11
            go_wp2
            go_roundw
            case rel => exact ⟨k + 1, by go_num, by omega, by rw [HS.out, HIS.out]; rfl, HB2.out, HH2.out⟩
            case measure => simp [intOf]; omega
          | true =>
            rw [hb] at HIS
            clear h1 h2 h3 h11
            go_wp2
            go_roundw
            case rel => exact ⟨k + 1, by go_num, by omega, by rw [HS.out, HIS.out]; exact congrArg (Value.int .u32) (or_bit hm1 hlt), HB2.out, HH2.out⟩
            case measure => simp [intOf]; omega
      · rw [h1] at c0
        obtain ⟨f, hf⟩ : ∃ f : Nat, num = (f : Int) := ⟨num.toNat, by omega⟩
        have HIS : Hid (isB op num k = faceB k f) := by show _ = _; unfold isB; rw [if_neg (by omega), if_neg (by omega), if_pos h1, hf]; rfl
        have CF := Lib.hid (face_any HV.out f (by omega) W)
        rw [hf] at c1
        cases hb : faceB k f with
        | false =>
          rw [hb] at CF HIS
          clear h1 h2 h3 hf hb
          go_wp2_with fail
          refine CF.out.mono ?_
          rintro r' W' ⟨rfl, rfl⟩
          go_wp2
          go_roundw
          case rel => exact ⟨k + 1, by go_num, by omega, by rw [HS.out, HIS.out]; rfl, HB2.out, HH2.out⟩
          case measure => simp [intOf]; omega
        | true =>
          rw [hb] at CF HIS
          clear h1 h2 h3 hf hb
          go_wp2_with fail
          refine CF.out.mono ?_
          rintro r' W' ⟨rfl, rfl⟩
          go_wp2
          go_roundw
          case rel => exact ⟨k + 1, by go_num, by omega, by rw [HS.out, HIS.out]; exact congrArg (Value.int .u32) (or_bit hm1 hlt), HB2.out, HH2.out⟩
          case measure => simp [intOf]; omega
    · obtain rfl : k = 14 := by omega
      clear hb hh
      go_wp2
      rw [← HPP.out]
      exact ⟨rfl, HB.out⟩
end Go.Proofs.YtpgdiekpeceicaaDoor
