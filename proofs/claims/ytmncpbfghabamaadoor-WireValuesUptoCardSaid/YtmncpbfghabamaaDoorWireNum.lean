/- WIRE: numbers written: the program's and the reference's. -/
import Derived.Test.YtmncpbfghabamaaDoorWireGrow
namespace Go.Proofs.YtmncpbfghabamaaDoor
open Go Go.RowKit

theorem news_cell (w : World) (u : Value) (t : TypeId) : ∀ j x, [u][j]? = some x → (w.alloc (.cells #[u] t)).cell? ((⟨w.heap.size, 0, none⟩ : Addr).add j) = some x := by
  intro j x hj
  match j, hj with
  | 0, hj =>
    simp at hj; subst hj
    show (w.alloc (.cells #[u] t)).cell? ⟨w.heap.size, 0, none⟩ = some u
    go_simp
  | j + 1, hj => simp at hj
theorem row_snoc {W : World} {base : Nat} {v : Value} {l : List UInt8} {x : UInt8} {u : Value} (h : W.ownsRow base 5 1 v (l.length + 1) (l.map bv ++ [u])) (hu : bv x = u) : Row W base v (l ++ [x]) := by
  subst hu
  unfold Row
  rw [List.map_append, List.length_append]
  exact h
/-- what a writing to a writer leaves -/
def WPost (Bw base : Nat) (v : Value) (W : World) (l : List UInt8) (r : Ending) (W' : World) : Prop :=
  ∃ v', r = .returned (.tuple #[]) ∧ Boxed W' Bw 67 v' ∧ Row W' base v' l ∧ Grow (some Bw) v W v' W'
/-- what a writing to a slice leaves -/
def SPost (base : Nat) (v : Value) (W : World) (l : List UInt8) (r : Ending) (W' : World) : Prop :=
  ∃ v', r = .returned v' ∧ Row W' base v' l ∧ Grow none v W v' W'

set_option maxRecDepth 100000 in
set_option maxHeartbeats 2000000 in
theorem number_any (Bw base : Nat) (v : Value) (l : List UInt8) (x : Nat) (W : World) (hbox : Boxed W Bw 67 v) (hrow : Row W base v l) (hb : base ≤ W.heap.size) (hx : x < 18446744073709551616) (hl : l.length ≤ 100000000) :
    Calls Tryd.prog 41 #[.pointer (some ⟨Bw, 0, none⟩), .int .u64 (x : Nat)] W (WPost Bw base v W (l ++ numB x)) := by
  obtain ⟨PP, hPP⟩ : ∃ PP, WPost Bw base v W (l ++ numB x) = PP := ⟨_, rfl⟩
  rw [hPP]
  have HPP := Lib.hid hPP
  obtain ⟨i0, hi, hz0, hz1, hz2⟩ := info_parts info_u8
  have h10 := numB_ten hx
  have HB := Lib.hid hbox
  have HR := Lib.hid hrow
  clear hPP hbox hrow hx
  go_enter Tryd.func41, Tryd.ntmps41
  go_wp2_with fail
  go_loopw [1] (fun s wr => ∃ (y : Nat) (l1 : List UInt8) (v1 : Value), s = .int .u64 (y : Nat) ∧ y ≤ x ∧ Hid (l ++ numB x = l1 ++ numB y) ∧ Hid (Boxed wr Bw 67 v1) ∧ Hid (Row wr base v1 l1) ∧ Hid (Grow (some Bw) v W v1 wr)) (fun s _ => (intOf s).toNat)
  case atStart => exact ⟨x, l, v, rfl, Nat.le_refl _, rfl, HB.out, HR.out, Grow.refl _ _ _⟩
  case round =>
    obtain ⟨y, l1, v1, rfl, hy, HL, HB1, HR1, HG⟩ := hrel
    clear HB HR
    have hl1 : l1.length ≤ 100000010 := by have h := congrArg List.length HL.out; simp only [List.length_append] at h; omega
    have hc := HB1.out.cell
    have hf := HB1.out.frozen
    have hlt := HB1.out.lt
    have hsz := HG.out.size
    by_cases h128 : y < 128
    · have h1 : (y : Int) < 128 := by omega
      have hm : (y : Int) % 256 = (y : Int) := by omega
      have HL2 : Hid (l1 ++ [UInt8.ofNat y] = l ++ numB x) := by show _ = _; rw [HL.out, numB_small h128]
      have hbn : bv (UInt8.ofNat y) = .int .u8 (y : Nat) := by unfold bv; rw [byte_nat (by omega)]
      go_wp2_with (at_builtin; refine wpList_append_own_at _ rfl _ _ 26 rfl base 5 i0 (.int .u8 0) 1 1 Tryd.underlying26 hi hz0 hz1 hz2 rfl (by decide) _ _ _ rfl (HR1.out.alloc _) ⟨wr.heap.size, 0, none⟩ 1 1 [.int .u8 (y : Nat)] rfl rfl (news_cell _ _ _) (fun x hx => by simp at hx; subst hx; rfl) (by unfold maxLen; omega) (by omega) (by simp; omega) ?_; intro v' w1 hown' hgrow _ hat; obtain ⟨t1, t2, t3, t4⟩ := grow_append HB1.out (by decide) HR1.out hown' hgrow hat; obtain ⟨g', cap', rfl⟩ := ownsRow_succ hown'; have hc3 := t4.cell; have hf3 := t4.frozen; have T1 := Lib.hid t1; have T2 := Lib.hid t2; have T3 := Lib.hid t3; clear t1 t2 t3 t4 hown' hgrow hat)
      refine bodyPost_end (results_none rfl _ _ _) rfl ?_
      rw [← HPP.out]
      refine ⟨_, rfl, T1.out, ?_, HG.out.trans T3.out⟩
      rw [← HL2.out]
      exact row_snoc T2.out hbn
    · have h1 : (128 : Int) ≤ (y : Int) := by omega
      have ho := or_top y
      have HL2 : Hid (l ++ numB x = (l1 ++ [UInt8.ofNat (y % 128 + 128)]) ++ numB (y / 128)) := by show _ = _; rw [HL.out, numB_big h128]; simp
      have hbn : bv (UInt8.ofNat (y % 128 + 128)) = .int .u8 ((y % 128 + 128 : Nat) : Int) := by unfold bv; rw [byte_nat (by omega)]
      have hyx : y / 128 < y := by omega
      generalize y % 128 + 128 = z at *
      go_wp2_with (at_builtin; refine wpList_append_own_at _ rfl _ _ 26 rfl base 5 i0 (.int .u8 0) 1 1 Tryd.underlying26 hi hz0 hz1 hz2 rfl (by decide) _ _ _ rfl (HR1.out.alloc _) ⟨wr.heap.size, 0, none⟩ 1 1 [.int .u8 (z : Nat)] rfl rfl (news_cell _ _ _) (fun x hx => by simp at hx; subst hx; rfl) (by unfold maxLen; omega) (by omega) (by simp; omega) ?_; intro v' w1 hown' hgrow _ hat; obtain ⟨t1, t2, t3, t4⟩ := grow_append HB1.out (by decide) HR1.out hown' hgrow hat; obtain ⟨g', cap', rfl⟩ := ownsRow_succ hown'; have hc3 := t4.cell; have hf3 := t4.frozen; have T1 := Lib.hid t1; have T2 := Lib.hid t2; have T3 := Lib.hid t3; clear t1 t2 t3 t4 hown' hgrow hat)
      go_roundw
      case rel => exact ⟨y / 128, l1 ++ [UInt8.ofNat z], _, by go_num, by omega, HL2.out, T1.out, row_snoc T2.out hbn, HG.out.trans T3.out⟩
      case measure => simp [intOf]; omega

theorem grow_row {W w1 : World} {base n n' : Nat} {v v' : Value} {xs ys : List Value} {tmp : Obj} (_hown : W.ownsRow base 5 1 v n xs) (_hown' : w1.ownsRow base 5 1 v' n' ys)
    (hg : (W.alloc tmp).grownBy w1 v.ownBlock) (hat : v'.ownBlock = v.ownBlock ∨ v'.ownBlock = some (W.alloc tmp).heap.size) : Grow none v W v' w1 := by
  have hsz := hg.size
  simp only [World.size_alloc] at hsz
  refine ⟨hg.os, hg.tape, hg.output, by omega, fun k hk _ h2 => ?_, ?_⟩
  · rw [hg.block k (by simp; omega) h2]
    exact Below.heap_alloc _ _ _ hk
  · rcases hat with ha | ha
    · exact .inl ha
    · right; intro g e
      rw [ha] at e
      injection e with e
      rw [← e]; simp

theorem wrap_div {y : Nat} (h : y < 18446744073709551616) : IntKind.u64.wrap ((y : Int) / 128) = (y : Int) / 128 := by
  simp only [IntKind.wrap, IntKind.bits, IntKind.signed]
  simp
  omega
set_option maxRecDepth 100000 in
set_option maxHeartbeats 2000000 in
theorem refNumber_any (base : Nat) (v : Value) (l : List UInt8) (x : Nat) (W : World) (hrow : Row W base v l) (hb : base ≤ W.heap.size) (hx : x < 18446744073709551616) (hl : l.length ≤ 100000000) :
    Calls Tryd.prog 42 #[v, .int .u64 (x : Nat)] W (SPost base v W (l ++ numB x)) := by
  obtain ⟨PP, hPP⟩ : ∃ PP, SPost base v W (l ++ numB x) = PP := ⟨_, rfl⟩
  rw [hPP]
  have HPP := Lib.hid hPP
  obtain ⟨i0, hi, hz0, hz1, hz2⟩ := info_parts info_u8
  have h10 := numB_ten hx
  have HR := Lib.hid hrow
  have HX := Lib.hid hx
  obtain ⟨p, cap, hv, -⟩ := bs_of_own hrow
  clear hPP hrow hx
  subst hv
  go_enter Tryd.func42, Tryd.ntmps42
  go_wp2_with fail
  go_loopw [0, 1] (fun u s wr => ∃ (y : Nat) (l1 : List UInt8), s = .int .u64 (y : Nat) ∧ y ≤ x ∧ Hid (l ++ numB x = l1 ++ numB y) ∧ Hid (Row wr base u l1) ∧ Hid (Grow none (.slice p l.length cap) W u wr)) (fun _ s _ => (intOf s).toNat)
  case atStart => exact ⟨x, l, rfl, Nat.le_refl _, rfl, HR.out, Grow.refl _ _ _⟩
  case round =>
    obtain ⟨y, l1, rfl, hy, HL, HR1, HG⟩ := hrel
    clear HR
    have hl1 : l1.length ≤ 100000010 := by have h := congrArg List.length HL.out; simp only [List.length_append] at h; omega
    obtain ⟨p1, cap1, rfl, -⟩ := bs_of_own HR1.out
    have hsz := HG.out.size
    by_cases h128 : y < 128
    · have h1 : (y : Int) < 128 := by omega
      have h2 : ¬ (127 : Int) < (y : Int) := by omega
      have hm : (y : Int) % 256 = (y : Int) := by omega
      have HL2 : Hid (l1 ++ [UInt8.ofNat y] = l ++ numB x) := by show _ = _; rw [HL.out, numB_small h128]
      have hbn : bv (UInt8.ofNat y) = .int .u8 (y : Nat) := by unfold bv; rw [byte_nat (by omega)]
      go_wp2_with (at_builtin; refine wpList_append_own_at _ rfl _ _ 26 rfl base 5 i0 (.int .u8 0) 1 1 Tryd.underlying26 hi hz0 hz1 hz2 rfl (by decide) _ _ _ rfl (HR1.out.alloc _) ⟨wr.heap.size, 0, none⟩ 1 1 [.int .u8 (y : Nat)] rfl rfl (news_cell _ _ _) (fun x hx => by simp at hx; subst hx; rfl) (by unfold maxLen; omega) (by omega) (by simp; omega) ?_; intro v' w1 hown' hgrow _ hat; have T3 := Lib.hid (grow_row HR1.out hown' hgrow hat); have T2 := Lib.hid hown'; clear hown' hgrow hat)
      rw [← HPP.out]
      refine ⟨_, rfl, ?_, HG.out.trans T3.out⟩
      rw [← HL2.out]
      exact row_snoc T2.out hbn
    · have h2 : (127 : Int) < (y : Int) := by omega
      have HL2 : Hid (l ++ numB x = (l1 ++ [UInt8.ofNat (y % 128 + 128)]) ++ numB (y / 128)) := by show _ = _; rw [HL.out, numB_big h128]; simp
      have hbn : bv (UInt8.ofNat (y % 128 + 128)) = .int .u8 ((y : Int) % 128 + 128) := by unfold bv; rw [byte_nat (by omega)]; simp
      have hyx : y / 128 < y := by omega
      have hw := wrap_div (Nat.lt_of_le_of_lt hy HX.out)
      go_wp2_with (at_builtin; refine wpList_append_own_at _ rfl _ _ 26 rfl base 5 i0 (.int .u8 0) 1 1 Tryd.underlying26 hi hz0 hz1 hz2 rfl (by decide) _ _ _ rfl (HR1.out.alloc _) ⟨wr.heap.size, 0, none⟩ 1 1 [.int .u8 ((y : Int) % 128 + 128)] rfl rfl (news_cell _ _ _) (fun x hx => by simp at hx; subst hx; rfl) (by unfold maxLen; omega) (by omega) (by simp; omega) ?_; intro v' w1 hown' hgrow _ hat; have T3 := Lib.hid (grow_row HR1.out hown' hgrow hat); have T2 := Lib.hid hown'; clear hown' hgrow hat)
      go_roundw
      case rel => exact ⟨y / 128, l1 ++ [UInt8.ofNat (y % 128 + 128)], by go_num, by omega, HL2.out, row_snoc T2.out hbn, HG.out.trans T3.out⟩
      case measure => simp [intOf]; omega
end Go.Proofs.YtmncpbfghabamaaDoor
