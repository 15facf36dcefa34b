/- WIRE: the program reads a number. -/
import Derived.Test.YtmncpbfghabamaaDoorWireCur
namespace Go.Proofs.YtmncpbfghabamaaDoor
open Go Go.RowKit
attribute [local go_sem ↓] Go.wp_at_zero Go.wp_at_succ

/-- what a reading of a number leaves -/
def NumPost (l : List UInt8) (Br : Nat) (v : Value) (s : Cs) (lim : Nat) (W : World) (r : Ending) (W' : World) : Prop :=
  ∃ (x : Nat) (s' : Cs), r = .returned (.int .u64 (x : Nat)) ∧ RB W' Br v s' ∧ But Br W W' ∧ s'.parts = s.parts ∧ s'.room = s.room ∧
    match numD lim 0 0 (l.drop s.pos) with
    | .done y n => x = y ∧ s'.pos = s.pos + n ∧ s'.err = 0
    | .short => x = 0 ∧ s'.err = 260 ∧ s'.pos ≤ l.length
    | .bad => x = 0 ∧ s'.err = 262 ∧ s'.pos ≤ l.length

theorem and_low {C D : Nat} (h : C < 256) (hD : C % 128 = D) : IntKind.u64.wrap (bits .and .u8 (C : Int) 127) = (D : Int) := by
  subst hD
  have e : bits .and .u8 (C : Int) 127 = ((C % 128 : Nat) : Int) := by
    have h1 := u8_and_nat C 127 h (by omega)
    rw [show ((127 : Nat) : Int) = 127 from rfl] at h1
    rw [h1]
    congr 1
    exact Nat.and_two_pow_sub_one_eq_mod C 7
  rw [e, wrap64u]
  omega
theorem or_add {x y k Y : Nat} (hx : x < 2 ^ k) (hy : x + y * 2 ^ k < 18446744073709551616) (hY : x + y * 2 ^ k = Y) {z : Int} (hz : z = (y : Int) * ((2 ^ k : Nat) : Int)) : bits .or .u64 (x : Int) (IntKind.u64.wrap z) = (Y : Int) := by
  subst hY
  have e : IntKind.u64.wrap z = ((y * 2 ^ k : Nat) : Int) := by
    rw [wrap64u, hz, ← Int.natCast_mul]
    omega
  rw [e, u64_or_nat x (y * 2 ^ k) (by omega) (by omega)]
  congr 1
  have h1 := Nat.two_pow_add_eq_or_of_lt hx y
  rw [Nat.or_comm, Nat.mul_comm y, ← h1, Nat.add_comm]
set_option maxRecDepth 100000 in
set_option maxHeartbeats 4000000 in
theorem rnumber_any (l : List UInt8) (Br : Nat) (v : Value) (s : Cs) (lim : Nat) (W : World) (hr : RB W Br v s) (hv : Bs W v l) (hl : l.length ≤ 100000000) (hp : s.pos ≤ l.length) (he : s.err = 0) (hlim : lim < 18446744073709551616) :
    Calls Tryd.prog 45 #[.pointer (some ⟨Br, 0, none⟩), .int .u64 (lim : Nat)] W (NumPost l Br v s lim W) := by
  obtain ⟨PP, hPP⟩ : ∃ PP, NumPost l Br v s lim W = PP := ⟨_, rfl⟩
  rw [hPP]
  have HPP := Lib.hid hPP
  have HR := Lib.hid hr
  have HV := Lib.hid hv
  have HE := Lib.hid he
  have HLIM := Lib.hid hlim
  have hvs : ∃ q n c, v = .slice q n c := by obtain ⟨p, cap, e, -⟩ := hv; exact ⟨_, _, _, e⟩
  have HVS := Lib.hid hvs
  clear hPP hr hv he hlim hvs
  go_enter Tryd.func45, Tryd.ntmps45
  go_wp2_with fail
  go_loopw [5, 8] (fun s5 s8 wr => ∃ (k x : Nat), s8 = .int .i64 (k : Nat) ∧ s5 = .int .u64 (x : Nat) ∧ k ≤ 9 ∧ s.pos + k ≤ l.length ∧ Hid (x < 2 ^ (7 * k)) ∧ Hid (numD lim 0 0 (l.drop s.pos) = numD lim k x (l.drop (s.pos + k))) ∧ Hid (RB wr Br v { s with pos := s.pos + k }) ∧ Hid (But Br W wr)) (fun _ s8 _ => (10 - intOf s8).toNat)
  case atStart => exact ⟨0, 0, rfl, rfl, by omega, by omega, Lib.hid (by decide), rfl, HR.out, But.refl _ _⟩
  case round =>
    obtain ⟨k, x, rfl, rfl, hk, hpk, HX, HN, HRB, HB⟩ := hrel
    have hk10 : (k : Int) < 10 := by omega
    have HVr : Hid (Bs wr v l) := HV.out.but HR.out HVS.out HB.out
    have CB := Lib.hid (byte_any l Br v _ wr HRB.out HVr.out hl (show s.pos + k ≤ _ by omega))
    by_cases hend : s.pos + k = l.length
    · have hb : Hid (byteR l { s with pos := s.pos + k } = (0, { s with pos := s.pos + k, err := 260 })) := by show _ = _; unfold byteR; rw [if_neg (by simp [HE.out]), if_neg (by simp; omega)]
      go_wp2_with fail
      refine CB.out.mono ?_
      rintro e W1 ⟨rfl, g1, g2⟩
      rw [hb.out] at g1 ⊢
      obtain ⟨c0, c1, c2, c3, c4, hlt⟩ := g1.cells
      have G1 := Lib.hid g1
      have G2 := Lib.hid (HB.out.trans g2)
      clear g1 g2 CB
      go_wp2_with fail
      rw [← HPP.out]
      refine ⟨0, _, rfl, G1.out, G2.out, rfl, rfl, ?_⟩
      rw [HN.out, hend, List.drop_length, numD]
      exact ⟨rfl, rfl, Nat.le_refl _⟩
    · obtain ⟨c, hc⟩ : ∃ c, l[s.pos + k]? = some c := ⟨_, List.getElem?_eq_getElem (by omega)⟩
      have hb : Hid (byteR l { s with pos := s.pos + k } = (c, { s with pos := s.pos + k + 1 })) := by
        show _ = _; unfold byteR; rw [if_neg (by simp [HE.out]), if_pos (by simp; omega)]; simp [List.getD, hc]
      have hdr : l.drop (s.pos + k) = c :: l.drop (s.pos + k + 1) := by
        rw [List.drop_eq_getElem_cons (by omega)]
        rw [(List.getElem?_eq_some_iff.1 hc).2]
      have HN2 : Hid (numD lim 0 0 (l.drop s.pos) = numD lim k x (c :: l.drop (s.pos + k + 1))) := by rw [← hdr]; exact HN.out
      have hc256 : c.toNat < 256 := c.toNat_lt
      clear hc hdr HN
      go_wp2_with fail
      refine CB.out.mono ?_
      rintro e W1 ⟨rfl, g1, g2⟩
      rw [hb.out] at g1 ⊢
      obtain ⟨c0, c1, c2, c3, c4, hlt⟩ := g1.cells
      have e2 : W1.cell? ⟨Br, 2, none⟩ = some (.int .i64 0) := by rw [c2, HE.out]
      have G1 := Lib.hid g1
      have G2 := Lib.hid (HB.out.trans g2)
      clear g1 g2 CB c2
      obtain ⟨C, hC⟩ : ∃ C, c.toNat = C := ⟨_, rfl⟩
      have HC := Lib.hid hC
      rw [hC] at hc256 ⊢
      clear hC
      obtain ⟨D, hD⟩ : ∃ D, C % 128 = D := ⟨_, rfl⟩
      have e12 : IntKind.u64.wrap (bits .and .u8 (C : Int) 127) = (D : Int) := and_low hc256 hD
      have hDC : D ≤ C := by omega
      have hpos : s.pos + k + 1 ≤ l.length := by omega
      have HBAD : Hid (∀ s', numD lim 0 0 (l.drop s.pos) = .bad → RB s' Br v { s with pos := s.pos + k + 1, err := 262 } → But Br W s' → PP (.returned (.int .u64 0)) s') := fun s' h1 h2 h3 => by
        rw [← HPP.out]
        refine ⟨0, _, rfl, h2, h3, rfl, rfl, ?_⟩
        rw [h1]
        exact ⟨rfl, rfl, hpos⟩
      have CFL : Hid (Calls Tryd.prog 44 #[.pointer (some ⟨Br, 0, none⟩), .int .i64 262] W1 (FailPost Br v { s with pos := s.pos + k + 1 } 262 W1)) := fail_any Br v _ 262 W1 G1.out
      have HDONE : Hid (∀ Y : Nat, numD lim 0 0 (l.drop s.pos) = .done Y (k + 1) → PP (.returned (.int .u64 (Y : Nat))) W1) := fun Y h1 => by
        rw [← HPP.out]
        refine ⟨Y, _, rfl, G1.out, G2.out, rfl, rfl, ?_⟩
        rw [h1]
        exact ⟨rfl, by simp; omega, HE.out⟩
      by_cases h0 : 0 < k ∧ C = 0
      · obtain ⟨hk0, rfl⟩ := h0
        have HQ : Hid (numD lim 0 0 (l.drop s.pos) = .bad) := by show _ = _; rw [HN2.out, numD]; simp [hk0, HC.out]
        have hk0I : (0 : Int) < (k : Int) := by omega
        clear e12 hD hDC
        by_cases hk9 : k = 9
        · subst hk9
          go_wp2_with fail
          refine CFL.out.mono ?_
          rintro e ws ⟨rfl, g1, g2⟩
          rw [if_pos HE.out] at g1
          have K1 := Lib.hid (HBAD.out ws HQ.out g1 (G2.out.trans g2))
          clear g1 g2
          go_wp2_with fail
          exact K1.out
        · have hk9' : ((k : Int) == 9) = false := by simp; omega
          go_wp2_with fail
          refine CFL.out.mono ?_
          rintro e ws ⟨rfl, g1, g2⟩
          rw [if_pos HE.out] at g1
          have K1 := Lib.hid (HBAD.out ws HQ.out g1 (G2.out.trans g2))
          clear g1 g2
          go_wp2_with fail
          exact K1.out
      by_cases hk9 : k = 9
      · subst hk9
        by_cases h1 : 1 < C
        · have h1I : (1 : Int) < (C : Int) := by omega
          have HQ : Hid (numD lim 0 0 (l.drop s.pos) = .bad) := by show _ = _; rw [HN2.out, numD]; simp [HC.out, h1]
          clear e12 hD hDC
          go_wp2_with fail
          refine CFL.out.mono ?_
          rintro e ws ⟨rfl, g1, g2⟩
          rw [if_pos HE.out] at g1
          have K1 := Lib.hid (HBAD.out ws HQ.out g1 (G2.out.trans g2))
          clear g1 g2
          go_wp2_with fail
          exact K1.out
        · have hC1 : C = 1 := by omega
          have hD1 : D = 1 := by omega
          have h1I : ¬ (1 : Int) < (C : Int) := by omega
          have h2I : (C : Int) < 128 := by omega
          have h3I : ((C : Int) == 0) = false := by simp; omega
          obtain ⟨Y, hY⟩ : ∃ Y, x + D * 2 ^ (7 * 9) = Y := ⟨_, rfl⟩
          have e3 : bits .or .u64 (x : Int) (IntKind.u64.wrap ((D : Int) * 9223372036854775808)) = (Y : Int) := or_add HX.out (by have := HX.out; rw [hD1]; omega) hY (by simp)
          have HY : Hid (x + C * 2 ^ (7 * 9) = Y) := by rw [hC1, ← hD1]; exact hY
          have HQ : Hid (numD lim 9 x (c :: l.drop (s.pos + 9 + 1)) = if Y ≤ lim then .done Y (9 + 1) else .bad) := by
            show _ = _
            rw [numD, HC.out, if_neg (by omega), if_pos (by omega), HY.out]
          clear hY hD hDC hC1 hD1 h0 h1
          by_cases hl2 : Y ≤ lim
          · have hlI : (Y : Int) ≤ (lim : Int) := by omega
            go_wp2_with fail
            exact HDONE.out Y (by rw [HN2.out, HQ.out, if_pos hl2])
          · have hlI : ¬ (Y : Int) ≤ (lim : Int) := by omega
            have HQ : Hid (numD lim 0 0 (l.drop s.pos) = .bad) := by show _ = _; rw [HN2.out, HQ.out, if_neg hl2]
            go_wp2_with fail
            refine CFL.out.mono ?_
            rintro e ws ⟨rfl, g1, g2⟩
            rw [if_pos HE.out] at g1
            have K1 := Lib.hid (HBAD.out ws HQ.out g1 (G2.out.trans g2))
            clear g1 g2
            go_wp2_with fail
            exact K1.out
      · have hk9' : ((k : Int) == 9) = false := by simp; omega
        have hk9I : (k : Int) < 9 := by omega
        have hp2 : 2 ^ (7 * (k + 1)) = 128 * 2 ^ (7 * k) := by rw [show 7 * (k + 1) = 7 + 7 * k by omega, Nat.pow_add]
        have hp3 : 2 ^ (7 * (k + 1)) ≤ 2 ^ 63 := Nat.pow_le_pow_right (by decide) (by omega)
        have hD8 : D < 128 := by omega
        have hxk := HX.out
        have hDm : D * 2 ^ (7 * k) + 2 ^ (7 * k) ≤ 128 * 2 ^ (7 * k) := by
          rw [← Nat.succ_mul]; exact Nat.mul_le_mul_right _ hD8
        obtain ⟨Y, hY⟩ : ∃ Y, x + D * 2 ^ (7 * k) = Y := ⟨_, rfl⟩
        have hY2 : Y < 2 ^ (7 * (k + 1)) := by omega
        obtain ⟨Z, hZ⟩ : ∃ Z, Y + 2 ^ (7 * (k + 1)) = Z := ⟨_, rfl⟩
        have e3 : bits .or .u64 (x : Int) (IntKind.u64.wrap ((D : Int) * 2 ^ (7 * k))) = (Y : Int) := or_add HX.out (by omega) hY (by simp)
        have e4 : bits .or .u64 (Y : Int) (IntKind.u64.wrap (2 ^ (7 * (k + 1)))) = (Z : Int) := or_add (y := 1) hY2 (by omega) (by omega) (by simp)
        have hkC : ¬ (0 < k ∧ C = 0) := h0
        have HZ := Lib.hid hZ
        have HY := Lib.hid hY
        have HY2 := Lib.hid hY2
        by_cases h128 : C < 128
        · have h2I : (C : Int) < 128 := by omega
          have hDC' : D = C := by omega
          have HQ : Hid (numD lim k x (c :: l.drop (s.pos + k + 1)) = if Y ≤ lim then .done Y (k + 1) else .bad) := by
            show _ = _
            rw [numD, HC.out, if_neg (by omega), if_pos h128, ← hDC', HY.out]
          have hkc2 : k = 0 ∨ (0 < k ∧ ((C : Int) == 0) = false) := by simp; omega
          clear hY hZ hY2 hp2 hp3 hxk hDm hD hDC hDC' hkC h0 hD8
          by_cases hl2 : Y ≤ lim
          · have hlI : (Y : Int) ≤ (lim : Int) := by omega
            have HF := Lib.hid (HDONE.out Y (by rw [HN2.out, HQ.out, if_pos hl2]))
            rcases hkc2 with hk00 | ⟨hk0, hc0⟩
            · have hk0I : ¬ (0 : Int) < (k : Int) := by omega
              clear hk00
              go_wp2_with fail
              exact HF.out
            · have hk0I : (0 : Int) < (k : Int) := by omega
              go_wp2_with fail
              exact HF.out
          · have hlI : ¬ (Y : Int) ≤ (lim : Int) := by omega
            have HQ : Hid (numD lim 0 0 (l.drop s.pos) = .bad) := by show _ = _; rw [HN2.out, HQ.out, if_neg hl2]
            rcases hkc2 with hk00 | ⟨hk0, hc0⟩
            · have hk0I : ¬ (0 : Int) < (k : Int) := by omega
              clear hk00
              go_wp2_with fail
              refine CFL.out.mono ?_
              rintro e ws ⟨rfl, g1, g2⟩
              rw [if_pos HE.out] at g1
              have K1 := Lib.hid (HBAD.out ws HQ.out g1 (G2.out.trans g2))
              clear g1 g2
              go_wp2_with fail
              exact K1.out
            · have hk0I : (0 : Int) < (k : Int) := by omega
              go_wp2_with fail
              refine CFL.out.mono ?_
              rintro e ws ⟨rfl, g1, g2⟩
              rw [if_pos HE.out] at g1
              have K1 := Lib.hid (HBAD.out ws HQ.out g1 (G2.out.trans g2))
              clear g1 g2
              go_wp2_with fail
              exact K1.out
        · have h2I : ¬ (C : Int) < 128 := by omega
          have hc0 : ((C : Int) == 0) = false := by simp; omega
          have hDC' : D = C - 128 := by omega
          have HQ : Hid (numD lim k x (c :: l.drop (s.pos + k + 1)) = if lim < Z then .bad else numD lim (k + 1) Y (l.drop (s.pos + k + 1))) := by
            show _ = _
            rw [numD, HC.out, if_neg (by omega), if_neg h128, ← hDC', HY.out, HZ.out]
          clear hY hZ hY2 hp2 hp3 hxk hDm hD hDC hDC' hkC h0 hD8
          by_cases hl2 : lim < Z
          · have hlI : (lim : Int) < (Z : Int) := by omega
            have HQ : Hid (numD lim 0 0 (l.drop s.pos) = .bad) := by show _ = _; rw [HN2.out, HQ.out, if_pos hl2]
            go_wp2_with fail
            all_goals
              refine CFL.out.mono ?_
              rintro e ws ⟨rfl, g1, g2⟩
              rw [if_pos HE.out] at g1
              have K1 := Lib.hid (HBAD.out ws HQ.out g1 (G2.out.trans g2))
              clear g1 g2
              go_wp2_with fail
              exact K1.out
          · have hlI : ¬ (lim : Int) < (Z : Int) := by omega
            have HQ2 : Hid (numD lim 0 0 (l.drop s.pos) = numD lim (k + 1) Y (l.drop (s.pos + (k + 1)))) := by show _ = _; rw [HN2.out, HQ.out, if_neg hl2]; rfl
            go_wp2_with fail
            all_goals
              go_roundw
              case rel => exact ⟨k + 1, Y, by go_num, rfl, by omega, by omega, HY2, HQ2, G1, G2⟩
              case measure => simp [intOf]; omega
end Go.Proofs.YtmncpbfghabamaaDoor
