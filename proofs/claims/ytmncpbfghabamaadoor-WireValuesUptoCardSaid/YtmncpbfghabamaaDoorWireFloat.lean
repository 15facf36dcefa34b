/- WIRE: the program reads eight bytes. -/
import Derived.Test.YtmncpbfghabamaaDoorWireFields
namespace Go.Proofs.YtmncpbfghabamaaDoor
open Go Go.RowKit
attribute [local go_sem ↓] Go.wp_at_zero Go.wp_at_succ

theorem Bs.but2 {W W' : World} {Br Bd : Nat} {v vr : Value} {s : Cs} {l : List UInt8} {kd di db : Int} {ds : ByteArray} {q : Option Addr} {n c : Nat} (h : Bs W v l) (hr : RB W Br vr s) (hvr : ∃ q n c, vr = .slice q n c) (hd : DB W Bd kd di db ds (.slice q n c)) (hb : But2 Br Bd W W') : Bs W' v l := by
  obtain ⟨p, cap, hv, h1, h2, h3⟩ := h
  refine ⟨p, cap, hv, h1, h2, fun hn => ?_⟩
  obtain ⟨b, o, hp, hc⟩ := h3 hn
  have h0 := hc 0 _ (List.getElem?_eq_getElem hn)
  have hne : b ≠ Br := by
    intro e
    subst e
    rw [cell_of_row W b (o + 0) _ _ _ hr] at h0
    obtain ⟨q, n, c, rfl⟩ := hvr
    match o, h0 with
    | 0, h0 => simp at h0
    | 1, h0 => simp at h0
    | 2, h0 => simp at h0
    | 3, h0 => simp at h0
    | 4, h0 => simp at h0
    | o + 5, h0 => simp at h0
  have hne2 : b ≠ Bd := by
    intro e
    subst e
    rw [cell_of_row W b (o + 0) _ _ _ hd] at h0
    match o, h0 with
    | 0, h0 => simp at h0
    | 1, h0 => simp at h0
    | 2, h0 => simp at h0
    | 3, h0 => simp at h0
    | 4, h0 => simp at h0
    | o + 5, h0 => simp at h0
  exact ⟨b, o, hp, fun j x hj => hb.cell (hc j x hj) hne hne2⟩
theorem RB.drew {W : World} {Br : Nat} {v : Value} {s : Cs} (h : RB W Br v s) : RB W.drew Br v s := h
theorem DB.drew {W : World} {Bd : Nat} {kd di db : Int} {ds : ByteArray} {v : Value} (h : DB W Bd kd di db ds v) : DB W.drew Bd kd di db ds v := h
theorem Bs.drew {W : World} {v : Value} {l : List UInt8} (h : Bs W v l) : Bs W.drew v l := h
/-- behind k of eight bytes -/
def FloS (l : List UInt8) (s : Cs) (k : Nat) (s' : Cs) (B : Nat) : Prop :=
  s'.parts = s.parts ∧ s'.room = s.room ∧ s'.pos ≤ l.length ∧ B < 18446744073709551616 ∧
    ((s'.err = 0 ∧ s'.pos = s.pos + k ∧ B = leN ((l.drop s.pos).take k)) ∨ (s'.err = 260 ∧ l.length < s.pos + 8))
theorem leN_take {l : List UInt8} {k : Nat} {c : UInt8} (h : l[k]? = some c) : leN (l.take (k + 1)) = leN (l.take k) + c.toNat * 2 ^ (8 * k) ∧ leN (l.take k) < 2 ^ (8 * k) := by
  have hk := (List.getElem?_eq_some_iff.1 h).1
  have e : (l.take k).length = k := by rw [List.length_take]; omega
  have h1 := leN_lt (l.take k)
  rw [e] at h1
  have h2 : (256 : Nat) ^ k = 2 ^ (8 * k) := by rw [Nat.pow_mul]
  rw [List.take_add_one, h]
  simp only [Option.toList]
  rw [leN_snoc, e, h2]
  exact ⟨rfl, by rw [← h2]; exact h1⟩
theorem or_zero64 {B : Nat} (h : B < 18446744073709551616) : bits .or .u64 (B : Int) 0 = (B : Int) := by
  have := u64_or_nat B 0 h (by omega)
  rw [show ((0 : Nat) : Int) = 0 from rfl, Nat.or_zero] at this
  exact this
theorem run_shl8 (P : Program) (x : Nat) (j : Nat) (hj : j < 8) (h : x * 2 ^ (8 * j) < 18446744073709551616) (w : World) : (Op.shift .shl .u64 (x : Int) .i64 (IntKind.i64.wrap (8 * (j : Int)))).run P w = .ok (.int .u64 ((x * 2 ^ (8 * j) : Nat) : Int)) w := by
  rw [show IntKind.i64.wrap (8 * (j : Int)) = ((8 * j : Nat) : Int) by rw [IntWalk.i64_in _ (by omega)]; omega]
  unfold Op.shift
  rw [if_neg (by omega)]
  have e : min (8 * j) 64 = 8 * j := by omega
  simp only [Int.toNat_natCast, IntKind.bits, e, Sem.run_pure]
  rw [wrap64u, show (x : Int) * 2 ^ (8 * j) = ((x * 2 ^ (8 * j) : Nat) : Int) by simp]
  congr 2
  omega
theorem FloS.ok {l : List UInt8} {s s' : Cs} {k B : Nat} {c : UInt8} (h : FloS l s k s' B) (he : s'.err = 0) (hk : k < 8) (hc : l[s'.pos]? = some c) :
    byteR l s' = (c, { s' with pos := s'.pos + 1 }) ∧ FloS l s (k + 1) { s' with pos := s'.pos + 1 } (B + c.toNat * 2 ^ (8 * k)) ∧ B < 2 ^ (8 * k) ∧ B + c.toNat * 2 ^ (8 * k) < 18446744073709551616 := by
  obtain ⟨h1, h2, h3, h4, h5⟩ := h
  have hpl := (List.getElem?_eq_some_iff.1 hc).1
  rcases h5 with ⟨_, h6, h7⟩ | ⟨h6, _⟩
  · have hc' : (l.drop s.pos)[k]? = some c := by rw [List.getElem?_drop, ← h6]; exact hc
    obtain ⟨g1, g2⟩ := leN_take hc'
    have hlt : leN ((l.drop s.pos).take (k + 1)) < 18446744073709551616 := by
      have g3 := leN_lt ((l.drop s.pos).take (k + 1))
      have g4 : ((l.drop s.pos).take (k + 1)).length ≤ 8 := by rw [List.length_take]; omega
      have g5 : (256 : Nat) ^ ((l.drop s.pos).take (k + 1)).length ≤ 256 ^ 8 := Nat.pow_le_pow_right (by decide) g4
      have g6 : (256 : Nat) ^ 8 = 18446744073709551616 := by decide
      omega
    refine ⟨?_, ⟨h1, h2, hpl, by rw [h7, ← g1]; exact hlt, .inl ⟨he, ?_, ?_⟩⟩, by rw [h7]; exact g2, by rw [h7, ← g1]; exact hlt⟩
    · unfold byteR; rw [if_neg (by simp [he]), if_pos hpl]; simp [List.getD, hc]
    · show s'.pos + 1 = _; omega
    · rw [h7, ← g1]
  · rw [h6] at he; cases he
theorem FloS.no {l : List UInt8} {s s' : Cs} {k B : Nat} (h : FloS l s k s' B) (hk : k < 8) (he : ¬ (s'.err = 0 ∧ s'.pos < l.length)) :
    ∃ s2, byteR l s' = (0, s2) ∧ FloS l s (k + 1) s2 B := by
  obtain ⟨h1, h2, h3, h4, h5⟩ := h
  rcases h5 with ⟨h6, h7, _⟩ | ⟨h6, h7⟩
  · have hpl : ¬ s'.pos < l.length := fun x => he ⟨h6, x⟩
    refine ⟨{ s' with err := 260 }, ?_, h1, h2, h3, h4, .inr ⟨rfl, by omega⟩⟩
    unfold byteR; rw [if_neg (by simp [h6]), if_neg hpl]
  · refine ⟨s', ?_, h1, h2, h3, h4, .inr ⟨h6, h7⟩⟩
    unfold byteR; rw [if_pos (by rw [h6]; decide)]

set_option maxRecDepth 100000 in
set_option maxHeartbeats 2000000 in
theorem field_float (l : List UInt8) (Br Bd : Nat) (v : Value) (s : Cs) (room kd : Nat) (W : World) (hr : RB W Br v s) (hd : DB W Bd (kd : Nat) 0 0 ⟨#[]⟩ (.slice none 0 0)) (hv : Bs W v l) (hl : l.length ≤ 100000000) (hp : s.pos ≤ l.length) (he : s.err = 0) (hk : kd = 3) :
    Calls Tryd.prog 58 #[.pointer (some ⟨Br, 0, none⟩), .pointer (some ⟨Bd, 0, none⟩)] W (FPost l Br Bd v s room kd W) := by
  obtain ⟨PP, hPP⟩ : ∃ PP, FPost l Br Bd v s room kd W = PP := ⟨_, rfl⟩
  rw [hPP]
  have HPP := Lib.hid hPP
  have HK := Lib.hid hk
  have HE := Lib.hid he
  have HR := Lib.hid hr
  have HD := Lib.hid hd
  have HV := Lib.hid hv
  have hne := hr.ne hd
  have hvs := hv.slice
  have HVS := Lib.hid hvs
  clear hPP hk he hvs
  have _ := hl
  clear hr hv hd
  go_enter Tryd.func58, Tryd.ntmps58
  go_wp2_with fail
  go_loopw [6] (fun s6 wr => ∃ (k B : Nat) (s' : Cs), s6 = .int .i64 (k : Nat) ∧ k ≤ 8 ∧ Hid (RB wr Br v s') ∧ Hid (DB wr Bd (kd : Nat) 0 (B : Nat) ⟨#[]⟩ (.slice none 0 0)) ∧ Hid (But2 Br Bd W wr) ∧ Hid (FloS l s k s' B)) (fun s6 _ => (8 - intOf s6).toNat)
  case atStart => exact ⟨0, 0, s, rfl, by omega, HR.out, HD.out, But2.of (But.refl _ _), ⟨rfl, rfl, hp, by omega, .inl ⟨HE.out, rfl, rfl⟩⟩⟩
  case round =>
    obtain ⟨k, B, s', rfl, hk, R1, D1, B1, F1⟩ := hrel
    have hf2 := D1.out.free 2
    obtain ⟨d0, d1, d2, d3, d4, hlt⟩ := D1.out.cells
    have F1' := F1.out
    obtain ⟨f1, f2, f3, f4, f5⟩ := F1'
    by_cases hk8 : k = 8
    · subst hk8
      have HK2 := HK.out
      go_wp2_with fail
      rw [← HPP.out]
      refine ⟨⟨0, B, ⟨#[]⟩, 0⟩, s', rfl, R1.out, D1.out, B1.out, f1, f2, f3, ?_⟩
      unfold ownD
      rw [if_neg (by omega), if_pos HK2]
      rcases f5 with ⟨g1, g2, g3⟩ | ⟨g1, g2⟩
      · rw [if_neg (by rw [List.length_drop]; omega)]
        exact ⟨by rw [g3]; rfl, g2, g1⟩
      · rw [if_pos (by rw [List.length_drop]; omega)]
        exact ⟨g1, Nat.zero_le _⟩
    · have hkI : (k : Int) < 8 := by omega
      have HVr := Lib.hid (HV.out.but2 HR.out HVS.out HD.out B1.out)
      have CB := Lib.hid (fun W2 (h1 : RB W2 Br v s') (h2 : Bs W2 v l) => byte_any l Br v s' W2 h1 h2 hl (by omega))
      by_cases hok : s'.err = 0 ∧ s'.pos < l.length
      · obtain ⟨c, hc⟩ : ∃ c, l[s'.pos]? = some c := ⟨_, List.getElem?_eq_getElem hok.2⟩
        obtain ⟨q1, q2, q3, q4⟩ := F1.out.ok hok.1 (by omega) hc
        have HB := Lib.hid q1
        have F2 := Lib.hid q2
        obtain ⟨C, hC⟩ : ∃ C, c.toNat = C := ⟨_, rfl⟩
        have HC := Lib.hid hC
        rw [hC] at F2 q4
        have hC256 : C < 256 := by rw [← hC]; exact c.toNat_lt
        obtain ⟨Y, hY⟩ : ∃ Y, B + C * 2 ^ (8 * k) = Y := ⟨_, rfl⟩
        obtain ⟨S, hS⟩ : ∃ S, C * 2 ^ (8 * k) = S := ⟨_, rfl⟩
        have e3 : bits .or .u64 (B : Int) (S : Int) = (Y : Int) := by
          have h := or_add (z := (S : Int)) q3 q4 hY (by rw [← hS]; simp)
          rw [wrap64u, show (S : Int) % 18446744073709551616 = (S : Int) by omega] at h
          exact h
        have hsh : ∀ w', (Op.shift .shl .u64 (C : Int) .i64 (IntKind.i64.wrap (8 * (k : Int)))).run Tryd.prog w' = .ok (.int .u64 (S : Int)) w' := fun w' => by rw [run_shl8 _ _ _ (by omega) (by omega), hS]
        have hwC : IntKind.u64.wrap (C : Int) = (C : Int) := by rw [wrap64u]; omega
        clear hS
        rw [hY] at F2
        clear hC hY q1 q2 q3 q4 hc f1 f2 f5 hok
        have eQ : byteR l s' = byteR l s' := rfl
        clear eQ
        go_wp2_with fail
        go_region_with (first | (go_at_call 43; refine (CB.out _ R1.out.drew HVr.out.drew).mono ?_; rintro e W2 ⟨rfl, g1, g2⟩; rw [HB.out] at g1; rw [HB.out, HC.out]; have G1 := Lib.hid g1; have G2 := Lib.hid (B1.out.drew.trans (But2.of g2)); have D2 := Lib.hid (D1.out.drew.but g2 hne); have hf2' := D2.out.free 2; have hlt2 := D2.out.cells.2.2.2.2.2; have d2' := D2.out.cells.2.2.1; clear g1 g2))
        all_goals
          go_simp
          go_wp2_with fail
          go_roundw
          case rel => exact ⟨k + 1, Y, _, by go_num, by omega, G1.out.setOther _ _ hne, D2.out.setDb Y, G2.out.set _ _ rfl, F2.out⟩
          case measure => simp [intOf]; omega
      · obtain ⟨s2, q1, q2⟩ := F1.out.no (by omega) hok
        have HB := Lib.hid q1
        have F2 := Lib.hid q2
        have e3 : bits .or .u64 (B : Int) 0 = (B : Int) := or_zero64 f4
        have hw0 : IntKind.u64.wrap 0 = 0 := by rw [wrap64u]; rfl
        have hsh : ∀ w', (Op.shift .shl .u64 0 .i64 (IntKind.i64.wrap (8 * (k : Int)))).run Tryd.prog w' = .ok (.int .u64 0) w' := fun w' => by
          have h := run_shl8 Tryd.prog 0 k (by omega) (by omega) w'
          rw [Nat.zero_mul] at h
          exact h
        clear q1 q2 f1 f2 f5 hok
        go_wp2_with fail
        go_region_with (first | (go_at_call 43; refine (CB.out _ R1.out.drew HVr.out.drew).mono ?_; rintro e W2 ⟨rfl, g1, g2⟩; rw [HB.out] at g1; rw [HB.out]; have G1 := Lib.hid g1; have G2 := Lib.hid (B1.out.drew.trans (But2.of g2)); have D2 := Lib.hid (D1.out.drew.but g2 hne); have hf2' := D2.out.free 2; have hlt2 := D2.out.cells.2.2.2.2.2; have d2' := D2.out.cells.2.2.1; clear g1 g2))
        all_goals
          go_simp
          go_wp2_with fail
          go_roundw
          case rel => exact ⟨k + 1, B, _, by go_num, by omega, G1.out.setOther _ _ hne, D2.out.setDb B, G2.out.set _ _ rfl, F2.out⟩
          case measure => simp [intOf]; omega
end Go.Proofs.YtmncpbfghabamaaDoor
