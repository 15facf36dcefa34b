/- WIRE: the reference's reader: may it go on, a byte, bits. WIRE: the reference reads a number. WIRE: the reference reads a signed number, a text. WIRE: the reference's room, and what a value's byte brings. WIRE: the reference reads so many values. WIRE: the reference's list where nothing is read. WIRE: the reference reads a value. -/
import Derived.Test.YtmncpbfghabamaaDoorWireRTxt
import Derived.Test.YtmncpbfghabamaaDoorWireRead
import Derived.Maps.AppendAt
namespace Go.Proofs.YtmncpbfghabamaaDoor
open Go Go.RowKit
attribute [local go_sem ↓] Go.wp_at_zero Go.wp_at_succ

/-- where the reference's reader stands -/
structure Qs where
  pos : Nat
  parts : Int
  short : Bool
  bad : Bool
def QB (W : World) (Br : Nat) (v : Value) (s : Qs) : Prop := W.heap[Br]? = some (.cells #[v, .int .i64 (s.pos : Nat), .int .i64 s.parts, .bool s.short, .bool s.bad] 80 (0, 0))
theorem QB.cells {W : World} {Br : Nat} {v : Value} {s : Qs} (h : QB W Br v s) : W.cell? ⟨Br, 0, none⟩ = some v ∧ W.cell? ⟨Br, 1, none⟩ = some (.int .i64 (s.pos : Nat)) ∧ W.cell? ⟨Br, 2, none⟩ = some (.int .i64 s.parts) ∧ W.cell? ⟨Br, 3, none⟩ = some (.bool s.short) ∧ W.cell? ⟨Br, 4, none⟩ = some (.bool s.bad) ∧ Br < W.heap.size := by
  have h' : W.heap[Br]? = some (.cells #[v, .int .i64 (s.pos : Nat), .int .i64 s.parts, .bool s.short, .bool s.bad] 80 (0, 0)) := h
  exact cells5 h'
theorem QB.free {W : World} {Br : Nat} {v : Value} {s : Qs} (h : QB W Br v s) (j : Nat) : W.frozen? ⟨Br, j, none⟩ = false := frozen_of_row W Br j _ _ h
theorem QB.drewN {W : World} {Br : Nat} {v : Value} {s : Qs} (h : QB W Br v s) (n : Nat) : QB (W.drewN n) Br v s := h
theorem QB.drew {W : World} {Br : Nat} {v : Value} {s : Qs} (h : QB W Br v s) : QB W.drew Br v s := h
theorem QB.alloc {W : World} {Br : Nat} {v : Value} {s : Qs} (h : QB W Br v s) (o : Obj) : QB (W.alloc o) Br v s := (Below.heap_alloc _ _ _ (Array.getElem?_eq_some_iff.1 h).1).trans h
theorem QB.setOther {W : World} {Br : Nat} {v : Value} {s : Qs} (h : QB W Br v s) (a : Addr) (u : Value) (hn : a.block ≠ Br) : QB (W.setCell a u) Br v s := (Below.heap_setCell _ _ _ _ (fun e => hn e.symm)).trans h
theorem QB.setPos {W : World} {Br : Nat} {v : Value} {s : Qs} (h : QB W Br v s) (n : Nat) {u : Value} (hu : u = .int .i64 (n : Nat)) : QB (W.setCell ⟨Br, 1, none⟩ u) Br v { s with pos := n } := by subst hu; exact heap_setCell_same W Br 1 _ _ _ h
theorem QB.setParts {W : World} {Br : Nat} {v : Value} {s : Qs} (h : QB W Br v s) (e : Int) {u : Value} (hu : u = .int .i64 e) : QB (W.setCell ⟨Br, 2, none⟩ u) Br v { s with parts := e } := by subst hu; exact heap_setCell_same W Br 2 _ _ _ h
theorem QB.setShort {W : World} {Br : Nat} {v : Value} {s : Qs} (h : QB W Br v s) (b : Bool) : QB (W.setCell ⟨Br, 3, none⟩ (.bool b)) Br v { s with short := b } := heap_setCell_same W Br 3 _ _ _ h
theorem QB.setBad {W : World} {Br : Nat} {v : Value} {s : Qs} (h : QB W Br v s) (b : Bool) : QB (W.setCell ⟨Br, 4, none⟩ (.bool b)) Br v { s with bad := b } := heap_setCell_same W Br 4 _ _ _ h
theorem Bs.butQ {W W' : World} {Br : Nat} {v vr : Value} {s : Qs} {l : List UInt8} (h : Bs W v l) (hr : QB W Br vr s) (hvr : ∃ q n c, vr = .slice q n c) (hb : But Br W W') : Bs W' v l := by
  obtain ⟨p, cap, hv, h1, h2, h3⟩ := h
  refine ⟨p, cap, hv, h1, h2, fun hn => ?_⟩
  obtain ⟨b, o, hp, hc⟩ := h3 hn
  have hne : b ≠ Br := by
    intro e
    subst e
    obtain ⟨x, hx⟩ : ∃ x, l[0]? = some x := ⟨_, List.getElem?_eq_getElem hn⟩
    have h0 := hc 0 x hx
    rw [cell_of_row W b (o + 0) _ _ _ hr] at h0
    obtain ⟨q, n, c, rfl⟩ := hvr
    match o, h0 with
    | 0, h0 => simp at h0
    | 1, h0 => simp at h0
    | 2, h0 => simp at h0
    | 3, h0 => simp at h0
    | 4, h0 => simp at h0
    | o + 5, h0 => simp at h0
  exact ⟨b, o, hp, fun j x hj => hb.cell (hc j x hj) hne⟩
def Qs.ok (s : Qs) : Bool := !s.short && !s.bad
def OkPost (b : Bool) (W : World) (r : Ending) (W' : World) : Prop := r = .returned (.bool b) ∧ W = W'
theorem qok_any (Br : Nat) (v : Value) (s : Qs) (W : World) (hr : QB W Br v s) : Calls Tryd.prog 48 #[.pointer (some ⟨Br, 0, none⟩)] W (OkPost s.ok W) := by
  obtain ⟨pos, parts, sh, bd⟩ := s
  obtain ⟨c0, c1, c2, c3, c4, hlt⟩ := hr.cells
  obtain ⟨PP, hPP⟩ : ∃ PP, OkPost (Qs.ok ⟨pos, parts, sh, bd⟩) W = PP := ⟨_, rfl⟩
  rw [hPP]
  have HPP := Lib.hid hPP
  clear hr hPP
  cases sh <;> cases bd
  all_goals
    go_enter Tryd.func48, Tryd.ntmps48
    go_wp2_with fail
    rw [← HPP.out]
    exact ⟨rfl, rfl⟩
/-- one byte -/
def byteQ (l : List UInt8) (s : Qs) : UInt8 × Qs := if s.ok = false then (0, s) else if s.pos < l.length then (l.getD s.pos 0, { s with pos := s.pos + 1 }) else (0, { s with short := true })
def QBytePost (l : List UInt8) (Br : Nat) (v : Value) (s : Qs) (W : World) (r : Ending) (W' : World) : Prop := r = .returned (.int .u8 ((byteQ l s).1.toNat : Nat)) ∧ QB W' Br v (byteQ l s).2 ∧ But Br W W'
theorem qbyte_any (l : List UInt8) (Br : Nat) (v : Value) (s : Qs) (W : World) (hr : QB W Br v s) (hv : Bs W v l) (hl : l.length ≤ 100000000) (hp : s.pos ≤ l.length) :
    Calls Tryd.prog 47 #[.pointer (some ⟨Br, 0, none⟩)] W (QBytePost l Br v s W) := by
  obtain ⟨pos, parts, sh, bd⟩ := s
  obtain ⟨c0, c1, c2, c3, c4, hlt⟩ := hr.cells
  have hf1 := hr.free 1
  have hf3 := hr.free 3
  have HR := Lib.hid hr
  have HV := Lib.hid hv
  obtain ⟨p, cap, rfl, h1, h2, h3⟩ := hv
  obtain ⟨PP, hPP⟩ : ∃ PP, QBytePost l Br (.slice p l.length cap) ⟨pos, parts, sh, bd⟩ W = PP := ⟨_, rfl⟩
  rw [hPP]
  have HPP := Lib.hid hPP
  have H3 := Lib.hid h3
  have CO : Hid (∀ W' s', QB W' Br (.slice p l.length cap) s' → Calls Tryd.prog 48 #[.pointer (some ⟨Br, 0, none⟩)] W' (OkPost s'.ok W')) := fun W' s' h => qok_any Br _ s' W' h
  clear hPP hr h3
  simp only at hp c1 c2 c3 c4
  have CQ : Hid (∀ W' s', QB W' Br (.slice p l.length cap) s' → Calls Tryd.prog 48 #[.pointer (some ⟨Br, 0, none⟩)] W' fun e w' => e = .returned (.bool s'.ok) ∧ w' = W') := fun W' s' h => (qok_any Br _ s' W' h).mono fun _ _ ⟨h1, h2⟩ => ⟨h1, h2.symm⟩
  cases hok : Qs.ok ⟨pos, parts, sh, bd⟩ with
  | false =>
    have HB : Hid (byteQ l ⟨pos, parts, sh, bd⟩ = (0, ⟨pos, parts, sh, bd⟩)) := by show _ = _; unfold byteQ; rw [if_pos hok]
    have C1 : Hid (∀ n, Calls Tryd.prog 48 #[.pointer (some ⟨Br, 0, none⟩)] (W.drewN n) fun e w' => e = .returned (.bool false) ∧ w' = W.drewN n) := fun n => by
      have h := CQ.out (W.drewN n) _ (HR.out.drewN n)
      rw [hok] at h
      exact h
    clear hok
    go_enter Tryd.func47, Tryd.ntmps47
    go_wp2_with fail
    go_quiet ((go_at_call 48; exact Calls.quiet_of_same (C1.out _)))
    go_wp2_with fail
    refine (C1.out _).mono ?_
    rintro e w' ⟨rfl, rfl⟩
    go_wp2_with fail
    rw [← HPP.out]
    refine ⟨by rw [HB.out]; rfl, by rw [HB.out]; exact HR.out.drewN _, (But.refl _ _).drewN _⟩
  | true =>
    have hok' := hok
    unfold Qs.ok at hok'
    simp at hok'
    obtain ⟨rfl, rfl⟩ := hok'
    have C1 : Hid (∀ n, Calls Tryd.prog 48 #[.pointer (some ⟨Br, 0, none⟩)] (W.drewN n) fun e w' => e = .returned (.bool true) ∧ w' = W.drewN n) := fun n => CQ.out (W.drewN n) _ (HR.out.drewN n)
    by_cases hpl : pos < l.length
    · have hI : ((pos : Int) == (l.length : Int)) = false := by simp; omega
      have HB : Hid (byteQ l ⟨pos, parts, false, false⟩ = (l.getD pos 0, ⟨pos + 1, parts, false, false⟩)) := by show _ = _; unfold byteQ; rw [if_neg (by rw [hok]; decide), if_pos hpl]
      obtain ⟨b, o, rfl, hc⟩ := H3.out (by omega)
      obtain ⟨x, hx⟩ : ∃ x, l[pos]? = some x := ⟨_, List.getElem?_eq_getElem hpl⟩
      have q0 := hc pos x hx
      have hxx : l.getD pos 0 = x := by simp [List.getD, hx]
      have HX := Lib.hid hxx
      have hne : b ≠ Br := by
        intro e
        subst e
        have h0 := q0
        rw [cell_of_row W b _ _ _ _ HR.out] at h0
        match hoo : o + pos, h0 with
        | 0, h0 => simp at h0
        | 1, h0 => simp at h0
        | 2, h0 => simp at h0
        | 3, h0 => simp at h0
        | 4, h0 => simp at h0
        | o + 5, h0 => simp at h0
      have hne' : Br ≠ b := fun e => hne e.symm
      have hbl := World.block_lt_of_cell? W _ q0
      have hw1 : IntKind.i64.wrap ((pos : Int) + 1 - 1) = (pos : Int) := by rw [IntWalk.i64_in _ (by omega)]; omega
      have hn0 : (0 : Int) ≤ (pos : Int) := by omega
      have hnl : (pos : Int) < (l.length : Int) := by omega
      clear hc hx hxx hlt hok
      go_enter Tryd.func47, Tryd.ntmps47
      go_wp2_with fail
      go_quiet ((go_at_call 48; exact Calls.quiet_of_same (C1.out _)))
      go_wp2_with fail
      refine (C1.out _).mono ?_
      rintro e w' ⟨rfl, rfl⟩
      go_wp2_with fail
      go_quiet (fail)
      go_wp2_with fail
      rw [← HPP.out]
      refine ⟨?_, ?_, (((But.refl Br W).drewN _).set ⟨Br, 1, none⟩ _ (.inl rfl)).drewN _⟩
      · show Ending.returned (.int .u8 (x.toNat : Nat)) = _
        rw [HB.out, HX.out]
      · rw [HB.out]
        exact ((HR.out.drewN _).setPos (pos + 1) (by simp)).drewN _
    · obtain rfl : pos = l.length := by omega
      have HB : Hid (byteQ l ⟨l.length, parts, false, false⟩ = (0, ⟨l.length, parts, true, false⟩)) := by show _ = _; unfold byteQ; rw [if_neg (by rw [hok]; decide), if_neg (by omega)]
      have C2 : Hid (∀ n, Calls Tryd.prog 48 #[.pointer (some ⟨Br, 0, none⟩)] ((W.drewN n).setCell ⟨Br, 3, none⟩ (.bool true)) fun e w' => e = .returned (.bool false) ∧ w' = (W.drewN n).setCell ⟨Br, 3, none⟩ (.bool true)) := fun n => CQ.out _ _ ((HR.out.drewN n).setShort true)
      clear hok hpl
      go_enter Tryd.func47, Tryd.ntmps47
      go_wp2_with fail
      go_quiet ((go_at_call 48; exact Calls.quiet_of_same (C1.out _)))
      go_wp2_with fail
      refine (C2.out _).mono ?_
      rintro e w' ⟨rfl, rfl⟩
      go_wp2_with fail
      rw [← HPP.out]
      refine ⟨by rw [HB.out]; rfl, ?_, ((But.refl Br W).drewN _).set ⟨Br, 3, none⟩ _ (.inl rfl)⟩
      rw [HB.out]
      exact (HR.out.drewN _).setShort true

/-- how many bits -/
def bitN : Nat → Nat
  | 0 => 0
  | x + 1 => bitN ((x + 1) / 2) + 1
decreasing_by omega
theorem bitN_zero : bitN 0 = 0 := by rw [bitN]
theorem bitN_pos {x : Nat} (h : 0 < x) : bitN x = bitN (x / 2) + 1 := by
  cases x with
  | zero => omega
  | succ x => rw [bitN]
theorem bitN_le : ∀ (k x : Nat), 2 ^ k ≤ x → k < bitN x := by
  intro k
  induction k with
  | zero => intro x h; rw [Nat.pow_zero] at h; rw [bitN_pos (by omega)]; omega
  | succ k ih =>
    intro x h
    have h0 : 0 < 2 ^ (k + 1) := Nat.two_pow_pos _
    rw [bitN_pos (by omega)]
    have := ih (x / 2) (by rw [Nat.pow_succ] at h; omega)
    omega
theorem bitN_max : ∀ (n x : Nat), x < 2 ^ n → bitN x ≤ n := by
  intro n
  induction n with
  | zero => intro x h; rw [Nat.pow_zero] at h; rw [show x = 0 by omega, bitN_zero]; exact Nat.le_refl _
  | succ n ih =>
    intro x h
    rcases Nat.eq_zero_or_pos x with rfl | hx
    · rw [bitN_zero]; omega
    · rw [bitN_pos hx]
      have := ih (x / 2) (by rw [Nat.pow_succ] at h; omega)
      omega
def BitsPost (n : Nat) (W : World) (r : Ending) (W' : World) : Prop := r = .returned (.int .i64 (n : Nat)) ∧ W = W'
theorem bits_any (x : Nat) (W : World) (hx : x < 18446744073709551616) : Calls Tryd.prog 73 #[.int .u64 (x : Nat)] W (BitsPost (bitN x) W) := by
  have hm := bitN_max 64 x (by rw [show (2 : Nat) ^ 64 = 18446744073709551616 by decide]; exact hx)
  obtain ⟨PP, hPP⟩ : ∃ PP, BitsPost (bitN x) W = PP := ⟨_, rfl⟩
  rw [hPP]
  have HPP := Lib.hid hPP
  have HX := Lib.hid hx
  clear hPP hx
  go_enter Tryd.func73, Tryd.ntmps73
  go_wp2_with fail
  go_loop [0, 3] (fun s0 s3 => ∃ (y n : Nat), s0 = .int .u64 (y : Nat) ∧ s3 = .int .i64 (n : Nat) ∧ y ≤ x ∧ n ≤ bitN x ∧ Hid (n + bitN y = bitN x)) (fun s0 _ => (intOf s0).toNat)
  case atStart => exact ⟨x, 0, rfl, rfl, Nat.le_refl _, Nat.zero_le _, by rw [Nat.zero_add]; exact rfl⟩
  case round =>
    obtain ⟨y, n, rfl, rfl, hy, hn, HN⟩ := hrel
    by_cases h0 : 0 < y
    · have hyI : (0 : Int) < (y : Int) := by omega
      have hb := bitN_pos h0
      have h1 := HN.out
      have HN2 : Hid ((n + 1) + bitN (y / 2) = bitN x) := by show _ = _; omega
      have hn2 : n + 1 ≤ bitN x := by omega
      have hw : IntKind.u64.wrap ((y : Int) / 2) = (y : Int) / 2 := by rw [wrap64u]; have := HX.out; omega
      have hlt : y / 2 < y := by omega
      clear hb h1
      go_wp2_with fail
      go_round
      case rel => exact ⟨y / 2, n + 1, by go_num, by go_num, by omega, hn2, HN2⟩
      case measure => simp [intOf]; omega
    · obtain rfl : y = 0 := by omega
      have h1 := HN.out
      rw [bitN_zero, Nat.add_zero] at h1
      clear HN h0
      subst h1
      go_wp2_with fail
      rw [← HPP.out]
      exact ⟨rfl, rfl⟩
theorem numD_sbad (lim k x K C D : Nat) (c : UInt8) (r : List UInt8) (hK : K = 7 * k) (hC : c.toNat = C) (hD : C % 128 = D) (h : lim < x + D * 2 ^ K) : numD lim k x (c :: r) = .bad := by
  have hc : C < 256 := by rw [← hC]; exact c.toNat_lt
  subst hK
  unfold numD
  rw [hC]
  split
  · rfl
  · split
    · rw [if_neg (by rw [show C = D by omega]; omega)]
    · rw [if_pos (by rw [show C - 128 = D by omega]; have := Nat.two_pow_pos (7 * (k + 1)); omega)]
theorem numD_szero (lim k x K : Nat) (c : UInt8) (r : List UInt8) (hK : K = 7 * k) (hC : c.toNat = 0) (h0 : 0 < K) : numD lim k x (c :: r) = .bad := by
  unfold numD
  rw [if_pos (.inr ⟨by omega, hC⟩)]
theorem numD_sdone (lim k x K C D Y : Nat) (c : UInt8) (r : List UInt8) (hK : K = 7 * k) (hk : k ≤ 9) (hC : c.toNat = C) (hD : C % 128 = D) (h128 : C < 128) (h0 : K = 0 ∨ 0 < C) (hY : x + D * 2 ^ K = Y) (hl : Y ≤ lim) (hlim : lim < 18446744073709551616) : numD lim k x (c :: r) = .done Y (k + 1) := by
  subst hK
  have hDC : D = C := by omega
  subst hDC
  unfold numD
  rw [hC, if_neg, if_pos h128, if_pos (by omega), hY]
  rintro (⟨rfl, h2⟩ | ⟨h1, h2⟩)
  · have : 2 ^ (7 * 9) = 9223372036854775808 := by decide
    rw [this] at hY
    omega
  · omega
theorem numD_snine (lim x C : Nat) (c : UInt8) (r : List UInt8) (hC : c.toNat = C) (h128 : ¬ C < 128) : numD lim 9 x (c :: r) = .bad := by
  unfold numD
  rw [if_pos (.inl ⟨rfl, by omega⟩)]
theorem numD_smore (lim k x K C D Y Z : Nat) (c : UInt8) (r : List UInt8) (hK : K = 7 * k) (hk : k ≤ 8) (hC : c.toNat = C) (hD : C % 128 = D) (h128 : ¬ C < 128) (hY : x + D * 2 ^ K = Y) (hZ : Y + 2 ^ (K + 7) = Z) : numD lim k x (c :: r) = if lim < Z then .bad else numD lim (k + 1) Y r := by
  have hc : C < 256 := by rw [← hC]; exact c.toNat_lt
  subst hK
  have hDC : C - 128 = D := by omega
  rw [show 7 * k + 7 = 7 * (k + 1) by omega] at hZ
  rw [numD, hC, if_neg (by omega), if_neg h128, hDC, hY, hZ]
/-- what a reading of a number leaves in the reference -/
def QNumPost (l : List UInt8) (Br : Nat) (v : Value) (s : Qs) (lim : Nat) (W : World) (r : Ending) (W' : World) : Prop :=
  ∃ (x : Nat) (s' : Qs), r = .returned (.int .u64 (x : Nat)) ∧ QB W' Br v s' ∧ But Br W W' ∧ s'.parts = s.parts ∧
    match numD lim 0 0 (l.drop s.pos) with
    | .done y n => x = y ∧ s'.pos = s.pos + n ∧ s'.ok = true
    | .short => x = 0 ∧ s'.short = true ∧ s'.bad = false ∧ s'.pos ≤ l.length
    | .bad => x = 0 ∧ s'.bad = true ∧ s'.pos ≤ l.length
set_option maxRecDepth 100000 in
set_option maxHeartbeats 4000000 in
theorem qnumber_any (l : List UInt8) (Br : Nat) (v : Value) (s : Qs) (lim : Nat) (W : World) (hr : QB W Br v s) (hv : Bs W v l) (hl : l.length ≤ 100000000) (hp : s.pos ≤ l.length) (he : s.ok = true) (hlim : lim < 18446744073709551616) :
    Calls Tryd.prog 49 #[.pointer (some ⟨Br, 0, none⟩), .int .u64 (lim : Nat)] W (QNumPost l Br v s lim W) := by
  obtain ⟨pos, parts, sh, bd⟩ := s
  unfold Qs.ok at he
  simp at he
  obtain ⟨rfl, rfl⟩ := he
  simp only at hp
  obtain ⟨PP, hPP⟩ : ∃ PP, QNumPost l Br v ⟨pos, parts, false, false⟩ lim W = PP := ⟨_, rfl⟩
  rw [hPP]
  have HPP := Lib.hid hPP
  have HR := Lib.hid hr
  have HV := Lib.hid hv
  have HLIM := Lib.hid hlim
  have hvs : ∃ q n c, v = .slice q n c := by obtain ⟨p, cap, e, -⟩ := hv; exact ⟨_, _, _, e⟩
  have HVS := Lib.hid hvs
  obtain ⟨M, hM⟩ : ∃ M, bitN lim = M := ⟨_, rfl⟩
  have HM := Lib.hid hM
  have CBI : Hid (∀ w, Calls Tryd.prog 73 #[.int .u64 (lim : Nat)] w fun e w' => e = .returned (.int .i64 (M : Nat)) ∧ w' = w) := fun w => (bits_any lim w hlim).mono fun _ _ ⟨h1, h2⟩ => ⟨by rw [h1, hM], h2.symm⟩
  have CQ : Hid (∀ W' s', QB W' Br v s' → Calls Tryd.prog 48 #[.pointer (some ⟨Br, 0, none⟩)] W' fun e w' => e = .returned (.bool s'.ok) ∧ w' = W') := fun W' s' h => (qok_any Br _ s' W' h).mono fun _ _ ⟨h1, h2⟩ => ⟨h1, h2.symm⟩
  clear hPP hr hv hlim hvs hM
  go_enter Tryd.func49, Tryd.ntmps49
  go_wp2_with fail
  go_loopw [5, 6] (fun s5 s6 wr => ∃ (k x K : Nat), s6 = .int .i64 (K : Nat) ∧ s5 = .int .u64 (x : Nat) ∧ Hid (K = 7 * k) ∧ k ≤ 9 ∧ pos + k ≤ l.length ∧ Hid (x < 2 ^ (7 * k)) ∧ Hid (0 < k → x + 2 ^ (7 * k) ≤ lim) ∧ Hid (numD lim 0 0 (l.drop pos) = numD lim k x (l.drop (pos + k))) ∧ Hid (QB wr Br v ⟨pos + k, parts, false, false⟩) ∧ Hid (But Br W wr)) (fun _ s6 _ => (100 - intOf s6).toNat)
  case atStart => exact ⟨0, 0, 0, rfl, rfl, Lib.hid rfl, by omega, by omega, Lib.hid (by decide), Lib.hid (by omega), rfl, HR.out, But.refl _ _⟩
  case round =>
    obtain ⟨k, x, K, rfl, rfl, hK, hk, hpk, HX, HXL, HN, HRB, HB⟩ := hrel
    have HVr : Hid (Bs wr v l) := HV.out.butQ HR.out HVS.out HB.out
    have CB := Lib.hid (qbyte_any l Br v _ wr HRB.out HVr.out hl (show pos + k ≤ _ by omega))
    have C1 : Hid (Calls Tryd.prog 48 #[.pointer (some ⟨Br, 0, none⟩)] wr fun e w' => e = .returned (.bool true) ∧ w' = wr) := CQ.out wr _ HRB.out
    have hKM : K < max M 1 := by
      have hK' := hK.out
      rcases Nat.eq_zero_or_pos k with rfl | hk0
      · omega
      · have h1 := HXL.out hk0
        have h2 := bitN_le (7 * k) lim (by omega)
        rw [HM.out] at h2
        omega
    have hKI : ¬ max (M : Int) 1 ≤ (K : Int) := by omega
    have hK70 : K ≤ 63 := by have := hK.out; omega
    clear hKM
    by_cases hend : pos + k = l.length
    · have hb : Hid (byteQ l ⟨pos + k, parts, false, false⟩ = (0, ⟨pos + k, parts, true, false⟩)) := by show _ = _; unfold byteQ; rw [if_neg (by simp [Qs.ok]), if_neg (by simp; omega)]
      go_wp2_with fail
      refine C1.out.mono ?_
      rintro e w' ⟨rfl, rfl⟩
      go_wp2_with fail
      refine (CBI.out _).mono ?_
      rintro e w' ⟨rfl, rfl⟩
      go_wp2_with fail
      refine CB.out.mono ?_
      rintro e W1 ⟨rfl, g1, g2⟩
      rw [hb.out] at g1 ⊢
      have G1 := Lib.hid g1
      have G2 := Lib.hid (HB.out.trans g2)
      have C2 : Hid (Calls Tryd.prog 48 #[.pointer (some ⟨Br, 0, none⟩)] W1 fun e w' => e = .returned (.bool false) ∧ w' = W1) := CQ.out W1 _ g1
      clear g1 g2 CB
      go_wp2_with fail
      refine C2.out.mono ?_
      rintro e w' ⟨rfl, rfl⟩
      go_wp2_with fail
      rw [← HPP.out]
      refine ⟨0, _, rfl, G1.out, G2.out, rfl, ?_⟩
      rw [HN.out, hend, List.drop_length, numD]
      exact ⟨rfl, rfl, rfl, Nat.le_refl _⟩
    · obtain ⟨c, hc⟩ : ∃ c, l[pos + k]? = some c := ⟨_, List.getElem?_eq_getElem (by omega)⟩
      have hb : Hid (byteQ l ⟨pos + k, parts, false, false⟩ = (c, ⟨pos + k + 1, parts, false, false⟩)) := by
        show _ = _; unfold byteQ; rw [if_neg (by simp [Qs.ok]), if_pos (by simp; omega)]; simp [List.getD, hc]
      have hdr : l.drop (pos + k) = c :: l.drop (pos + k + 1) := by
        rw [List.drop_eq_getElem_cons (by omega)]
        rw [(List.getElem?_eq_some_iff.1 hc).2]
      have HN2 : Hid (numD lim 0 0 (l.drop pos) = numD lim k x (c :: l.drop (pos + k + 1))) := by rw [← hdr]; exact HN.out
      have hc256 : c.toNat < 256 := c.toNat_lt
      clear hc hdr HN
      go_wp2_with fail
      refine C1.out.mono ?_
      rintro e w' ⟨rfl, rfl⟩
      go_wp2_with fail
      refine (CBI.out _).mono ?_
      rintro e w' ⟨rfl, rfl⟩
      go_wp2_with fail
      refine CB.out.mono ?_
      rintro e W1 ⟨rfl, g1, g2⟩
      rw [hb.out] at g1 ⊢
      obtain ⟨c0, c1, c2, c3, c4, hlt⟩ := g1.cells
      have hf4 := g1.free 4
      have G1 := Lib.hid g1
      have G2 := Lib.hid (HB.out.trans g2)
      have C2 : Hid (Calls Tryd.prog 48 #[.pointer (some ⟨Br, 0, none⟩)] W1 fun e w' => e = .returned (.bool true) ∧ w' = W1) := CQ.out W1 _ g1
      clear g1 g2 CB c0 c1 c2 c3
      obtain ⟨C, hC⟩ : ∃ C, c.toNat = C := ⟨_, rfl⟩
      have HC := Lib.hid hC
      rw [hC] at hc256
      simp only [hC]
      clear hC
      obtain ⟨D, hD⟩ : ∃ D, C % 128 = D := ⟨_, rfl⟩
      have hpos : pos + k + 1 ≤ l.length := by omega
      have HBAD : Hid (∀ W2, numD lim 0 0 (l.drop pos) = .bad → W2 = W1.setCell ⟨Br, 4, none⟩ (.bool true) → PP (.returned (.int .u64 0)) W2) := fun W2 h1 h2 => by
        subst h2
        rw [← HPP.out]
        refine ⟨0, _, rfl, G1.out.setBad true, G2.out.set ⟨Br, 4, none⟩ _ (.inl rfl), rfl, ?_⟩
        rw [h1]
        exact ⟨rfl, rfl, hpos⟩
      have HDONE : Hid (∀ Y : Nat, numD lim 0 0 (l.drop pos) = .done Y (k + 1) → PP (.returned (.int .u64 (Y : Nat))) W1) := fun Y h1 => by
        rw [← HPP.out]
        refine ⟨Y, _, rfl, G1.out, G2.out, rfl, ?_⟩
        rw [h1]
        exact ⟨rfl, by simp; omega, rfl⟩
      go_wp2_with fail
      refine C2.out.mono ?_
      rintro e w' ⟨rfl, rfl⟩
      go_upto_region 12 with fail
      have hDI : (C : Int) % 128 = (D : Int) := by omega
      obtain ⟨q, hq⟩ : ∃ q, lim / 2 ^ K = q := ⟨_, rfl⟩
      have hqI : (lim : Int) / 2 ^ K = (q : Int) := by subst hq; simp
      obtain ⟨P, hP⟩ : ∃ P, D * 2 ^ K = P := ⟨_, rfl⟩
      have HQ := Lib.hid hq
      have HP := Lib.hid hP
      have HD := Lib.hid hD
      have hD8 : D < 128 := by omega
      clear hq hP hD
      by_cases h0 : 0 < K ∧ C = 0
      · obtain ⟨hK0, rfl⟩ := h0
        have HQ : Hid (numD lim 0 0 (l.drop pos) = .bad) := by show _ = _; rw [HN2.out]; exact numD_szero lim k x K c _ hK.out HC.out hK0
        have hK0I : (0 : Int) < (K : Int) := by omega
        go_wp2_with fail
        exact HBAD.out _ HQ.out rfl
      · have hc0 : K = 0 ∨ (0 < K ∧ 0 < C) := by omega
        by_cases hg : q < D
        · have hgI : (q : Int) < (D : Int) := by omega
          have HQ2 : Hid (numD lim 0 0 (l.drop pos) = .bad) := by
            show _ = _
            rw [HN2.out]
            refine numD_sbad lim k x K C D c _ hK.out HC.out HD.out ?_
            have h1 := HQ.out
            have := (Nat.div_lt_iff_lt_mul (Nat.two_pow_pos K)).1 (show lim / 2 ^ K < D by omega)
            omega
          rcases hc0 with hK00 | ⟨hK0, hC0⟩
          · have hK0I : ¬ (0 : Int) < (K : Int) := by omega
            clear hK00
            go_wp2_with fail
            exact HBAD.out _ HQ2.out rfl
          · have hK0I : (0 : Int) < (K : Int) := by omega
            have hC0I : ((C : Int) == 0) = false := by simp; omega
            go_wp2_with fail
            exact HBAD.out _ HQ2.out rfl
        · have hgI : ¬ (q : Int) < (D : Int) := by omega
          have hPl : P ≤ lim := by
            have h1 := HQ.out
            have := (Nat.le_div_iff_mul_le (Nat.two_pow_pos K)).1 (show D ≤ lim / 2 ^ K by omega)
            rw [HP.out] at this
            exact this
          obtain ⟨Y, hY⟩ : ∃ Y, x + P = Y := ⟨_, rfl⟩
          have hpow : 2 ^ K * 2 ^ (64 - K) = 18446744073709551616 := by rw [← Nat.pow_add, show K + (64 - K) = 64 by omega]
          have hYb : Y < 18446744073709551616 := by
            have h1 := HX.out
            rw [← hK.out] at h1
            have h2 := HP.out
            have h3 := HLIM.out
            have h4 : D < 2 ^ (64 - K) := by
              refine Nat.lt_of_not_le fun h => ?_
              have := Nat.mul_le_mul_right (2 ^ K) h
              rw [Nat.mul_comm (2 ^ (64 - K))] at this
              omega
            have h5 := Nat.mul_le_mul_right (2 ^ K) (show D + 1 ≤ 2 ^ (64 - K) from h4)
            rw [Nat.mul_comm (2 ^ (64 - K)), Nat.add_mul] at h5
            omega
          have e3 : IntKind.u64.wrap ((D : Int) * 2 ^ K) = (P : Int) := by
            have h3 := HLIM.out
            rw [wrap64u, show (D : Int) * 2 ^ K = ((D * 2 ^ K : Nat) : Int) by simp, HP.out]; omega
          have e4 : IntKind.u64.wrap ((x : Int) + (P : Int)) = (Y : Int) := by rw [wrap64u]; omega
          have HY : Hid (x + D * 2 ^ K = Y) := by show _ = _; rw [HP.out]; exact hY
          have HYB := Lib.hid hYb
          clear hY hpow hYb hPl hg
          by_cases hyl : Y ≤ lim
          · have hyI : ¬ (lim : Int) < (Y : Int) := by omega
            by_cases h128 : C < 128
            · have h128I : (C : Int) < 128 := by omega
              have HQ2 : Hid (numD lim 0 0 (l.drop pos) = .done Y (k + 1)) := by
                show _ = _
                rw [HN2.out]
                exact numD_sdone lim k x K C D Y c _ hK.out hk HC.out HD.out h128 (by omega) HY.out hyl HLIM.out
              rcases hc0 with hK00 | ⟨hK0, hC0⟩
              · have hK0I : ¬ (0 : Int) < (K : Int) := by omega
                clear hK00
                go_wp2_with fail
                exact HDONE.out Y HQ2.out
              · have hK0I : (0 : Int) < (K : Int) := by omega
                have hC0I : ((C : Int) == 0) = false := by simp; omega
                go_wp2_with fail
                exact HDONE.out Y HQ2.out
            · have h128I : ¬ (C : Int) < 128 := by omega
              have hC0I : ((C : Int) == 0) = false := by simp; omega
              obtain ⟨S, hS⟩ : ∃ S, K + 7 = S := ⟨_, rfl⟩
              have hSI : (K : Int) + 7 = (S : Int) := by omega
              have hS70 : S ≤ 70 := by omega
              have HS := Lib.hid hS
              have hK0x : (0 : Int) < (K : Int) ∨ ¬ (0 : Int) < (K : Int) := Decidable.em _
              clear hS hc0 h0
              by_cases hk9 : k = 9
              · subst hk9
                have HQ2 : Hid (numD lim 0 0 (l.drop pos) = .bad) := by show _ = _; rw [HN2.out]; exact numD_snine lim x C c _ HC.out h128
                have h64 : (64 : Int) ≤ (S : Int) := by have := hK.out; omega
                have e5 : IntKind.u64.wrap ((2 : Int) ^ S) = 0 := by
                  have : S = 70 := by have := hK.out; omega
                  subst this
                  rfl
                have e6 : IntKind.u64.wrap (Y : Int) = (Y : Int) := by rw [wrap64u]; have := HYB.out; omega
                have hK0I : (0 : Int) < (K : Int) := by have := hK.out; omega
                clear hK0x
                go_wp2_with fail
                all_goals exact HBAD.out _ HQ2.out rfl
              · have hk8 : k ≤ 8 := by omega
                obtain ⟨T, hT⟩ : ∃ T, 2 ^ S = T := ⟨_, rfl⟩
                obtain ⟨Z, hZ⟩ : ∃ Z, Y + T = Z := ⟨_, rfl⟩
                have hT63 : T ≤ 9223372036854775808 := by
                  rw [← hT]
                  have : 2 ^ S ≤ 2 ^ 63 := Nat.pow_le_pow_right (by decide) (by have := hK.out; omega)
                  rw [show (2 : Nat) ^ 63 = 9223372036854775808 by decide] at this
                  exact this
                have hYT : Y < T := by
                  have h1 := HX.out
                  rw [← hK.out] at h1
                  have h2 := HY.out
                  have h3 : D * 2 ^ K + 2 ^ K ≤ 128 * 2 ^ K := by rw [← Nat.succ_mul]; exact Nat.mul_le_mul_right _ hD8
                  have h4 : T = 128 * 2 ^ K := by rw [← hT, ← HS.out, Nat.pow_add]; omega
                  omega
                have e5 : IntKind.u64.wrap ((2 : Int) ^ S) = (T : Int) := by
                  rw [wrap64u, show (2 : Int) ^ S = ((2 ^ S : Nat) : Int) by simp, hT]; omega
                have e6 : IntKind.u64.wrap ((Y : Int) + (T : Int)) = (Z : Int) := by rw [wrap64u]; omega
                have HN3 : Hid (numD lim 0 0 (l.drop pos) = if lim < Z then .bad else numD lim (k + 1) Y (l.drop (pos + (k + 1)))) := by
                  show _ = _
                  rw [HN2.out]
                  exact numD_smore lim k x K C D Y Z c _ hK.out hk8 HC.out HD.out h128 HY.out (by rw [HS.out, hT]; exact hZ)
                have HT := Lib.hid hT
                have HZ := Lib.hid hZ
                have HYT := Lib.hid hYT
                have hS63 : ¬ (64 : Int) ≤ (S : Int) := by have h1 := HS.out; have h2 := hK.out; omega
                clear hT hZ hT63 hYT
                by_cases hlz : lim < Z
                · have hlI : (lim : Int) < (Z : Int) := by omega
                  have HQ2 : Hid (numD lim 0 0 (l.drop pos) = .bad) := by show _ = _; rw [HN3.out, if_pos hlz]
                  rcases hK0x with hK0I | hK0I
                  all_goals
                    go_wp2_with fail
                    exact HBAD.out _ HQ2.out rfl
                · have hlI : ¬ (lim : Int) < (Z : Int) := by omega
                  have HQ2 : Hid (numD lim 0 0 (l.drop pos) = numD lim (k + 1) Y (l.drop (pos + (k + 1)))) := by show _ = _; rw [HN3.out, if_neg hlz]
                  obtain ⟨q2, hq2⟩ : ∃ q2, lim / 2 ^ S = q2 := ⟨_, rfl⟩
                  have hq2I : (lim : Int) / 2 ^ S = (q2 : Int) := by subst hq2; simp
                  have hq0 : ((q2 : Int) == 0) = false := by
                    have h1 : 0 < q2 := by
                      rw [← hq2]
                      refine Nat.div_pos ?_ (Nat.two_pow_pos _)
                      rw [HT.out]
                      have := HZ.out
                      omega
                    simp; omega
                  have HSK : Hid (S = 7 * (k + 1)) := by show _ = _; have h1 := HS.out; have h2 := hK.out; omega
                  clear hq2 hlz
                  rcases hK0x with hK0I | hK0I
                  all_goals
                    go_wp2_with fail
                    go_roundw
                    case rel => exact ⟨k + 1, Y, S, by go_num, rfl, HSK, by omega, by omega, Lib.hid (by rw [← HSK.out, HT.out]; exact HYT.out), Lib.hid (fun _ => by rw [← HSK.out, HT.out, HZ.out]; omega), HQ2, G1, G2⟩
                    case measure => simp [intOf]; omega
          · have hyI : (lim : Int) < (Y : Int) := by omega
            have HQ2 : Hid (numD lim 0 0 (l.drop pos) = .bad) := by
              show _ = _
              rw [HN2.out]
              refine numD_sbad lim k x K C D c _ hK.out HC.out HD.out ?_
              rw [HY.out]; omega
            rcases hc0 with hK00 | ⟨hK0, hC0⟩
            · have hK0I : ¬ (0 : Int) < (K : Int) := by omega
              clear hK00
              go_wp2_with fail
              exact HBAD.out _ HQ2.out rfl
            · have hK0I : (0 : Int) < (K : Int) := by omega
              have hC0I : ((C : Int) == 0) = false := by simp; omega
              go_wp2_with fail
              exact HBAD.out _ HQ2.out rfl

/-- how a reading leaves the reference's reader -/
def QAfter {α : Type} (l : List UInt8) (s : Qs) (r : Rd α) (d x : α) (s' : Qs) : Prop :=
  s'.parts = s.parts ∧ s'.pos ≤ l.length ∧
    ((s.ok = false ∧ x = d ∧ s'.short = s.short ∧ s'.bad = s.bad) ∨ (s.ok = true ∧ match r with
      | .done y n => x = y ∧ s'.pos = s.pos + n ∧ s'.ok = true
      | .short => x = d ∧ s'.short = true ∧ s'.bad = false
      | .bad => x = d ∧ s'.bad = true))
def QRPost {α : Type} (l : List UInt8) (Br : Nat) (v : Value) (s : Qs) (q : Rd α) (d : α) (f : α → Value) (W : World) (r : Ending) (W' : World) : Prop :=
  ∃ (x : α) (s' : Qs), r = .returned (f x) ∧ QB W' Br v s' ∧ But Br W W' ∧ QAfter l s q d x s'

set_option maxRecDepth 100000 in
set_option maxHeartbeats 1000000 in
theorem qnumber_all (l : List UInt8) (Br : Nat) (v : Value) (s : Qs) (lim : Nat) (W : World) (hr : QB W Br v s) (hv : Bs W v l) (hl : l.length ≤ 100000000) (hp : s.pos ≤ l.length) (hlim : lim < 18446744073709551616) :
    Calls Tryd.prog 49 #[.pointer (some ⟨Br, 0, none⟩), .int .u64 (lim : Nat)] W (QRPost l Br v s (numD lim 0 0 (l.drop s.pos)) 0 (fun x => .int .u64 (x : Nat)) W) := by
  cases he : s.ok with
  | true =>
    refine (qnumber_any l Br v s lim W hr hv hl hp he hlim).mono ?_
    rintro e W' ⟨x, s', rfl, h1, h2, h3, h5⟩
    refine ⟨x, s', rfl, h1, h2, h3, ?_, .inr ⟨he, ?_⟩⟩
    · split at h5
      · rename_i y n heq
        obtain ⟨-, h6, -⟩ := h5
        have := (numD_len _ _ _ _ _ _ heq).2.1
        rw [List.length_drop] at this
        omega
      · exact h5.2.2.2
      · exact h5.2.2
    · split at h5 <;> simp_all
  | false =>
    obtain ⟨PP, hPP⟩ : ∃ PP, QRPost l Br v s (numD lim 0 0 (l.drop s.pos)) 0 (fun x : Nat => .int .u64 (x : Nat)) W = PP := ⟨_, rfl⟩
    rw [hPP]
    have HPP := Lib.hid hPP
    have HR := Lib.hid hr
    have HE : Hid (s.ok = false) := he
    have C1 : Hid (Calls Tryd.prog 48 #[.pointer (some ⟨Br, 0, none⟩)] W fun e w' => e = .returned (.bool false) ∧ w' = W) := (qok_any Br _ s W hr).mono fun _ _ ⟨h1, h2⟩ => ⟨by rw [h1, he], h2.symm⟩
    clear hPP hr hv he
    go_enter Tryd.func49, Tryd.ntmps49
    go_wp2_with fail
    go_loopw [6] (fun s6 wr => s6 = .int .i64 0 ∧ wr = W) (fun _ _ => 0)
    case atStart => exact ⟨rfl, rfl⟩
    obtain ⟨rfl, rfl⟩ := hrel
    go_wp2_with fail
    refine C1.out.mono ?_
    rintro e w' ⟨rfl, rfl⟩
    go_wp2_with fail
    rw [← HPP.out]
    exact ⟨0, s, rfl, HR.out, But.refl _ _, rfl, hp, .inl ⟨HE.out, rfl, rfl, rfl⟩⟩
theorem QAfter.sig {l : List UInt8} {s s' : Qs} {x : Nat} (h : QAfter l s (numD top64 0 0 (l.drop s.pos)) 0 x s') : QAfter l s (sigD (l.drop s.pos)) 0 (unzig x) s' ∧ x < 18446744073709551616 := by
  obtain ⟨h1, h3, h4⟩ := h
  unfold sigD
  cases hn : numD top64 0 0 (l.drop s.pos) with
  | done y n =>
    rw [hn] at h4
    have hy := (numD_len _ _ _ _ _ _ hn).2.2
    unfold top64 at hy
    rcases h4 with ⟨a, b, c⟩ | ⟨a, b, c⟩
    · exact ⟨⟨h1, h3, .inl ⟨a, by rw [b]; rfl, c⟩⟩, by omega⟩
    · exact ⟨⟨h1, h3, .inr ⟨a, by rw [b], c⟩⟩, by omega⟩
  | short =>
    rw [hn] at h4
    rcases h4 with ⟨a, b, c⟩ | ⟨a, b, c⟩
    · exact ⟨⟨h1, h3, .inl ⟨a, by rw [b]; rfl, c⟩⟩, by omega⟩
    · exact ⟨⟨h1, h3, .inr ⟨a, by rw [b]; rfl, c⟩⟩, by omega⟩
  | bad =>
    rw [hn] at h4
    rcases h4 with ⟨a, b, c⟩ | ⟨a, b, c⟩
    · exact ⟨⟨h1, h3, .inl ⟨a, by rw [b]; rfl, c⟩⟩, by omega⟩
    · exact ⟨⟨h1, h3, .inr ⟨a, by rw [b]; rfl, c⟩⟩, by omega⟩
set_option maxHeartbeats 1000000 in
theorem qsigned_all (l : List UInt8) (Br : Nat) (v : Value) (s : Qs) (W : World) (hr : QB W Br v s) (hv : Bs W v l) (hl : l.length ≤ 100000000) (hp : s.pos ≤ l.length) :
    Calls Tryd.prog 64 #[.pointer (some ⟨Br, 0, none⟩)] W (QRPost l Br v s (sigD (l.drop s.pos)) 0 (fun x => .int .i64 x) W) := by
  obtain ⟨PP, hPP⟩ : ∃ PP, QRPost l Br v s (sigD (l.drop s.pos)) 0 (fun x => .int .i64 x) W = PP := ⟨_, rfl⟩
  rw [hPP]
  have HPP := Lib.hid hPP
  have CN := Lib.hid (qnumber_all l Br v s top64 W hr hv hl hp (by unfold top64; omega))
  clear hPP hr hv
  go_enter Tryd.func64, Tryd.ntmps64
  go_wp2_with fail
  refine CN.out.mono ?_
  rintro e W1 ⟨x, s', rfl, h1, h2, h3⟩
  have H1 := Lib.hid h1
  have H2 := Lib.hid h2
  have H3 := Lib.hid h3
  clear h1 h2 h3 CN
  obtain ⟨H4, hx⟩ := H3.out.sig
  obtain ⟨u, hu⟩ : ∃ u, x / 2 = u := ⟨_, rfl⟩
  have e0 : IntKind.u64.wrap ((x : Int) / 2) = (u : Int) := by rw [wrap64u]; omega
  have e1 : wrap64 (u : Int) = (u : Int) := by unfold wrap64; omega
  have e2 : wrap64 (-(u : Int)) = -(u : Int) := by unfold wrap64; omega
  have e3 : wrap64 (-(u : Int) - 1) = -(u : Int) - 1 := by unfold wrap64; omega
  have HU : Hid (unzig x = if x % 2 = 1 then -(u : Int) - 1 else (u : Int)) := by show _ = _; rw [← hu]; rfl
  have H4 := Lib.hid H4
  clear hx hu
  by_cases h2 : x % 2 = 1
  · have h2I : (x : Int) % 2 = 1 := by omega
    have HU2 : Hid (unzig x = -(u : Int) - 1) := by show _ = _; rw [HU.out, if_pos h2]
    clear h2
    go_wp2_with fail
    rw [← HPP.out]
    refine ⟨unzig x, s', ?_, H1.out, H2.out, H4.out⟩
    show Ending.returned (.int .i64 _) = _
    rw [HU2.out]
    simp only [e3]
  · have h2I : ((x : Int) % 2 == 1) = false := by simp; omega
    have HU2 : Hid (unzig x = (u : Int)) := by show _ = _; rw [HU.out, if_neg h2]
    clear h2
    go_wp2_with fail
    rw [← HPP.out]
    refine ⟨unzig x, s', ?_, H1.out, H2.out, H4.out⟩
    show Ending.returned (.int .i64 _) = _
    rw [HU2.out]
    simp only [e1]

set_option maxRecDepth 100000 in
set_option maxHeartbeats 2000000 in
theorem qtext_all (l : List UInt8) (Br : Nat) (v : Value) (s : Qs) (lim : Nat) (W : World) (hr : QB W Br v s) (hv : Bs W v l) (hl : l.length ≤ 100000000) (hp : s.pos ≤ l.length) (hlim : lim ≤ 1000000) :
    Calls Tryd.prog 65 #[.pointer (some ⟨Br, 0, none⟩), .int .u64 (lim : Nat)] W (QRPost l Br v s (textD lim (l.drop s.pos)) (⟨#[]⟩ : ByteArray) (fun x => .string x) W) := by
  obtain ⟨PP, hPP⟩ : ∃ PP, QRPost l Br v s (textD lim (l.drop s.pos)) (⟨#[]⟩ : ByteArray) (fun x => .string x) W = PP := ⟨_, rfl⟩
  rw [hPP]
  have HPP := Lib.hid hPP
  have CN := Lib.hid (qnumber_all l Br v s lim W hr hv hl hp (by omega))
  have CQ : Hid (∀ W' s', QB W' Br v s' → Calls Tryd.prog 48 #[.pointer (some ⟨Br, 0, none⟩)] W' fun e w' => e = .returned (.bool s'.ok) ∧ w' = W') := fun W' s' h => (qok_any Br _ s' W' h).mono fun _ _ ⟨h1, h2⟩ => ⟨h1, h2.symm⟩
  have HR := Lib.hid hr
  have HV := Lib.hid hv
  obtain ⟨p, m, cap, rfl⟩ := hv.slice
  clear hPP hr hv
  go_enter Tryd.func65, Tryd.ntmps65
  go_wp2_with fail
  refine CN.out.mono ?_
  rintro e W1 ⟨x, s', rfl, h1, h2, h3⟩
  have H1 := Lib.hid h1
  have H2 := Lib.hid h2
  obtain ⟨a1, a3, a4⟩ := h3
  have HA1 := Lib.hid a1
  obtain ⟨c0, c1, c2, c3, c4, hlt⟩ := h1.cells
  clear h1 h2 CN a1 c2 c4
  have C1 : Hid (Calls Tryd.prog 48 #[.pointer (some ⟨Br, 0, none⟩)] W1 fun e w' => e = .returned (.bool s'.ok) ∧ w' = W1) := CQ.out W1 _ H1.out
  cases hok : s'.ok with
  | false =>
    have HF : Hid (QAfter l s (textD lim (l.drop s.pos)) (⟨#[]⟩ : ByteArray) ⟨#[]⟩ s') := by
      refine ⟨HA1.out, a3, ?_⟩
      rcases a4 with ⟨q1, q2, q3, q4⟩ | ⟨q1, q2⟩
      · exact .inl ⟨q1, rfl, q3, q4⟩
      · refine .inr ⟨q1, ?_⟩
        unfold textD
        cases hn : numD lim 0 0 (l.drop s.pos) with
        | short => rw [hn] at q2; exact ⟨rfl, q2.2⟩
        | bad => rw [hn] at q2; exact ⟨rfl, q2.2⟩
        | done y n => rw [hn] at q2; obtain ⟨-, -, q3⟩ := q2; rw [hok] at q3; cases q3
    rw [hok] at C1
    clear hok a4
    go_wp2_with fail
    refine C1.out.mono ?_
    rintro e w' ⟨rfl, rfl⟩
    go_wp2_with fail
    rw [← HPP.out]
    exact ⟨_, s', rfl, H1.out, H2.out, HF.out⟩
  | true =>
    have hn : ∃ n, numD lim 0 0 (l.drop s.pos) = .done x n ∧ s'.pos = s.pos + n ∧ s.ok = true := by
      have hok2 : s'.short = false ∧ s'.bad = false := by unfold Qs.ok at hok; simpa using hok
      rcases a4 with ⟨q1, q2, q3, q4⟩ | ⟨q1, q2⟩
      · unfold Qs.ok at q1; rw [← q3, ← q4, hok2.1, hok2.2] at q1; cases q1
      · cases hn : numD lim 0 0 (l.drop s.pos) with
        | short => rw [hn] at q2; rw [hok2.1] at q2; cases q2.2.1
        | bad => rw [hn] at q2; rw [hok2.2] at q2; cases q2.2
        | done y n => rw [hn] at q2; obtain ⟨rfl, q3, -⟩ := q2; exact ⟨n, rfl, q3, q1⟩
    obtain ⟨n, hn, q3, q1⟩ := hn
    have hxl := (numD_len _ _ _ _ _ _ hn).2.2
    have HS1 : Hid (Bs W1 (.slice p m cap) l) := HV.out.butQ HR.out ⟨_, _, _, rfl⟩ H2.out
    have hm : m = l.length := (HS1.out.len).1
    subst hm
    have hxw : IntKind.i64.wrap (x : Int) = (x : Int) := i64_wrap_nat (by omega)
    have HN := Lib.hid hn
    have Q1 := Lib.hid q1
    have Q3 := Lib.hid q3
    have Q4 := Lib.hid hok
    rw [hok] at C1
    clear q1 q3 hn a4 hok
    have hf := H1.out.free 1
    have hf3 := H1.out.free 3
    generalize hP : s'.pos = P at *
    have HPe := Lib.hid hP
    clear hP
    by_cases hlt2 : l.length < P + x
    · have hRI : (l.length : Int) - (P : Int) < (x : Int) := by omega
      have HF : Hid (∀ s'', s''.parts = s'.parts → s''.pos ≤ l.length → s''.short = true → s''.bad = false → QAfter l s (textD lim (l.drop s.pos)) (⟨#[]⟩ : ByteArray) ⟨#[]⟩ s'') := fun s'' u1 u3 u4 u5 => ⟨u1.trans HA1.out, u3, .inr ⟨Q1.out, by
        unfold textD; rw [HN.out]; simp only [Rd.bind_done]; rw [if_pos (by rw [List.length_drop]; have := Q3.out; have := HPe.out; omega)]; first | exact ⟨rfl, u4, u5⟩ | exact ⟨trivial, u4, u5⟩⟩⟩
      have HBF : Hid (s'.bad = false) := by have := Q4.out; unfold Qs.ok at this; simp at this; exact this.2
      go_wp2_with fail
      refine C1.out.mono ?_
      rintro e w' ⟨rfl, rfl⟩
      go_wp2_with fail
      go_quiet (fail)
      go_wp2_with fail
      rw [← HPP.out]
      exact ⟨_, _, rfl, (H1.out.drewN _).setShort true, (H2.out.drewN _).set ⟨Br, 3, none⟩ _ (.inl rfl), HF.out _ rfl (by show s'.pos ≤ _; have := HPe.out; omega) rfl HBF.out⟩
    · have hRI : ¬ (l.length : Int) - (P : Int) < (x : Int) := by omega
      obtain ⟨q, cq, hsl, hbs⟩ := HS1.out.window (i := P) (j := P + x) (by omega) (by omega)
      rw [Nat.add_sub_cancel_left] at hsl hbs
      simp only [Int.natCast_add] at hsl
      have htx : ∀ a b, (convert 26 9 (.slice q x cq)).run Tryd.prog (((W1.drewN a).setCell ⟨Br, 1, none⟩ (.int .i64 ((P : Int) + (x : Int)))).drewN b) = .ok (.string (ba ((l.drop P).take x))) (((W1.drewN a).setCell ⟨Br, 1, none⟩ (.int .i64 ((P : Int) + (x : Int)))).drewN b) := fun a b => ((hbs.butQ H1.out ⟨_, _, _, rfl⟩ (((But.refl Br W1).drewN a).set ⟨Br, 1, none⟩ _ (.inl rfl))).drewN b).text
      have hadd : IntKind.i64.wrap ((P : Int) + (x : Int)) = (P : Int) + (x : Int) := IntWalk.i64_in _ (by omega)
      have hPw : IntKind.i64.wrap (P : Int) = (P : Int) := i64_wrap_nat (by omega)
      have HF : Hid (QAfter l s (textD lim (l.drop s.pos)) (⟨#[]⟩ : ByteArray) (ba ((l.drop P).take x)) { s' with pos := P + x }) := ⟨HA1.out, by show P + x ≤ _; omega, .inr ⟨Q1.out, by
        have h3 := Q3.out
        have h4 := HPe.out
        unfold textD; rw [HN.out]; simp only [Rd.bind_done]; rw [if_neg (by rw [List.length_drop]; omega)]
        refine ⟨?_, ?_, Q4.out⟩
        · unfold ba; rw [List.drop_drop, ← h3]
        · show P + x = _; omega⟩⟩
      clear hbs
      go_wp2_with fail
      refine C1.out.mono ?_
      rintro e w' ⟨rfl, rfl⟩
      go_wp2_with fail
      go_quiet (fail)
      go_wp2_with fail
      go_quiet (fail)
      go_wp2_with fail
      rw [← HPP.out]
      refine ⟨_, _, rfl, ((H1.out.drewN _).setPos (P + x) (by simp)).drewN _, (((H2.out.drewN _).set ⟨Br, 1, none⟩ _ (.inl rfl))).drewN _, HF.out⟩

def roomQ (deep : Nat) (p : Int) : Nat := if 16 ≤ deep ∨ 4096 ≤ p then 0 else (4096 - p).toNat
theorem roomQ_of {deep parts : Nat} (hd : deep ≤ 16) (hp : parts ≤ 4096) : roomQ deep (4096 - (parts : Int)) = roomOf deep parts := by
  unfold roomQ roomOf
  by_cases h : deep = 16
  · rw [if_pos (by omega), if_pos h]
  · rw [if_neg h]
    by_cases h2 : parts = 0
    · rw [if_pos (by omega), h2]
    · rw [if_neg (by omega)]; omega
theorem qroom_any (Br deep : Nat) (v : Value) (s : Qs) (W : World) (hr : QB W Br v s) (hp : 0 ≤ s.parts ∧ s.parts ≤ 100000) (hd : deep ≤ 100) :
    Calls Tryd.prog 67 #[.pointer (some ⟨Br, 0, none⟩), .int .i64 (deep : Nat)] W fun e w' => e = .returned (.int .u64 (roomQ deep s.parts : Nat)) ∧ w' = W := by
  obtain ⟨PP, hPP⟩ : ∃ PP, (fun (e : Ending) (w' : World) => e = .returned (.int .u64 (roomQ deep s.parts : Nat)) ∧ w' = W) = PP := ⟨_, rfl⟩
  rw [hPP]
  have HPP := Lib.hid hPP
  obtain ⟨pos, parts, sh, bd⟩ := s
  obtain ⟨c0, c1, c2, c3, c4, hlt⟩ := hr.cells
  simp only at hp c0 c1 c2 c3 c4
  obtain ⟨hp0, hp1⟩ := hp
  obtain ⟨R, hR⟩ : ∃ R, roomQ deep parts = R := ⟨_, rfl⟩
  have HR := Lib.hid hR
  unfold roomQ at hR
  clear hPP hr
  by_cases h1 : 16 ≤ deep
  · have h1I : (16 : Int) ≤ (deep : Int) := by omega
    rw [if_pos (.inl h1)] at hR
    have HRZ : Hid (R = 0) := hR.symm
    clear hR
    go_enter Tryd.func67, Tryd.ntmps67
    go_wp2_with fail
    rw [← HPP.out]
    exact ⟨by rw [HR.out, HRZ.out]; rfl, rfl⟩
  · have h1I : ¬ (16 : Int) ≤ (deep : Int) := by omega
    by_cases h2 : 4096 ≤ parts
    · rw [if_pos (.inr h2)] at hR
      have HRZ : Hid (R = 0) := hR.symm
      clear hR
      go_enter Tryd.func67, Tryd.ntmps67
      go_wp2_with fail
      rw [← HPP.out]
      exact ⟨by rw [HR.out, HRZ.out]; rfl, rfl⟩
    · rw [if_neg (by omega)] at hR
      have hw : IntKind.i64.wrap (4096 - parts) = (R : Int) := by rw [IntWalk.i64_in _ (by omega)]; omega
      have hw2 : IntKind.u64.wrap (R : Int) = (R : Int) := by rw [wrap64u]; omega
      have hw3 : IntKind.u64.wrap (4096 - parts) = (R : Int) := by rw [wrap64u]; omega
      clear hR
      go_enter Tryd.func67, Tryd.ntmps67
      go_wp2_with fail
      rw [← HPP.out]
      exact ⟨by rw [HR.out], rfl⟩

/-- how a value's reading ends in the reference -/
def QAt (q : Rd (Dv × Nat)) (P : Nat → Prop) (W : World) (f : Nat) (a : List Value) (s0 s3 : Qs) : Prop :=
  match q with
  | .done t u => s3.pos = s0.pos + u ∧ s3.ok = true ∧ s3.parts = 4096 - (t.2 : Nat) ∧ DvIn P W f a t.1
  | .short => s3.short = true ∧ s3.bad = false
  | .bad => s3.bad = true
def QVPost (l : List UInt8) (Br : Nat) (v : Value) (s : Qs) (f deep parts : Nat) (W : World) (r : Ending) (W' : World) : Prop :=
  ∃ (kd di db : Int) (ds : ByteArray) (p : Option Addr) (n c : Nat) (s' : Qs), r = .returned (.agg #[.int .i64 kd, .int .i64 di, .int .u64 db, .string ds, .slice p n c]) ∧ QB W' Br v s' ∧ But Br W W' ∧ s'.pos ≤ l.length ∧
    QAt (valD f deep parts (l.drop s.pos)) (fun b => W.heap.size ≤ b ∧ b < W'.heap.size) W' f [.int .i64 kd, .int .i64 di, .int .u64 db, .string ds, .slice p n c] s s'
def QVC (l : List UInt8) (Br : Nat) (v : Value) (f : Nat) : Prop := ∀ (deep parts : Nat) (s : Qs) (W : World), QB W Br v s → Bs W v l → s.ok = true → s.pos ≤ l.length → s.parts = 4096 - (parts : Nat) → parts ≤ 4096 → deep + f = 17 → 0 < f →
  Calls Tryd.prog 37 #[.pointer (some ⟨Br, 0, none⟩), .int .i64 (deep : Nat)] W (QVPost l Br v s f deep parts W)
/-- where a list's reading stands -/
def PartQ (l : List UInt8) (f deep n p0 pos0 : Nat) (j : Nat) (ts : List Dv) (s : Qs) : Prop :=
  s.pos ≤ l.length ∧
    ((s.ok = true ∧ ∃ (p u : Nat), s.parts = 4096 - (p : Nat) ∧ p ≤ 4096 ∧ s.pos = pos0 + u ∧ ts.length = j ∧ listD (valD f (deep + 1)) n p0 (l.drop pos0) = (listD (valD f (deep + 1)) (n - j) p (l.drop s.pos)).bind fun x u2 => .done (ts ++ x.1, x.2) (u + u2)) ∨
     ((s.short = true ∧ s.bad = false) ∧ listD (valD f (deep + 1)) n p0 (l.drop pos0) = .short) ∨ (s.bad = true ∧ listD (valD f (deep + 1)) n p0 (l.drop pos0) = .bad))
theorem Qs.not_ok {s : Qs} (h : s.short = true ∨ s.bad = true) : s.ok = false := by
  unfold Qs.ok
  rcases h with h | h <;> rw [h] <;> simp
theorem partq_next {l : List UInt8} {f deep n p0 pos0 j p u : Nat} {ts : List Dv} {s2 s3 : Qs} {P : Nat → Prop} {W : World} {a : List Value} (hdf : deep + f = 16) (hp : p ≤ 4096) (hj : j < n) (hts : ts.length = j) (h3 : s2.pos = pos0 + u)
    (hl : listD (valD f (deep + 1)) n p0 (l.drop pos0) = (listD (valD f (deep + 1)) (n - j) p (l.drop s2.pos)).bind fun x u2 => .done (ts ++ x.1, x.2) (u + u2)) (hpos : s3.pos ≤ l.length) (hr : QAt (valD f (deep + 1) p (l.drop s2.pos)) P W f a s2 s3) :
    (∃ t, s3.ok = true ∧ DvIn P W f a t ∧ PartQ l f deep n p0 pos0 (j + 1) (ts ++ [t]) s3) ∨ (s3.ok = false ∧ ∀ ts', PartQ l f deep n p0 pos0 (j + 1) ts' s3) := by
  have hstep : listD (valD f (deep + 1)) (n - j) p (l.drop s2.pos) = (valD f (deep + 1) p (l.drop s2.pos)).bind fun t u => (listD (valD f (deep + 1)) (n - (j + 1)) t.2 ((l.drop s2.pos).drop u)).bind fun ts u2 => .done (t.1 :: ts.1, ts.2) (u + u2) := by
    rw [show n - j = (n - (j + 1)) + 1 by omega]; rfl
  rw [hstep] at hl
  unfold QAt at hr
  cases hq : valD f (deep + 1) p (l.drop s2.pos) with
  | done t u2 =>
    rw [hq] at hr hl
    obtain ⟨k1, k2, k3, k4⟩ := hr
    have hb := (valD_back f (deep + 1) p _ t.1 t.2 u2 (by omega) hp hq).2.2.2.2
    have htz : 0 < t.1.size := by cases t.1; simp [Dv.size]; omega
    refine .inl ⟨t.1, k2, k4, hpos, .inl ⟨k2, t.2, u + u2, k3, by omega, by omega, by simp [hts], ?_⟩⟩
    rw [hl]
    simp only [Rd.bind_done]
    rw [bind_assoc, List.drop_drop, ← k1]
    cases listD (valD f (deep + 1)) (n - (j + 1)) t.2 (l.drop s3.pos) with
    | done x u3 => simp [Nat.add_assoc]
    | short => rfl
    | bad => rfl
  | short =>
    rw [hq] at hr hl
    obtain ⟨h1, h2⟩ := hr
    exact .inr ⟨Qs.not_ok (.inl h1), fun ts' => ⟨hpos, .inr (.inl ⟨⟨h1, h2⟩, hl⟩)⟩⟩
  | bad =>
    rw [hq] at hr hl
    have hr' : s3.bad = true := hr
    exact .inr ⟨Qs.not_ok (.inr hr'), fun ts' => ⟨hpos, .inr (.inr ⟨hr', hl⟩)⟩⟩
theorem qrow_next {W2 w1 : World} {base f : Nat} {va v' : Value} {ts : List Dv} {t : Dv} {xs : List Value} {a0 a1 a2 a3 a4 : Value} (hW : W2.ownsRow base 25 5 va ts.length xs)
    (hc : ∀ j t, ts[j]? = some t → ∃ c0 c1 c2 c3 c4, xs[j * 5]? = some c0 ∧ xs[j * 5 + 1]? = some c1 ∧ xs[j * 5 + 2]? = some c2 ∧ xs[j * 5 + 3]? = some c3 ∧ xs[j * 5 + 4]? = some c4 ∧ DvIn (RowP base W2 va) W2 f [c0, c1, c2, c3, c4] t)
    (ht : DvIn (RowP base W2 va) W2 f [a0, a1, a2, a3, a4] t) (hown : w1.ownsRow base 25 5 v' (ts.length + 1) (xs ++ [a0, a1, a2, a3, a4])) (hgrow : W2.grownBy w1 va.ownBlock) (hat : v'.ownBlock = va.ownBlock ∨ v'.ownBlock = some W2.heap.size) : LRow w1 base v' f (ts ++ [t]) := by
  rcases hown.2 with ⟨h1, h0⟩ | ⟨g, cap, cur, rfl, hb, hg, k1, k2, k3, k4⟩
  · omega
  · refine LRow.snoc hW hc ht hown rfl hgrow.size (fun b hb hl hn => ⟨hgrow.block b hl hn, fun e => ?_⟩)
    subst e
    rcases hat with h | h
    · exact hn h
    · simp [Value.ownBlock] at h
      omega
/-- what a list's reading leaves -/
def QLPost (l : List UInt8) (Br : Nat) (v : Value) (s : Qs) (f deep n p0 : Nat) (W : World) (r : Ending) (W' : World) : Prop :=
  ∃ (q : Option Addr) (m c : Nat) (ts : List Dv) (s' : Qs), r = .returned (.slice q m c) ∧ QB W' Br v s' ∧ But Br W W' ∧ s'.pos ≤ l.length ∧
    match listD (valD f (deep + 1)) n p0 (l.drop s.pos) with
    | .done x u => s'.pos = s.pos + u ∧ s'.ok = true ∧ s'.parts = 4096 - (x.2 : Nat) ∧ x.1 = ts ∧ LRow W' W.heap.size (.slice q m c) f ts
    | .short => s'.short = true ∧ s'.bad = false
    | .bad => s'.bad = true
theorem qgrow {W Wn w1 : World} {Br : Nat} {v : Value} {s : Qs} {own : Option Nat} (h : But Br W Wn) (hq : QB Wn Br v s) (hB : Br < W.heap.size) (hg : Wn.grownBy w1 own) (ho : ∀ b, own = some b → W.heap.size ≤ b) : But Br W w1 ∧ QB w1 Br v s := by
  have hk1 : ∀ b, b < Wn.heap.size → some b ≠ own → w1.heap[b]? = Wn.heap[b]? := fun b hb hn => hg.block b hb hn
  refine ⟨⟨hg.os.trans h.os, hg.tape.trans h.tape, hg.output.trans h.output, Nat.le_trans h.size hg.size, fun i hi hn => (hk1 i (Nat.lt_of_lt_of_le hi h.size) (fun e => by have := ho _ e.symm; omega)).trans (h.block i hi hn)⟩, ?_⟩
  exact (hk1 Br hq.cells.2.2.2.2.2 (fun e => by have := ho _ e.symm; omega)).trans hq
theorem news5 (W : World) (a0 a1 a2 a3 a4 : Value) (t : TypeId) : ∀ j u, [a0, a1, a2, a3, a4][j]? = some u → (W.alloc (.cells #[a0, a1, a2, a3, a4] t)).cell? ((⟨W.heap.size, 0, none⟩ : Addr).add j) = some u := by
  intro j u hj
  have h5 := (List.getElem?_eq_some_iff.1 hj).1
  simp at h5
  have hc : j = 0 ∨ j = 1 ∨ j = 2 ∨ j = 3 ∨ j = 4 := by omega
  rcases hc with rfl | rfl | rfl | rfl | rfl <;> (simp at hj; subst hj; simp [Addr.add])
/-- a row and its parts, where a value has been read behind it -/
structure QRow (base : Nat) (va : Value) (f : Nat) (ts : List Dv) (xs : List Value) (W : World) : Prop where
  own : W.ownsRow base 25 5 va ts.length xs
  parts : ∀ j t, ts[j]? = some t → ∃ c0 c1 c2 c3 c4, xs[j * 5]? = some c0 ∧ xs[j * 5 + 1]? = some c1 ∧ xs[j * 5 + 2]? = some c2 ∧ xs[j * 5 + 3]? = some c3 ∧ xs[j * 5 + 4]? = some c4 ∧ DvIn (RowP base W va) W f [c0, c1, c2, c3, c4] t
theorem QRow.but {base f Br : Nat} {va : Value} {ts : List Dv} {xs : List Value} {W W2 : World} (h : QRow base va f ts xs W) (g2 : But Br W W2) (hB : Br < base) : QRow base va f ts xs W2 := by
  have hxl : ∀ b, va.ownBlock = some b → base ≤ b ∧ b < W.heap.size := fun b hb => h.own.lt b hb
  refine ⟨h.own.kept g2.grown (.inr (fun e => by have := hxl Br e; omega)), fun j t hj => ?_⟩
  obtain ⟨c0, c1, c2, c3, c4, q0, q1, q2, q3, q4, ht⟩ := h.parts j t hj
  exact ⟨c0, c1, c2, c3, c4, q0, q1, q2, q3, q4, ht.kept fun b hb hl => ⟨g2.block b hl (by have := hb.1; omega), hb.1, Nat.lt_of_lt_of_le hb.2.1 g2.size, hb.2.2⟩⟩
def RowQ (s : Qs) (W : World) (base : Nat) (va : Value) (f : Nat) (ts : List Dv) : Prop := s.ok = true → LRow W base va f ts
set_option maxRecDepth 100000 in
set_option maxHeartbeats 4000000 in
theorem qlist_any (l : List UInt8) (Br f deep n parts : Nat) (v : Value) (s : Qs) (W : World) (IH : QVC l Br v f) (hr : QB W Br v s) (hv : Bs W v l) (he : s.ok = true) (hp : s.pos ≤ l.length) (hpt : s.parts = 4096 - (parts : Nat)) (hp4 : parts ≤ 4096) (hn : n ≤ parts) (hdf : deep + f = 16) (hd : n = 0 ∨ deep < 16) :
    Calls Tryd.prog 66 #[.pointer (some ⟨Br, 0, none⟩), .int .i64 (n : Nat), .int .i64 (deep : Nat)] W (QLPost l Br v s f deep n (parts - n) W) := by
  obtain ⟨PP, hPP⟩ : ∃ PP, QLPost l Br v s f deep n (parts - n) W = PP := ⟨_, rfl⟩
  rw [hPP]
  have HPP := Lib.hid hPP
  have HR := Lib.hid hr
  have HV := Lib.hid hv
  have HVS := Lib.hid hv.slice
  have HE : Hid (s.ok = true) := he
  have HIH := Lib.hid IH
  have CQ : Hid (∀ W' s', QB W' Br v s' → Calls Tryd.prog 48 #[.pointer (some ⟨Br, 0, none⟩)] W' fun e w' => e = .returned (.bool s'.ok) ∧ w' = W') := fun W' s' h => (qok_any Br _ s' W' h).mono fun _ _ ⟨h1, h2⟩ => ⟨h1, h2.symm⟩
  obtain ⟨c0, c1, c2, c3, c4, hlt⟩ := hr.cells
  have hf2 := hr.free 2
  obtain ⟨p0, hp0⟩ : ∃ p0, parts - n = p0 := ⟨_, rfl⟩
  rw [hp0] at HPP
  have hpw : IntKind.i64.wrap (s.parts + (n : Int)) = 4096 - (p0 : Int) := by rw [IntWalk.i64_in _ (by omega)]; omega
  have hpw2 : IntKind.i64.wrap (4096 - (parts : Int) + (n : Int)) = 4096 - (p0 : Int) := by rw [IntWalk.i64_in _ (by omega)]; omega
  have hle : 4096 - (p0 : Int) ≤ 4096 := by omega
  have hnI : ¬ (0 : Int) < (n : Int) ∨ ((0 : Int) < (n : Int) ∧ ¬ (16 : Int) ≤ (deep : Int)) := by omega
  have HQ1 : Hid (QB (W.setCell ⟨Br, 2, none⟩ (.int .i64 (4096 - (p0 : Int)))) Br v { s with parts := 4096 - (p0 : Int) }) := hr.setParts _ rfl
  rw [hpt] at c2
  clear hPP hr hv he IH
  go_enter Tryd.func66, Tryd.ntmps66
  have hlt4 : ¬ (4096 : Int) < 4096 - (p0 : Int) := by omega
  have HS0 : Hid (PartQ l f deep n p0 s.pos 0 [] { s with parts := 4096 - (p0 : Int) }) := ⟨hp, .inl ⟨HE.out, p0, 0, rfl, by omega, rfl, rfl, by rw [Nat.sub_zero]; exact bind_nil.symm⟩⟩
  obtain ⟨i0, hi, hz0, hz1, hz2⟩ := info_parts info_datum
  have HB0 : Hid (But Br W (W.setCell ⟨Br, 2, none⟩ (.int .i64 (4096 - (p0 : Int))))) := (But.refl Br W).set ⟨Br, 2, none⟩ _ (.inl rfl)
  rcases Nat.eq_zero_or_pos n with hnz | hnp
  · have hn0 : ¬ (0 : Int) < (n : Int) := by omega
    have HNZ := Lib.hid hnz
    clear hnI hnz
    go_wp2_with fail
    go_loopw [7, 8] (fun s7 s8 wr => s7 = .slice none 0 0 ∧ s8 = .int .i64 0 ∧ wr = W.setCell ⟨Br, 2, none⟩ (.int .i64 (4096 - (p0 : Int)))) (fun _ _ _ => 0)
    case atStart => exact ⟨rfl, rfl, rfl⟩
    case round =>
      obtain ⟨rfl, rfl, rfl⟩ := hrel
      go_wp2_with fail
      rw [← HPP.out]
      refine ⟨none, 0, 0, [], _, rfl, HQ1.out, HB0.out, hp, ?_⟩
      rw [HNZ.out]
      exact ⟨rfl, HE.out, rfl, rfl, LRow.nil _ _ _⟩
  · have hn0 : (0 : Int) < (n : Int) := by omega
    have hd16 : ¬ (16 : Int) ≤ (deep : Int) := by omega
    clear hnI
    go_wp2_with fail
    go_loopw [7, 8] (fun s7 s8 wr => ∃ (j : Nat) (ts : List Dv) (s1 : Qs) (q : Option Addr) (m c : Nat), s7 = .slice q m c ∧ s8 = .int .i64 (j : Nat) ∧ j ≤ n ∧ Hid (QB wr Br v s1) ∧ Hid (But Br W wr) ∧ Hid (RowQ s1 wr W.heap.size (.slice q m c) f ts) ∧ Hid (PartQ l f deep n p0 s.pos j ts s1)) (fun _ s8 _ => n - (intOf s8).toNat)
    case atStart => exact ⟨0, [], _, none, 0, 0, rfl, rfl, Nat.zero_le _, HQ1.out, HB0.out, fun _ => LRow.nil _ _ _, HS0.out⟩
    case round =>
      obtain ⟨j, ts, s1, q, m, c, rfl, rfl, hj, R1, B1, RW, PS⟩ := hrel
      have C1 : Hid (Calls Tryd.prog 48 #[.pointer (some ⟨Br, 0, none⟩)] wr fun e w' => e = .returned (.bool s1.ok) ∧ w' = wr) := CQ.out wr _ R1.out
      have HEND : Hid ((j = n ∨ s1.ok = false) → PP (.returned (.slice q m c)) wr) := fun hh => by
        rw [← HPP.out]
        have h := PS.out
        refine ⟨q, m, c, ts, s1, rfl, R1.out, B1.out, h.1, ?_⟩
        rcases h.2 with ⟨h1, p, u, h2, h3, h4, h5, h6⟩ | ⟨h1, h2⟩ | ⟨h1, h2⟩
        · rcases hh with rfl | hh
          · rw [h6, Nat.sub_self]
            exact ⟨h4, h1, h2, List.append_nil _, RW.out h1⟩
          · rw [h1] at hh; cases hh
        · rw [h2]; exact h1
        · rw [h2]; exact h1
      by_cases hjn : j = n
      · subst hjn
        have hlI : ¬ (j : Int) < (j : Int) := by omega
        have HF := Lib.hid (HEND.out (.inl rfl))
        go_wp2_with fail
        exact HF.out
      · have hjI : (j : Int) < (n : Int) := by omega
        cases hok : s1.ok with
        | false =>
          rw [hok] at C1
          have HF := Lib.hid (HEND.out (.inr hok))
          clear hok
          go_wp2_with fail
          refine C1.out.mono ?_
          rintro e w' ⟨rfl, rfl⟩
          go_wp2_with fail
          exact HF.out
        | true =>
          rw [hok] at C1
          have HOK := Lib.hid hok
          clear hok
          go_wp2_with fail
          refine C1.out.mono ?_
          rintro e w' ⟨rfl, rfl⟩
          go_wp2_with fail
          obtain ⟨p, u, h2, h3, h4, h5, h6⟩ : ∃ (p u : Nat), s1.parts = 4096 - (p : Nat) ∧ p ≤ 4096 ∧ s1.pos = s.pos + u ∧ ts.length = j ∧ listD (valD f (deep + 1)) n p0 (l.drop s.pos) = (listD (valD f (deep + 1)) (n - j) p (l.drop s1.pos)).bind fun x u2 => .done (ts ++ x.1, x.2) (u + u2) := by
            rcases PS.out.2 with ⟨-, h⟩ | ⟨h1, -⟩ | ⟨h1, -⟩
            · exact h
            · have := HOK.out; rw [Qs.not_ok (.inl h1.1)] at this; cases this
            · have := HOK.out; rw [Qs.not_ok (.inr h1)] at this; cases this
          have HVr : Hid (Bs w' v l) := HV.out.butQ HR.out HVS.out B1.out
          have CI : Hid (Calls Tryd.prog 37 #[.pointer (some ⟨Br, 0, none⟩), .int .i64 ((deep : Int) + 1)] w' (QVPost l Br v s1 f (deep + 1) p w')) := HIH.out (deep + 1) p s1 w' R1.out HVr.out HOK.out PS.out.1 h2 h3 (by omega) (by omega)
          refine CI.out.mono ?_
          rintro e W2 ⟨kd, di, db, ds, p', n', c', s3, rfl, g1, g2, g3, g4⟩
          obtain ⟨xs, ho, hc⟩ := RW.out HOK.out
          have hBrW : Br < W.heap.size := hlt
          have hB1s := B1.out.size
          have hB2s := g2.size
          have Q2 := Lib.hid (((⟨ho, hc⟩ : QRow W.heap.size (.slice q m c) f ts xs w').but g2 hBrW).but ((But.refl Br W2).alloc (.cells #[.int .i64 kd, .int .i64 di, .int .u64 db, .string ds, .slice p' n' c'] 25)) hBrW)
          have G1 := Lib.hid g1
          have G2 := Lib.hid (B1.out.trans g2)
          have hol := fun b (hb : (Value.slice q m c).ownBlock = some b) => ho.lt b hb
          have HOL := Lib.hid hol
          have NX := Lib.hid (partq_next hdf h3 (by omega) h5 h4 h6 g3 g4)
          have hts : ts.length ≤ 4096 := by omega
          clear g1 g2 g3 g4 ho hc hol h2 h3 h4 h5 h6 c0 c1 c2 c3 c4 hf2 hlt
          go_wp2_with (at_builtin; refine wpList_append_own_at _ rfl _ _ 23 rfl W.heap.size 25 i0 dzero 5 64 Tryd.underlying23 hi hz0 hz1 hz2 rfl (by decide) (.slice q m c) ts.length xs (by rfl) Q2.out.own ⟨W2.heap.size, 0, none⟩ 1 1 [.int .i64 kd, .int .i64 di, .int .u64 db, .string ds, .slice p' n' c'] (by rfl) rfl (news5 _ _ _ _ _ _ _) (fun x hx => by simp at hx; rcases hx with rfl | rfl | rfl | rfl | rfl <;> rfl) (by unfold maxLen; omega) (by omega) (by simp; omega) ?_; intro v' w1 hown' hgrow hnil hat)
          obtain ⟨q', m', c', rfl⟩ : ∃ q' m' c', v' = .slice q' m' c' := by
            rcases hown'.2 with ⟨h, -⟩ | ⟨g, cap, cur, h, -⟩ <;> exact ⟨_, _, _, h⟩
          obtain ⟨B3, R3⟩ := qgrow (s := s3) (v := v) (G2.out.alloc _) ((Below.heap_alloc _ _ _ G1.out.cells.2.2.2.2.2).trans G1.out) hBrW hgrow (fun b hb => (HOL.out b hb).1)
          obtain ⟨ts', RW3, PS3⟩ : ∃ ts', RowQ s3 w1 W.heap.size (.slice q' m' c') f ts' ∧ PartQ l f deep n p0 s.pos (j + 1) ts' s3 := by
            rcases NX.out with ⟨t, k1, k2, k3⟩ | ⟨k1, k2⟩
            · refine ⟨ts ++ [t], fun _ => qrow_next Q2.out.own Q2.out.parts (k2.kept fun b hb hl => ⟨Below.heap_alloc _ _ _ hl, Nat.le_trans hB1s hb.1, by rw [World.size_alloc]; exact Nat.lt_succ_of_lt hl, fun e => ?_⟩) hown' hgrow hat, k3⟩
              have h1 := HOL.out b e.symm
              have h2 := hb.1
              omega
            · exact ⟨[], (by unfold RowQ; intro h; rw [k1] at h; cases h), k2 []⟩
          clear NX
          go_roundw
          case rel => exact ⟨j + 1, ts', s3, q', m', c', rfl, by go_num, by omega, R3, B3, RW3, PS3⟩
          case measure => simp [intOf]; omega

/-- a list of nothing, where the reader has stopped -/
def QLStop (Br : Nat) (v : Value) (s : Qs) (W : World) (r : Ending) (W' : World) : Prop := r = .returned (.slice none 0 0) ∧ QB W' Br v s ∧ But Br W W'
theorem QB.same {W : World} {Br : Nat} {v : Value} {s s' : Qs} (h : QB W Br v s) (e : s = s') : QB W Br v s' := e ▸ h
set_option maxRecDepth 100000 in
set_option maxHeartbeats 4000000 in
theorem qlist_stop (Br deep : Nat) (v : Value) (s : Qs) (W : World) (hr : QB W Br v s) (hpt : 0 ≤ s.parts ∧ s.parts ≤ 4096) :
    Calls Tryd.prog 66 #[.pointer (some ⟨Br, 0, none⟩), .int .i64 0, .int .i64 (deep : Nat)] W (QLStop Br v s W) := by
  obtain ⟨PP, hPP⟩ : ∃ PP, QLStop Br v s W = PP := ⟨_, rfl⟩
  rw [hPP]
  have HPP := Lib.hid hPP
  obtain ⟨pos, parts, sh, bd⟩ := s
  obtain ⟨c0, c1, c2, c3, c4, hlt⟩ := hr.cells
  have hf2 := hr.free 2
  simp only at hpt c0 c1 c2 c3 c4
  obtain ⟨h1, h2⟩ := hpt
  have hw : IntKind.i64.wrap parts = parts := IntWalk.i64_in _ (by omega)
  have hle : ¬ (4096 : Int) < parts := by omega
  have HQ1 : Hid (QB (W.setCell ⟨Br, 2, none⟩ (.int .i64 parts)) Br v ⟨pos, parts, sh, bd⟩) := hr.setParts _ rfl
  have HB0 : Hid (But Br W (W.setCell ⟨Br, 2, none⟩ (.int .i64 parts))) := (But.refl Br W).set ⟨Br, 2, none⟩ _ (.inl rfl)
  clear hPP hr
  go_enter Tryd.func66, Tryd.ntmps66
  go_wp2_with fail
  go_loopw [7, 8] (fun s7 s8 wr => s7 = .slice none 0 0 ∧ s8 = .int .i64 0 ∧ wr = W.setCell ⟨Br, 2, none⟩ (.int .i64 parts)) (fun _ _ _ => 0)
  case atStart => exact ⟨rfl, rfl, rfl⟩
  case round =>
    obtain ⟨rfl, rfl, rfl⟩ := hrel
    go_wp2_with fail
    rw [← HPP.out]
    exact ⟨rfl, HQ1.out, HB0.out⟩
/-- a list for which there is no room -/
def QLBad (Br : Nat) (v : Value) (s : Qs) (n : Nat) (W : World) (r : Ending) (W' : World) : Prop := r = .returned (.slice none 0 0) ∧ QB W' Br v { s with parts := s.parts + (n : Int), bad := true } ∧ But Br W W'
set_option maxRecDepth 100000 in
set_option maxHeartbeats 4000000 in
theorem qlist_bad (Br deep n : Nat) (v : Value) (s : Qs) (W : World) (hr : QB W Br v s) (hpt : 0 ≤ s.parts ∧ s.parts ≤ 4096) (hn : 0 < n) (hn2 : n ≤ 4096) (hbad : 4096 < s.parts + (n : Int) ∨ 16 ≤ deep) :
    Calls Tryd.prog 66 #[.pointer (some ⟨Br, 0, none⟩), .int .i64 (n : Nat), .int .i64 (deep : Nat)] W (QLBad Br v s n W) := by
  obtain ⟨PP, hPP⟩ : ∃ PP, QLBad Br v s n W = PP := ⟨_, rfl⟩
  rw [hPP]
  have HPP := Lib.hid hPP
  obtain ⟨pos, parts, sh, bd⟩ := s
  obtain ⟨c0, c1, c2, c3, c4, hlt⟩ := hr.cells
  have hf2 := hr.free 2
  have hf4 := hr.free 4
  simp only at hpt c0 c1 c2 c3 c4 hbad
  obtain ⟨h1, h2⟩ := hpt
  obtain ⟨P, hP⟩ : ∃ P, parts + (n : Int) = P := ⟨_, rfl⟩
  have hw : IntKind.i64.wrap (parts + (n : Int)) = P := by rw [IntWalk.i64_in _ (by omega)]; omega
  rw [hP] at hbad
  have hnI : (0 : Int) < (n : Int) := by omega
  have HQ1 : Hid (QB ((W.setCell ⟨Br, 2, none⟩ (.int .i64 P)).setCell ⟨Br, 4, none⟩ (.bool true)) Br v ⟨pos, P, sh, true⟩) := (hr.setParts P rfl).setBad true
  have HB0 : Hid (But Br W ((W.setCell ⟨Br, 2, none⟩ (.int .i64 P)).setCell ⟨Br, 4, none⟩ (.bool true))) := ((But.refl Br W).set ⟨Br, 2, none⟩ _ (.inl rfl)).set ⟨Br, 4, none⟩ _ (.inl rfl)
  have C1 : Hid (Calls Tryd.prog 48 #[.pointer (some ⟨Br, 0, none⟩)] ((W.setCell ⟨Br, 2, none⟩ (.int .i64 P)).setCell ⟨Br, 4, none⟩ (.bool true)) fun e w' => e = .returned (.bool false) ∧ w' = ((W.setCell ⟨Br, 2, none⟩ (.int .i64 P)).setCell ⟨Br, 4, none⟩ (.bool true))) := (qok_any Br _ _ _ HQ1.out).mono fun _ _ ⟨h1, h2⟩ => ⟨by rw [h1]; unfold Qs.ok; simp, h2.symm⟩
  have HP := Lib.hid hP
  have hbad2 : (4096 : Int) < P ∨ (¬ (4096 : Int) < P ∧ (16 : Int) ≤ (deep : Int)) := by omega
  clear hPP hr hbad hP
  rcases hbad2 with hb | ⟨hb, hd⟩
  all_goals
    go_enter Tryd.func66, Tryd.ntmps66
    go_wp2_with fail
    go_loopw [7, 8] (fun s7 s8 wr => s7 = .slice none 0 0 ∧ s8 = .int .i64 0 ∧ wr = (W.setCell ⟨Br, 2, none⟩ (.int .i64 P)).setCell ⟨Br, 4, none⟩ (.bool true)) (fun _ _ _ => 0)
    case atStart => exact ⟨rfl, rfl, rfl⟩
    case round =>
      obtain ⟨rfl, rfl, rfl⟩ := hrel
      go_wp2_with fail
      refine C1.out.mono ?_
      rintro e w' ⟨rfl, rfl⟩
      go_wp2_with fail
      rw [← HPP.out]
      exact ⟨rfl, HQ1.out.same (by rw [← HP.out]), HB0.out⟩

theorem res_value {W : World} {B : Nat} {cs : Array Value} (h : W.heap[B]? = some (.cells cs 25 (0, 0))) (hs : cs.size = 5) (tmps : Array Value) (h4 : tmps.getD 4 undef = .pointer (some ⟨B, 0, none⟩)) :
    (results Tryd.f37 tmps).run Tryd.prog W = .ok (.agg cs) W := by
  have h4' : tmps[4]?.getD undef = .pointer (some ⟨B, 0, none⟩) := by simpa using h4
  have hl := run_loadVar_row (P := Tryd.prog) W B 25 25 cs (0, 0) _ h Tryd.underlying25 rfl (by rw [hs]; kernel_rfl)
  simp [results, Tryd.results37, h4', asAddr, hl]
theorem QB.set5 {Br : Nat} {W : World} {v : Value} {s : Qs} (h : QB W Br v s) (B : Nat) (hB : B ≠ Br) (a0 a1 a2 a3 a4 : Value) : QB (((((W.setCell ⟨B, 0, none⟩ a0).setCell ⟨B, 1, none⟩ a1).setCell ⟨B, 2, none⟩ a2).setCell ⟨B, 3, none⟩ a3).setCell ⟨B, 4, none⟩ a4) Br v s :=
  ((((h.setOther _ _ hB).setOther _ _ hB).setOther _ _ hB).setOther _ _ hB).setOther _ _ hB
def QVStop (Br : Nat) (v : Value) (s : Qs) (W : World) (r : Ending) (W' : World) : Prop :=
  r = .returned (.agg #[.int .i64 0, .int .i64 0, .int .u64 0, .string ⟨#[]⟩, .slice none 0 0]) ∧ QB W' Br v s ∧ But Br W W'
set_option maxRecDepth 100000 in
set_option maxHeartbeats 4000000 in
theorem qvalue_stop (l : List UInt8) (Br deep : Nat) (v : Value) (s : Qs) (W : World) (hr : QB W Br v s) (hv : Bs W v l) (hl : l.length ≤ 100000000) (hp : s.pos ≤ l.length) (he : s.ok = false) :
    Calls Tryd.prog 37 #[.pointer (some ⟨Br, 0, none⟩), .int .i64 (deep : Nat)] W (QVStop Br v s W) := by
  obtain ⟨PP, hPP⟩ : ∃ PP, QVStop Br v s W = PP := ⟨_, rfl⟩
  rw [hPP]
  have HPP := Lib.hid hPP
  have HR := Lib.hid hr
  have HV := Lib.hid hv
  have HVS := Lib.hid hv.slice
  have HB : Hid (byteQ l s = (0, s)) := by show _ = _; unfold byteQ; rw [if_pos he]
  have hlt := hr.cells.2.2.2.2.2
  have HA0 : Hid (But Br W (W.alloc (.cells #[.int .i64 0, .int .i64 0, .int .u64 0, .string ⟨#[]⟩, .slice none 0 0] 25))) := (But.refl Br W).alloc _
  have HD0 : Hid (DB (W.alloc (.cells #[.int .i64 0, .int .i64 0, .int .u64 0, .string ⟨#[]⟩, .slice none 0 0] 25)) W.heap.size 0 0 0 ⟨#[]⟩ (.slice none 0 0)) := heap_alloc_new W _
  clear hPP hr hv he
  go_enter Tryd.func37, Tryd.ntmps37
  go_wp2_with fail
  refine (qbyte_any l Br v s _ (HR.out.alloc _) (HV.out.butQ HR.out HVS.out HA0.out) hl hp).mono ?_
  rintro e W1 ⟨rfl, h1, h2⟩
  rw [HB.out] at h1 ⊢
  have hne0 : W.heap.size ≠ Br := by omega
  have D1 := Lib.hid (HD0.out.but h2 hne0)
  have B1 := Lib.hid (HA0.out.trans h2)
  have G1 := Lib.hid h1
  have hsz := h2.size
  rw [World.size_alloc] at hsz
  obtain ⟨e0, e1, e2, e3, e4, hlte⟩ := D1.out.cells
  have r0 := D1.out.free 0
  have r1 := D1.out.free 1
  have r2 := D1.out.free 2
  have r3 := D1.out.free 3
  have r4 := D1.out.free 4
  clear h1 h2
  have hw0 : IntKind.i64.wrap 0 = 0 := rfl
  go_wp2_with fail
  refine bodyPost_ret (res_value (B := W.heap.size) (DB.alloc (D1.out.set5 0 0 0 ⟨#[]⟩ (.slice none 0 0)) _) rfl _ rfl) rfl ?_
  rw [← HPP.out]
  exact ⟨rfl, (G1.out.set5 _ hne0 _ _ _ _ _).alloc _, (B1.out.set5 _ (Nat.le_refl _) _ _ _ _ _).alloc _⟩
end Go.Proofs.YtmncpbfghabamaaDoor
