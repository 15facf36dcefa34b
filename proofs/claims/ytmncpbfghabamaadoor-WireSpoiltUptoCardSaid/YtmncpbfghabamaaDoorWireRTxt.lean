/- WIRE: the program reads a signed number, a text. -/
import Derived.Test.YtmncpbfghabamaaDoorWireRNum
import Derived.Test.YtmncpbfghabamaaDoorWireBytes
namespace Go.Proofs.YtmncpbfghabamaaDoor
open Go Go.RowKit

/-- how a reading leaves the reader -/
def After {α : Type} (l : List UInt8) (s : Cs) (r : Rd α) (d x : α) (s' : Cs) : Prop :=
  s'.parts = s.parts ∧ s'.room = s.room ∧ s'.pos ≤ l.length ∧
    ((s.err ≠ 0 ∧ x = d ∧ s'.err = s.err) ∨ (s.err = 0 ∧ match r with
      | .done y n => x = y ∧ s'.pos = s.pos + n ∧ s'.err = 0
      | .short => x = d ∧ s'.err = 260
      | .bad => x = d ∧ s'.err = 262))
/-- what a reading answers -/
def RPost {α : Type} (l : List UInt8) (Br : Nat) (v : Value) (s : Cs) (q : Rd α) (d : α) (f : α → Value) (W : World) (r : Ending) (W' : World) : Prop :=
  ∃ (x : α) (s' : Cs), r = .returned (f x) ∧ RB W' Br v s' ∧ But Br W W' ∧ After l s q d x s'
theorem Bs.slice {w : World} {v : Value} {l : List UInt8} (h : Bs w v l) : ∃ q n c, v = .slice q n c := by obtain ⟨p, cap, e, -⟩ := h; exact ⟨_, _, _, e⟩

set_option maxRecDepth 100000 in
set_option maxHeartbeats 1000000 in
theorem rnumber_all (l : List UInt8) (Br : Nat) (v : Value) (s : Cs) (lim : Nat) (W : World) (hr : RB W Br v s) (hv : Bs W v l) (hl : l.length ≤ 100000000) (hp : s.pos ≤ l.length) (hlim : lim < 18446744073709551616) :
    Calls Tryd.prog 45 #[.pointer (some ⟨Br, 0, none⟩), .int .u64 (lim : Nat)] W (RPost l Br v s (numD lim 0 0 (l.drop s.pos)) 0 (fun x => .int .u64 (x : Nat)) W) := by
  by_cases he : s.err = 0
  · refine (rnumber_any l Br v s lim W hr hv hl hp he hlim).mono ?_
    rintro e W' ⟨x, s', rfl, h1, h2, h3, h4, h5⟩
    refine ⟨x, s', rfl, h1, h2, h3, h4, ?_, .inr ⟨he, ?_⟩⟩
    · split at h5
      · rename_i y n heq
        obtain ⟨-, h6, -⟩ := h5
        have := (numD_len _ _ _ _ _ _ heq).2.1
        rw [List.length_drop] at this
        omega
      · exact h5.2.2
      · exact h5.2.2
    · split at h5 <;> simp_all
  · obtain ⟨PP, hPP⟩ : ∃ PP, RPost l Br v s (numD lim 0 0 (l.drop s.pos)) 0 (fun x : Nat => .int .u64 (x : Nat)) W = PP := ⟨_, rfl⟩
    rw [hPP]
    have HPP := Lib.hid hPP
    have CB := Lib.hid (byte_any l Br v s W hr hv hl (by omega))
    have HB : Hid (byteR l s = (0, s)) := by show _ = _; unfold byteR; rw [if_pos he]
    have hb : (s.err == 0) = false := by simpa using he
    have hb2 : (s.err != 0) = true := by simpa using he
    have HE := Lib.hid he
    clear hPP hr hv he
    go_enter Tryd.func45, Tryd.ntmps45
    go_wp2_with fail
    go_loopw [8] (fun s8 wr => s8 = .int .i64 0 ∧ wr = W) (fun _ _ => 0)
    case atStart => exact ⟨rfl, rfl⟩
    obtain ⟨rfl, rfl⟩ := hrel
    go_wp2_with fail
    refine CB.out.mono ?_
    rintro e W1 ⟨rfl, g1, g2⟩
    rw [HB.out] at g1 ⊢
    obtain ⟨c0, c1, c2, c3, c4, hlt⟩ := g1.cells
    have G1 := Lib.hid g1
    have G2 := Lib.hid g2
    clear g1 g2 CB
    go_wp2_with fail
    rw [← HPP.out]
    exact ⟨0, s, rfl, G1.out, G2.out, rfl, rfl, hp, .inl ⟨HE.out, rfl, rfl⟩⟩
theorem i64_wrap_nat {n : Nat} (h1 : n ≤ 9223372036854775807) : IntKind.i64.wrap (n : Int) = (n : Int) := by
  simp [IntKind.wrap, IntKind.bits, IntKind.signed]
  omega
theorem i64_wrap_top {n : Nat} (h1 : n ≤ 9223372036854775807) : IntKind.i64.wrap ((18446744073709551615 - n : Nat) : Int) = -(n : Int) - 1 := by
  simp [IntKind.wrap, IntKind.bits, IntKind.signed]
  omega
theorem xor_i64_zero {n : Nat} (h1 : n ≤ 9223372036854775807) : bits .xor .i64 (n : Int) 0 = (n : Int) := by
  show IntKind.i64.wrap (((BitVec.ofInt 64 (n : Int) ^^^ BitVec.ofInt 64 0).toNat : Nat) : Int) = _
  rw [show BitVec.ofInt 64 0 = 0#64 from rfl, BitVec.xor_zero, BitVec.ofInt_natCast, BitVec.toNat_ofNat, Nat.mod_eq_of_lt (by omega)]
  exact i64_wrap_nat h1
theorem xor_i64_ones {n : Nat} (h1 : n ≤ 9223372036854775807) : bits .xor .i64 (n : Int) (-1) = -(n : Int) - 1 := by
  show IntKind.i64.wrap (((BitVec.ofInt 64 (n : Int) ^^^ BitVec.ofInt 64 (-1)).toNat : Nat) : Int) = _
  rw [show BitVec.ofInt 64 (-1) = BitVec.allOnes 64 from rfl, BitVec.xor_allOnes, BitVec.toNat_not, BitVec.ofInt_natCast, BitVec.toNat_ofNat, Nat.mod_eq_of_lt (by omega)]
  exact i64_wrap_top h1
theorem unzig_bits {x : Nat} (h : x < 18446744073709551616) : bits .xor .i64 (wrap64 ((x : Int) / 2)) (wrap64 (-wrap64 (bits .and .u64 (x : Int) 1))) = unzig x := by
  have e1 : bits .and .u64 (x : Int) 1 = ((x % 2 : Nat) : Int) := by
    have := u64_and_nat x 1 h (by omega)
    rw [show ((1 : Nat) : Int) = 1 from rfl, nat_mask1] at this
    exact this
  have e2 : wrap64 ((x : Int) / 2) = ((x / 2 : Nat) : Int) := by unfold wrap64; omega
  rw [e1, e2]
  unfold unzig
  rcases Nat.mod_two_eq_zero_or_one x with h2 | h2
  · rw [h2, if_neg (by omega)]
    rw [show wrap64 (-wrap64 ((0 : Nat) : Int)) = 0 by unfold wrap64; omega]
    exact xor_i64_zero (by omega)
  · rw [h2, if_pos rfl]
    rw [show wrap64 (-wrap64 ((1 : Nat) : Int)) = -1 by unfold wrap64; omega]
    exact xor_i64_ones (by omega)
theorem After.sig {l : List UInt8} {s s' : Cs} {x : Nat} (h : After l s (numD top64 0 0 (l.drop s.pos)) 0 x s') : After l s (sigD (l.drop s.pos)) 0 (unzig x) s' ∧ x < 18446744073709551616 := by
  obtain ⟨h1, h2, h3, h4⟩ := h
  unfold sigD
  cases hn : numD top64 0 0 (l.drop s.pos) with
  | done y n =>
    rw [hn] at h4
    have hy := (numD_len _ _ _ _ _ _ hn).2.2
    unfold top64 at hy
    rcases h4 with ⟨a, b, c⟩ | ⟨a, b, c⟩
    · exact ⟨⟨h1, h2, h3, .inl ⟨a, by rw [b]; rfl, c⟩⟩, by omega⟩
    · exact ⟨⟨h1, h2, h3, .inr ⟨a, by rw [b], c⟩⟩, by omega⟩
  | short =>
    rw [hn] at h4
    rcases h4 with ⟨a, b, c⟩ | ⟨a, b, c⟩
    · exact ⟨⟨h1, h2, h3, .inl ⟨a, by rw [b]; rfl, c⟩⟩, by omega⟩
    · exact ⟨⟨h1, h2, h3, .inr ⟨a, by rw [b]; rfl, c⟩⟩, by omega⟩
  | bad =>
    rw [hn] at h4
    rcases h4 with ⟨a, b, c⟩ | ⟨a, b, c⟩
    · exact ⟨⟨h1, h2, h3, .inl ⟨a, by rw [b]; rfl, c⟩⟩, by omega⟩
    · exact ⟨⟨h1, h2, h3, .inr ⟨a, by rw [b]; rfl, c⟩⟩, by omega⟩
set_option maxHeartbeats 1000000 in
theorem rsigned_all (l : List UInt8) (Br : Nat) (v : Value) (s : Cs) (W : World) (hr : RB W Br v s) (hv : Bs W v l) (hl : l.length ≤ 100000000) (hp : s.pos ≤ l.length) :
    Calls Tryd.prog 54 #[.pointer (some ⟨Br, 0, none⟩)] W (RPost l Br v s (sigD (l.drop s.pos)) 0 (fun x => .int .i64 x) W) := by
  obtain ⟨PP, hPP⟩ : ∃ PP, RPost l Br v s (sigD (l.drop s.pos)) 0 (fun x => .int .i64 x) W = PP := ⟨_, rfl⟩
  rw [hPP]
  have HPP := Lib.hid hPP
  have CN := Lib.hid (rnumber_all l Br v s top64 W hr hv hl hp (by unfold top64; omega))
  clear hPP hr hv
  go_enter Tryd.func54, Tryd.ntmps54
  go_wp2_with fail
  refine CN.out.mono ?_
  rintro e W1 ⟨x, s', rfl, h1, h2, h3⟩
  have H1 := Lib.hid h1
  have H2 := Lib.hid h2
  have H3 := Lib.hid h3
  clear h1 h2 h3 CN
  obtain ⟨H4, hx⟩ := H3.out.sig
  have HE : Hid (bits .xor .i64 (wrap64 ((x : Int) / 2)) (wrap64 (-wrap64 (bits .and .u64 (x : Int) 1))) = unzig x) := unzig_bits hx
  have H4 := Lib.hid H4
  clear hx
  go_wp2_with fail
  rw [← HPP.out]
  refine ⟨unzig x, s', ?_, H1.out, H2.out, H4.out⟩
  show Ending.returned (.int .i64 _) = _
  rw [HE.out]

set_option maxRecDepth 100000 in
set_option maxHeartbeats 2000000 in
theorem rtext_all (l : List UInt8) (Br : Nat) (v : Value) (s : Cs) (lim : Nat) (W : World) (hr : RB W Br v s) (hv : Bs W v l) (hl : l.length ≤ 100000000) (hp : s.pos ≤ l.length) (hlim : lim ≤ 1000000) :
    Calls Tryd.prog 56 #[.pointer (some ⟨Br, 0, none⟩), .int .i64 (lim : Nat)] W (RPost l Br v s (textD lim (l.drop s.pos)) (⟨#[]⟩ : ByteArray) (fun x => .string x) W) := by
  obtain ⟨PP, hPP⟩ : ∃ PP, RPost l Br v s (textD lim (l.drop s.pos)) (⟨#[]⟩ : ByteArray) (fun x => .string x) W = PP := ⟨_, rfl⟩
  rw [hPP]
  have HPP := Lib.hid hPP
  have CN := Lib.hid (rnumber_all l Br v s lim W hr hv hl hp (by omega))
  have HR := Lib.hid hr
  have HV := Lib.hid hv
  obtain ⟨p, m, cap, rfl⟩ := hv.slice
  have hwl : IntKind.u64.wrap (lim : Int) = (lim : Int) := by rw [wrap64u]; omega
  clear hPP hr hv
  go_enter Tryd.func56, Tryd.ntmps56
  go_wp2_with fail
  refine CN.out.mono ?_
  rintro e W1 ⟨x, s', rfl, h1, h2, h3⟩
  have H1 := Lib.hid h1
  have H2 := Lib.hid h2
  obtain ⟨a1, a2, a3, a4⟩ := h3
  have HA1 := Lib.hid a1
  have HA2 := Lib.hid a2
  obtain ⟨c0, c1, c2, c3, c4, hlt⟩ := h1.cells
  clear h1 h2 CN a1 a2
  have herr : ∀ (d : ByteArray), s'.err ≠ 0 → After l s (textD lim (l.drop s.pos)) (⟨#[]⟩ : ByteArray) ⟨#[]⟩ s' → True := fun _ _ _ => trivial
  clear herr
  rcases a4 with ⟨q1, q2, q3⟩ | ⟨q1, q2⟩
  · subst q2
    have hb : (s'.err == 0) = false := by rw [q3]; simpa using q1
    have hb2 : (s'.err != 0) = true := by rw [q3]; simpa using q1
    have HF : Hid (After l s (textD lim (l.drop s.pos)) (⟨#[]⟩ : ByteArray) ⟨#[]⟩ s') := ⟨HA1.out, HA2.out, a3, .inl ⟨q1, rfl, q3⟩⟩
    clear q1 q3
    go_wp2_with fail
    rw [← HPP.out]
    exact ⟨_, s', rfl, H1.out, H2.out, HF.out⟩
  · cases hn : numD lim 0 0 (l.drop s.pos) with
    | short =>
      rw [hn] at q2
      obtain ⟨rfl, q3⟩ := q2
      have HF : Hid (After l s (textD lim (l.drop s.pos)) (⟨#[]⟩ : ByteArray) ⟨#[]⟩ s') := ⟨HA1.out, HA2.out, a3, .inr ⟨q1, by unfold textD; rw [hn]; exact ⟨rfl, q3⟩⟩⟩
      rw [q3] at c2
      clear q1 q3 hn
      go_wp2_with fail
      rw [← HPP.out]
      exact ⟨_, s', rfl, H1.out, H2.out, HF.out⟩
    | bad =>
      rw [hn] at q2
      obtain ⟨rfl, q3⟩ := q2
      have HF : Hid (After l s (textD lim (l.drop s.pos)) (⟨#[]⟩ : ByteArray) ⟨#[]⟩ s') := ⟨HA1.out, HA2.out, a3, .inr ⟨q1, by unfold textD; rw [hn]; exact ⟨rfl, q3⟩⟩⟩
      rw [q3] at c2
      clear q1 q3 hn
      go_wp2_with fail
      rw [← HPP.out]
      exact ⟨_, s', rfl, H1.out, H2.out, HF.out⟩
    | done y n =>
      rw [hn] at q2
      obtain ⟨rfl, q3, q4⟩ := q2
      have hxl := (numD_len _ _ _ _ _ _ hn).2.2
      have HS1 : Hid (Bs W1 (.slice p m cap) l) := HV.out.but HR.out ⟨_, _, _, rfl⟩ H2.out
      have hm : m = l.length := (HS1.out.len).1
      subst hm
      rw [q4] at c2
      have HN := Lib.hid hn
      have Q1 := Lib.hid q1
      have Q3 := Lib.hid q3
      have Q4 := Lib.hid q4
      clear q1 q3 q4 hn
      have hf := H1.out.free 1
      generalize hP : s'.pos = P at *
      have HPe := Lib.hid hP
      clear hP
      by_cases hlt2 : l.length < P + x
      · have hRI : (l.length : Int) - (P : Int) < (x : Int) := by omega
        have HF : Hid (∀ s'', s''.parts = s'.parts → s''.room = s'.room → s''.pos ≤ l.length → s''.err = 260 → After l s (textD lim (l.drop s.pos)) (⟨#[]⟩ : ByteArray) ⟨#[]⟩ s'') := fun s'' u1 u2 u3 u4 => ⟨u1.trans HA1.out, u2.trans HA2.out, u3, .inr ⟨Q1.out, by
          unfold textD; rw [HN.out]; simp only [Rd.bind_done]; rw [if_pos (by rw [List.length_drop]; have := Q3.out; have := HPe.out; omega)]; first | exact ⟨rfl, u4⟩ | exact ⟨trivial, u4⟩⟩⟩
        go_wp2_with fail
        go_quiet (fail)
        go_wp2_with fail
        refine (fail_any Br _ { s' with pos := l.length } 260 _ ((H1.out.drewN _).setPos l.length rfl)).mono ?_
        rintro e W2 ⟨rfl, g1, g2⟩
        have hz : ({ s' with pos := l.length } : Cs).err = 0 := Q4.out
        rw [if_pos hz] at g1
        have G1 := Lib.hid g1
        have G2 := Lib.hid ((H2.out.trans (((But.refl Br W1).drewN _).set ⟨Br, 1, none⟩ _ (.inl rfl))).trans g2)
        clear g1 g2 hz
        go_wp2_with fail
        rw [← HPP.out]
        exact ⟨_, _, rfl, G1.out, G2.out, HF.out _ rfl rfl (Nat.le_refl _) rfl⟩
      · have hRI : (x : Int) ≤ (l.length : Int) - (P : Int) := by omega
        obtain ⟨q, cq, hsl, hbs⟩ := HS1.out.window (i := P) (j := P + x) (by omega) (by omega)
        rw [Nat.add_sub_cancel_left] at hsl hbs
        simp only [Int.natCast_add] at hsl
        have htx : ∀ a, (convert 26 9 (.slice q x cq)).run Tryd.prog (W1.drewN a) = .ok (.string (ba ((l.drop P).take x))) (W1.drewN a) := fun a => (hbs.drewN a).text
        have hxw : IntKind.i64.wrap (x : Int) = (x : Int) := i64_wrap_nat (by omega)
        have hadd : IntKind.i64.wrap ((P : Int) + (x : Int)) = (P : Int) + (x : Int) := IntWalk.i64_in _ (by omega)
        have HF : Hid (After l s (textD lim (l.drop s.pos)) (⟨#[]⟩ : ByteArray) (ba ((l.drop P).take x)) { s' with pos := P + x }) := ⟨HA1.out, HA2.out, by show P + x ≤ _; omega, .inr ⟨Q1.out, by
          have h3 := Q3.out
          have h4 := HPe.out
          unfold textD; rw [HN.out]; simp only [Rd.bind_done]; rw [if_neg (by rw [List.length_drop]; omega)]
          refine ⟨?_, ?_, Q4.out⟩
          · unfold ba; rw [List.drop_drop, ← h3]
          · show P + x = _; omega⟩⟩
        clear hbs
        go_wp2_with fail
        go_quiet (fail)
        go_wp2_with fail
        go_quiet (fail)
        go_wp2_with fail
        rw [← HPP.out]
        refine ⟨_, _, rfl, ((H1.out.drewN _).setPos (P + x) (by simp)), (((H2.out.drewN _).set ⟨Br, 1, none⟩ _ (.inl rfl))), HF.out⟩
end Go.Proofs.YtmncpbfghabamaaDoor
