/- WIRE: a message's bytes and their reading, there and back; a frame's. WIRE: plain: bits turned in a row of at most sixteen change the check sum. WIRE: plain: a frame that is cut off, a frame that is spoilt. -/
import Derived.Test.YtmncpbfghabamaaDoorWireWM
namespace Go.Proofs.YtmncpbfghabamaaDoor
open Go Go.RowKit

theorem readsD_sigs : ∀ (ns : List Int) (r : List UInt8), (∀ x ∈ ns, I64 x) → readsD ns.length (sigsB ns ++ r) = .done ns (sigsB ns).length
  | [], r, _ => rfl
  | x :: ns, r, h => by
    have h1 := sigD_numB (h x (List.mem_cons_self ..)) (sigsB ns ++ r)
    have h2 := readsD_sigs ns r (fun y hy => h y (List.mem_cons_of_mem _ hy))
    have e : sigsB (x :: ns) = numB (zig x) ++ sigsB ns := by unfold sigsB; simp
    show (sigD (sigsB (x :: ns) ++ r)).bind _ = _
    rw [e, List.append_assoc, h1]
    simp only [Rd.bind_done]
    rw [List.drop_left, h2]
    simp only [Rd.bind_done, List.length_append]
theorem txtB_len (s : ByteArray) : (txtB s).length = (numB s.size).length + s.size := by
  unfold txtB
  rw [List.length_append]
  congr 1
theorem drop_len {a b : List UInt8} {n : Nat} (h : a.length = n) : (a ++ b).drop n = b := by rw [← h, List.drop_left]
theorem msgD_body {ns : List Int} {tp rp : ByteArray} {t : Dv} (hn : ns.length = 6) (hi : ∀ x ∈ ns, I64 x) (htp : tp.size ≤ 65535) (hrp : rp.size ≤ 65535) (hR : t.Right) (hd : t.deep ≤ 16) (hs : t.size ≤ 4096) :
    msgD (bodyB ns tp rp t) = .done (ns, tp, rp, t) (bodyB ns tp rp t).length := by
  have h1 := readsD_sigs ns (txtB tp ++ (txtB rp ++ enc t)) hi
  rw [hn] at h1
  have e : bodyB ns tp rp t = sigsB ns ++ (txtB tp ++ (txtB rp ++ enc t)) := by unfold bodyB; simp only [List.append_assoc]
  have h2 : textD 65535 (txtB tp ++ (txtB rp ++ enc t)) = .done tp (txtB tp).length := by
    rw [txtB_len]; exact textD_numB (by omega) htp (txtB rp ++ enc t)
  have h3 : textD 65535 (txtB rp ++ enc t) = .done rp (txtB rp).length := by
    rw [txtB_len]; exact textD_numB (by omega) hrp (enc t)
  have h4 := valD_enc t 16 1 4095 [] hR hd rfl (by omega) (by omega)
  rw [List.append_nil] at h4
  have d1 : (sigsB ns ++ (txtB tp ++ (txtB rp ++ enc t))).drop ((sigsB ns).length + (txtB tp).length) = txtB rp ++ enc t := by
    rw [← List.append_assoc]; exact drop_len (by rw [List.length_append])
  have d2 : (sigsB ns ++ (txtB tp ++ (txtB rp ++ enc t))).drop ((sigsB ns).length + (txtB tp).length + (txtB rp).length) = enc t := by
    rw [← List.append_assoc, ← List.append_assoc]; exact drop_len (by rw [List.length_append, List.length_append])
  unfold msgD
  rw [e, h1, Rd.bind_done, List.drop_left, h2, Rd.bind_done, d1, h3, Rd.bind_done, d2, h4, Rd.bind_done]
  simp only [List.length_append]
  congr 1
  omega
theorem readsD_back : ∀ (n : Nat) (l : List UInt8) (ns : List Int) (u : Nat), readsD n l = .done ns u → l.take u = sigsB ns ∧ u ≤ l.length ∧ ns.length = n ∧ ∀ x ∈ ns, I64 x
  | 0, l, ns, u, h => by
    simp only [readsD] at h
    injection h with h1 h2
    subst h1; subst h2
    exact ⟨by simp [sigsB], Nat.zero_le _, rfl, fun x hx => by cases hx⟩
  | n + 1, l, ns, u, h => by
    unfold readsD at h
    obtain ⟨x, u1, h1, h2⟩ := bind_done_inv h
    obtain ⟨xs, u2, h3, h4⟩ := bind_done_inv h2
    injection h4 with h4 h5
    subst h4; subst h5
    obtain ⟨a1, a2, a3⟩ := sigD_back h1
    obtain ⟨b1, b2, b3, b4⟩ := readsD_back n _ _ _ h3
    rw [List.length_drop] at b2
    refine ⟨?_, by omega, by simp [b3], fun y hy => ?_⟩
    · rw [List.take_add, a1, b1]
      unfold sigsB
      simp
    · rcases List.mem_cons.1 hy with rfl | hy
      · exact a3
      · exact b4 y hy
/-- what is known of a message that was read -/
structure MsgR (ns : List Int) (tp rp : ByteArray) (t : Dv) : Prop where
  six : ns.length = 6
  i64 : ∀ x ∈ ns, I64 x
  tp : tp.size ≤ 65535
  rp : rp.size ≤ 65535
  right : t.Right
  deep : t.deep ≤ 16
  size : t.size ≤ 4096
theorem msgD_back {l : List UInt8} {ns : List Int} {tp rp : ByteArray} {t : Dv} {k : Nat} (h : msgD l = .done (ns, tp, rp, t) k) : l.take k = bodyB ns tp rp t ∧ k ≤ l.length ∧ MsgR ns tp rp t := by
  unfold msgD at h
  obtain ⟨ns', u, h1, h⟩ := bind_done_inv h
  obtain ⟨tp', u1, h2, h⟩ := bind_done_inv h
  obtain ⟨rp', u2, h3, h⟩ := bind_done_inv h
  obtain ⟨⟨t', p'⟩, u3, h4, h⟩ := bind_done_inv h
  injection h with h h5
  injection h with y1 h
  injection h with y2 h
  injection h with y3 y4
  simp only at y4
  subst y1; subst y2; subst y3; subst y4; subst h5
  obtain ⟨a1, a2, a3, a4⟩ := readsD_back _ _ _ _ h1
  obtain ⟨b1, b2, b3⟩ := textD_back h2
  obtain ⟨c1, c2, c3⟩ := textD_back h3
  obtain ⟨e1, e2, e3, e4, e5⟩ := valD_back 16 1 4095 _ _ _ _ rfl (by omega) h4
  rw [List.length_drop] at b2 c2 e2
  refine ⟨?_, by omega, a3, a4, b3, c3, e3, e4, by omega⟩
  rw [show u + u1 + u2 + u3 = u + (u1 + (u2 + u3)) by omega, List.take_add, a1, List.take_add, b1, List.take_add, List.drop_drop, c1, List.drop_drop, e1]
  unfold bodyB txtB
  simp only [List.append_assoc]
theorem numD_top {lim y : Nat} (hl : lim < 18446744073709551616) (h : y ≤ lim) (r : List UInt8) : numD lim 0 0 (numB y ++ r) = .done y (numB y).length := by
  have := numD_numB lim hl r y 0 0 (by omega) (.inl rfl)
  rw [this]
  congr 1 <;> omega
theorem getD_app {a b : List UInt8} {i : Nat} (h : a.length ≤ i) : (a ++ b).getD i 0 = b.getD (i - a.length) 0 := by
  unfold List.getD
  rw [List.getElem?_append_right h]
/-- a frame with anything behind it is read -/
theorem decD_frame {ns : List Int} {tp rp : ByteArray} {t : Dv} (hm : MsgR ns tp rp t) (hf : fitB ns tp rp = true) (hb : (bodyB ns tp rp t).length ≤ 16777216) (r : List UInt8) :
    decD (frameB (bodyB ns tp rp t) ++ r) = .ok (ns, tp, rp, t) (frameB (bodyB ns tp rp t)).length := by
  have hmsg := msgD_body hm.six hm.i64 hm.tp hm.rp hm.right hm.deep hm.size
  obtain ⟨b, hbe⟩ : ∃ b, bodyB ns tp rp t = b := ⟨_, rfl⟩
  rw [hbe] at hb hmsg ⊢
  have e : frameB b = 167 :: 1 :: (numB b.length ++ (b ++ crcB b)) := by
    unfold frameB
    rw [if_neg (by omega)]
    simp only [List.append_assoc, List.cons_append, List.nil_append]
  have hc : (crcB b).length = 2 := rfl
  have el : (frameB b).length = 2 + (numB b.length).length + b.length + 2 := by
    rw [e]; simp only [List.length_cons, List.length_append]; omega
  have hF : msgF b = some (ns, tp, rp, t) := by
    unfold msgF
    rw [hmsg]
    simp only
    rw [if_pos ⟨trivial, hf⟩]
  have eA : frameB b ++ r = 167 :: 1 :: (numB b.length ++ (b ++ (crcB b ++ r))) := by
    rw [e]; simp only [List.append_assoc, List.cons_append]
  have eL : (frameB b ++ r).length = 2 + (numB b.length).length + b.length + 2 + r.length := by rw [List.length_append, el]
  have d1 : (frameB b ++ r).drop (2 + (numB b.length).length) = b ++ (crcB b ++ r) := by
    rw [eA, show (167 :: 1 :: (numB b.length ++ (b ++ (crcB b ++ r))) : List UInt8) = ([167, 1] ++ numB b.length) ++ (b ++ (crcB b ++ r)) by simp]
    exact drop_len (by simp; omega)
  have g : ∀ i, i < 2 → (frameB b ++ r).getD (2 + (numB b.length).length + b.length + i) 0 = (crcB b).getD i 0 := by
    intro i hi
    rw [eA, show (167 :: 1 :: (numB b.length ++ (b ++ (crcB b ++ r))) : List UInt8) = ([167, 1] ++ numB b.length ++ b) ++ (crcB b ++ r) by simp]
    have hlen : ([167, 1] ++ numB b.length ++ b : List UInt8).length = 2 + (numB b.length).length + b.length := by simp; omega
    rw [getD_app (by omega), hlen]
    unfold List.getD
    rw [List.getElem?_append_left (by rw [hc]; omega), show 2 + (numB b.length).length + b.length + i - (2 + (numB b.length).length + b.length) = i by omega]
  have h0 : (frameB b ++ r).getD 0 0 = 167 := by rw [eA]; rfl
  have h1 : (frameB b ++ r).getD 1 0 = 1 := by rw [eA]; rfl
  have h2 : (frameB b ++ r).drop 2 = numB b.length ++ (b ++ (crcB b ++ r)) := by rw [eA]; rfl
  unfold decD
  rw [if_neg (by omega), h0, if_neg (by decide), if_neg (by omega), h1, if_neg (by decide)]
  unfold decM
  rw [h2, numD_top (by omega) hb]
  simp only
  unfold decN
  rw [if_neg (by omega), d1, List.take_left' rfl, if_neg, hF]
  · simp only
    rw [el]
  · have g0 := g 0 (by omega)
    have g1 := g 1 (by omega)
    rw [Nat.add_zero] at g0
    rw [g0, g1]
    simp [crcB]
theorem numD_back_top {lim z n : Nat} {l : List UInt8} (h : numD lim 0 0 l = .done z n) : l.take n = numB z ∧ n ≤ l.length ∧ z ≤ lim := by
  obtain ⟨y, h1, h2, -⟩ := numD_back lim l 0 0 z n h
  obtain ⟨-, h4, h5⟩ := numD_len lim l 0 0 z n h
  have hz : z = y := by omega
  subst hz
  exact ⟨h2, by omega, h5⟩
theorem take_two {l : List UInt8} (h : 2 ≤ l.length) : l.take 2 = [l.getD 0 0, l.getD 1 0] := by
  cases l with
  | nil => simp at h
  | cons a l =>
    cases l with
    | nil => simp at h
    | cons b l => rfl
/-- what is taken is a frame -/
theorem decD_back {l : List UInt8} {ns : List Int} {tp rp : ByteArray} {t : Dv} {k : Nat} (h : decD l = .ok (ns, tp, rp, t) k) :
    k ≤ l.length ∧ l.take k = frameB (bodyB ns tp rp t) ∧ MsgR ns tp rp t ∧ fitB ns tp rp = true ∧ (bodyB ns tp rp t).length ≤ 16777216 := by
  unfold decD at h
  split at h
  · cases h
  rename_i h0
  split at h
  · cases h
  rename_i h1
  split at h
  · cases h
  rename_i h2
  split at h
  · cases h
  rename_i h3
  unfold decM at h
  split at h
  · cases h
  · cases h
  rename_i n u hn
  obtain ⟨n1, n2, n3⟩ := numD_back_top hn
  rw [List.length_drop] at n2
  unfold decN at h
  split at h
  · cases h
  rename_i h4
  split at h
  · cases h
  rename_i h5
  split at h
  · cases h
  rename_i x hx
  injection h with y1 y2
  subst y1; subst y2
  have hx2 := msgF_iff.2 hx
  obtain ⟨m1, m2⟩ := hx2
  obtain ⟨m3, m4, m5⟩ := msgD_back m1
  rw [List.take_length] at m3
  have hlen : ((l.drop (2 + u)).take n).length = n := by rw [List.length_take, List.length_drop]; omega
  have hl : (bodyB ns tp rp t).length = n := by rw [← m3, hlen]
  refine ⟨by omega, ?_, m5, m2, by omega⟩
  have h5' : crcB ((l.drop (2 + u)).take n) = [l.getD (2 + u + n) 0, l.getD (2 + u + n + 1) 0] := by
    rcases Classical.em (crcB ((l.drop (2 + u)).take n) = [l.getD (2 + u + n) 0, l.getD (2 + u + n + 1) 0]) with h | h
    · exact h
    · exact absurd h h5
  unfold frameB
  rw [if_neg (by omega), ← m3, h5', hlen]
  have e1 : l.take 2 = [167, 1] := by
    rw [take_two (by omega)]
    congr 1
    · apply UInt8.toNat_inj.1; rcases Classical.em ((l.getD 0 0).toNat = 167) with h | h; exact h; exact absurd h h1
    · congr 1
      apply UInt8.toNat_inj.1; rcases Classical.em ((l.getD 1 0).toNat = 1) with h | h; exact h; exact absurd h h3
  have e2 : (l.drop (2 + u + n)).take 2 = [l.getD (2 + u + n) 0, l.getD (2 + u + n + 1) 0] := by
    rw [take_two (by rw [List.length_drop]; omega)]
    unfold List.getD
    rw [List.getElem?_drop, List.getElem?_drop, Nat.add_zero]
  rw [← e2, show 2 + u + n + 2 = 2 + (u + (n + 2)) by omega, List.take_add, e1, List.take_add, n1, List.take_add, List.drop_drop, List.drop_drop]
  rw [show 2 + u + n = 2 + (u + n) by omega]
  simp only [List.append_assoc]

theorem xor_swap (a b c d : BitVec 16) : (a ^^^ b) ^^^ (c ^^^ d) = (a ^^^ c) ^^^ (b ^^^ d) := by ac_rfl
theorem stepC_lin (a b : BitVec 16) : stepC (a ^^^ b) = stepC a ^^^ stepC b := by
  unfold stepC
  rw [BitVec.msb_xor, BitVec.shiftLeft_xor_distrib]
  cases a.msb <;> cases b.msb <;> simp
  · ac_rfl
  · ac_rfl
  · rw [xor_swap]; simp
theorem stepN_lin (a b : BitVec 16) : ∀ n, stepN n (a ^^^ b) = stepN n a ^^^ stepN n b
  | 0 => rfl
  | n + 1 => by
    show stepC (stepN n (a ^^^ b)) = stepC (stepN n a) ^^^ stepC (stepN n b)
    rw [stepN_lin a b n, stepC_lin]
theorem stepC_zero : stepC 0#16 = 0#16 := by decide
theorem stepN_zero : ∀ n, stepN n 0#16 = 0#16
  | 0 => rfl
  | n + 1 => by
    show stepC (stepN n 0#16) = _
    rw [stepN_zero n, stepC_zero]
theorem stepN_add (c : BitVec 16) (a : Nat) : ∀ b, stepN (b + a) c = stepN b (stepN a c)
  | 0 => by rw [Nat.zero_add]; rfl
  | b + 1 => by
    rw [show b + 1 + a = (b + a) + 1 by omega]
    show stepC (stepN (b + a) c) = stepC (stepN b (stepN a c))
    rw [stepN_add c a b]
theorem stepC_inj {a : BitVec 16} (h : stepC a = 0#16) : a = 0#16 := by
  unfold stepC at h
  cases hm : a.msb with
  | true =>
    rw [hm, if_pos rfl] at h
    have h0 := congrArg (fun z : BitVec 16 => z.getLsbD 0) h
    simp at h0
  | false =>
    rw [hm, if_neg (by decide)] at h
    apply BitVec.eq_of_getLsbD_eq
    intro i hi
    rcases Nat.lt_or_ge i 15 with h1 | h1
    · have h0 := congrArg (fun z : BitVec 16 => z.getLsbD (i + 1)) h
      simp only [BitVec.getLsbD_shiftLeft, BitVec.getLsbD_zero] at h0
      rw [BitVec.getLsbD_zero]
      have e1 : decide (i + 1 < 16) = true := decide_eq_true (by omega)
      have e2 : decide (i + 1 < 1) = false := decide_eq_false (by omega)
      rw [e1, e2] at h0
      simpa using h0
    · have : i = 15 := by omega
      subst this
      rw [BitVec.msb_eq_getLsbD_last] at hm
      rw [BitVec.getLsbD_zero]
      exact hm
theorem stepN_inj {a : BitVec 16} : ∀ n, stepN n a = 0#16 → a = 0#16
  | 0, h => h
  | n + 1, h => stepN_inj n (stepC_inj h)
/-- one bit, so far from the top -/
def bitE (r : Nat) : BitVec 16 := 0x8000#16 >>> r
theorem stepC_bitE : ∀ r, r < 15 → stepC (bitE (r + 1)) = bitE r := by decide
theorem stepN_bitE (M : Nat) : ∀ i, i ≤ 15 → stepN (M + i) (bitE i) = stepN M (bitE 0)
  | 0, _ => rfl
  | i + 1, h => by
    have h1 := stepN_add (bitE (i + 1)) 1 (M + i)
    rw [show M + (i + 1) = M + i + 1 by omega, h1]
    show stepN (M + i) (stepC (bitE (i + 1))) = _
    rw [stepC_bitE i (by omega), stepN_bitE M i (by omega)]
theorem foldl_crc (d : BitVec 16) (l : List UInt8) (a : BitVec 16) : l.foldl crc1 (a ^^^ d) = l.foldl crc1 a ^^^ stepN (8 * l.length) d := by
  induction l generalizing a d with
  | nil => rfl
  | cons x l ih =>
    have e : crc1 (a ^^^ d) x = crc1 a x ^^^ stepN 8 d := by
      rw [crc1_eq, crc1_eq, ← stepN_lin]
      congr 1
      ac_rfl
    show l.foldl crc1 (crc1 (a ^^^ d) x) = l.foldl crc1 (crc1 a x) ^^^ _
    rw [e, ih, List.length_cons, show 8 * (l.length + 1) = 8 * l.length + 8 by omega, stepN_add]
/-- one bit turned, counted from the top of the first byte -/
def flipB (l : List UInt8) (j : Nat) : List UInt8 := l.set (j / 8) (l.getD (j / 8) 0 ^^^ UInt8.ofNat (128 / 2 ^ (j % 8)))
theorem flipB_len (l : List UInt8) (j : Nat) : (flipB l j).length = l.length := by unfold flipB; rw [List.length_set]
theorem byte_bitE : ∀ r, r < 8 → BitVec.ofNat 16 (UInt8.ofNat (128 / 2 ^ r)).toNat <<< 8 = bitE r := by decide
theorem ofNat_xor16 (x y : UInt8) : BitVec.ofNat 16 (x ^^^ y).toNat = BitVec.ofNat 16 x.toNat ^^^ BitVec.ofNat 16 y.toNat := by
  rw [UInt8.toNat_xor, BitVec.ofNat_xor]
theorem crc_flip {l : List UInt8} {j : Nat} (hj : j < 8 * l.length) : crc (flipB l j) = crc l ^^^ stepN (8 * l.length - j) (bitE 0) := by
  have hk : j / 8 < l.length := by omega
  have e1 : flipB l j = l.take (j / 8) ++ (l.getD (j / 8) 0 ^^^ UInt8.ofNat (128 / 2 ^ (j % 8))) :: l.drop (j / 8 + 1) := by
    unfold flipB
    rw [List.set_eq_take_append_cons_drop, if_pos hk]
  have e2 : l = l.take (j / 8) ++ l.getD (j / 8) 0 :: l.drop (j / 8 + 1) := by
    have h := List.take_append_drop (j / 8) l
    have h2 : l.drop (j / 8) = l.getD (j / 8) 0 :: l.drop (j / 8 + 1) := by
      rw [List.drop_eq_getElem_cons hk]
      unfold List.getD
      rw [List.getElem?_eq_getElem hk]
      rfl
    rw [← h2]; exact h.symm
  have hl : 8 * l.length - j = (8 * (l.drop (j / 8 + 1)).length + (8 - j % 8)) := by rw [List.length_drop]; omega
  have e3 : crc l = (l.drop (j / 8 + 1)).foldl crc1 (crc1 ((l.take (j / 8)).foldl crc1 0xffff#16) (l.getD (j / 8) 0)) := by
    conv => lhs; rw [e2]
    unfold crc
    rw [List.foldl_append, List.foldl_cons]
  rw [e1, e3, hl]
  unfold crc
  rw [List.foldl_append, List.foldl_cons]
  obtain ⟨C, hC⟩ : ∃ C, (l.take (j / 8)).foldl crc1 0xffff#16 = C := ⟨_, rfl⟩
  rw [hC]
  have e4 : crc1 C (l.getD (j / 8) 0 ^^^ UInt8.ofNat (128 / 2 ^ (j % 8))) = crc1 C (l.getD (j / 8) 0) ^^^ stepN (8 - j % 8) (bitE 0) := by
    rw [crc1_eq, crc1_eq, ofNat_xor16, BitVec.shiftLeft_xor_distrib, byte_bitE _ (by omega), ← BitVec.xor_assoc, stepN_lin]
    congr 1
    have := stepN_bitE (8 - j % 8) (j % 8) (by omega)
    rw [show 8 - j % 8 + j % 8 = 8 by omega] at this
    exact this
  rw [e4, foldl_crc, stepN_add]
theorem step_low : ∀ y : Fin 256, stepN 8 (BitVec.ofNat 16 y.val) = BitVec.ofNat 16 y.val <<< 8 := by decide +kernel
theorem word_two (x y : Nat) (hy : y < 256) : BitVec.ofNat 16 x <<< 8 ^^^ BitVec.ofNat 16 y = BitVec.ofNat 16 (2 ^ 8 * x + y) := by
  apply BitVec.eq_of_getLsbD_eq
  intro i hi
  rw [BitVec.getLsbD_xor, BitVec.getLsbD_shiftLeft, BitVec.getLsbD_ofNat, BitVec.getLsbD_ofNat, BitVec.getLsbD_ofNat, Nat.testBit_two_pow_mul_add x (i := 8) hy]
  rw [decide_eq_true hi]
  by_cases h : i < 8
  · rw [decide_eq_true h, if_pos h]; simp
  · have h1 : y.testBit i = false := Nat.testBit_lt_two_pow (Nat.lt_of_lt_of_le hy (Nat.pow_le_pow_right (n := 2) (by omega) (show 8 ≤ i by omega)))
    rw [decide_eq_false h, if_neg h, h1, decide_eq_true (show i - 8 < 16 by omega)]; simp
/-- the sum that stands behind is the right one just if nothing is left -/
theorem crc_rest {b : List UInt8} {x y : UInt8} : crcB b = [x, y] ↔ crc (b ++ [x, y]) = 0#16 := by
  have e : crc (b ++ [x, y]) = stepN 16 (crc b ^^^ BitVec.ofNat 16 (2 ^ 8 * x.toNat + y.toNat)) := by
    unfold crc
    rw [List.foldl_append, List.foldl_cons, List.foldl_cons, List.foldl_nil, crc1_eq, crc1_eq]
    have hs := step_low ⟨y.toNat, y.toNat_lt⟩
    simp only at hs
    rw [← hs, ← stepN_lin, ← word_two _ _ y.toNat_lt, ← BitVec.xor_assoc, ← stepN_add]
  rw [e, crcB_eq]
  have hx := x.toNat_lt
  have hy := y.toNat_lt
  constructor
  · intro ⟨h1, h2⟩
    have h3 : BitVec.ofNat 16 (2 ^ 8 * x.toNat + y.toNat) = crc b := by
      apply BitVec.eq_of_toNat_eq
      rw [BitVec.toNat_ofNat]
      omega
    rw [h3, BitVec.xor_self, stepN_zero]
  · intro h
    have h1 := stepN_inj 16 h
    have h2 : crc b = BitVec.ofNat 16 (2 ^ 8 * x.toNat + y.toNat) := by
      have h3 := congrArg (fun z => z ^^^ BitVec.ofNat 16 (2 ^ 8 * x.toNat + y.toNat)) h1
      simp only [BitVec.xor_assoc, BitVec.xor_self, BitVec.xor_zero, BitVec.zero_xor] at h3
      exact h3
    have h3 := congrArg BitVec.toNat h2
    rw [BitVec.toNat_ofNat] at h3
    omega
/-- the bits that were turned -/
def burst (B : Nat → Bool) : Nat → BitVec 16
  | 0 => 0#16
  | n + 1 => burst B n ^^^ (if B n then bitE n else 0#16)
theorem bitE_bit : ∀ r, r < 16 → ∀ i, i < 16 → (bitE r).getLsbD (15 - i) = decide (i = r) := by decide
theorem burst_bit (B : Nat → Bool) : ∀ n, n ≤ 16 → ∀ i, i < 16 → (burst B n).getLsbD (15 - i) = (decide (i < n) && B i)
  | 0, _, i, _ => by simp [burst]
  | n + 1, hn, i, hi => by
    have ih := burst_bit B n (by omega) i hi
    unfold burst
    rw [BitVec.getLsbD_xor, ih]
    by_cases hB : B n = true
    · rw [if_pos hB, bitE_bit n (by omega) i hi]
      by_cases h1 : i = n
      · subst h1; simp [hB]
      · rw [decide_eq_false h1]
        by_cases h2 : i < n
        · rw [decide_eq_true h2, decide_eq_true (show i < n + 1 by omega)]; simp
        · rw [decide_eq_false h2, decide_eq_false (show ¬ i < n + 1 by omega)]; simp
    · rw [if_neg hB, BitVec.getLsbD_zero]
      by_cases h1 : i = n
      · subst h1; simp [hB]
      · by_cases h2 : i < n
        · rw [decide_eq_true h2, decide_eq_true (show i < n + 1 by omega)]; simp
        · rw [decide_eq_false h2, decide_eq_false (show ¬ i < n + 1 by omega)]; simp
def anyB (B : Nat → Bool) : Nat → Bool
  | 0 => false
  | n + 1 => anyB B n || B n
theorem anyB_iff (B : Nat → Bool) : ∀ n, anyB B n = true ↔ ∃ i, i < n ∧ B i = true
  | 0 => by simp [anyB]
  | n + 1 => by
    unfold anyB
    rw [Bool.or_eq_true, anyB_iff B n]
    constructor
    · rintro (⟨i, h1, h2⟩ | h)
      · exact ⟨i, by omega, h2⟩
      · exact ⟨n, by omega, h⟩
    · rintro ⟨i, h1, h2⟩
      by_cases h : i = n
      · exact .inr (h ▸ h2)
      · exact .inl ⟨i, by omega, h2⟩
theorem burst_any (B : Nat → Bool) (n : Nat) (hn : n ≤ 16) : burst B n = 0#16 ↔ anyB B n = false := by
  constructor
  · intro h
    cases ha : anyB B n with
    | false => rfl
    | true =>
      obtain ⟨i, h1, h2⟩ := (anyB_iff B n).1 ha
      have hb := burst_bit B n hn i (by omega)
      rw [h, BitVec.getLsbD_zero, h2, decide_eq_true h1] at hb
      cases hb
  · intro h
    apply BitVec.eq_of_getLsbD_eq
    intro i hi
    have hb := burst_bit B n hn (15 - i) (by omega)
    rw [show 15 - (15 - i) = i by omega] at hb
    rw [hb, BitVec.getLsbD_zero]
    cases hd : (decide (15 - i < n) && B (15 - i)) with
    | false => rfl
    | true =>
      rw [Bool.and_eq_true, decide_eq_true_eq] at hd
      rw [(anyB_iff B n).2 ⟨15 - i, hd⟩] at h
      cases h
/-- so many bits turned, one behind the other -/
def spoil (l : List UInt8) (at_ : Nat) (B : Nat → Bool) : Nat → List UInt8
  | 0 => l
  | n + 1 => if B n then flipB (spoil l at_ B n) (at_ + n) else spoil l at_ B n
theorem spoil_len (l : List UInt8) (at_ : Nat) (B : Nat → Bool) : ∀ n, (spoil l at_ B n).length = l.length
  | 0 => rfl
  | n + 1 => by
    unfold spoil
    split
    · rw [flipB_len, spoil_len l at_ B n]
    · exact spoil_len l at_ B n
theorem crc_spoil {l : List UInt8} {at_ : Nat} (B : Nat → Bool) (hat : at_ < 8 * l.length) : ∀ n, n ≤ 16 → at_ + n ≤ 8 * l.length → crc (spoil l at_ B n) = crc l ^^^ stepN (8 * l.length - at_) (burst B n)
  | 0, _, _ => by rw [burst, stepN_zero, BitVec.xor_zero]; rfl
  | n + 1, h1, h2 => by
    have ih := crc_spoil B hat n (by omega) (by omega)
    unfold spoil burst
    by_cases hB : B n = true
    · rw [if_pos hB, if_pos hB, crc_flip (by rw [spoil_len]; omega), ih, spoil_len, stepN_lin, BitVec.xor_assoc]
      congr 2
      have h3 := stepN_bitE (8 * l.length - (at_ + n)) n (by omega)
      rw [show 8 * l.length - (at_ + n) + n = 8 * l.length - at_ by omega] at h3
      exact h3.symm
    · rw [if_neg hB, if_neg hB, BitVec.xor_zero]; exact ih

theorem frameB_cons {b : List UInt8} (hb : b.length ≤ 16777216) : frameB b = 167 :: 1 :: (numB b.length ++ (b ++ crcB b)) := by
  unfold frameB
  rw [if_neg (by omega)]
  simp only [List.append_assoc, List.cons_append, List.nil_append]
theorem decD_head {l : List UInt8} (h : 2 ≤ l.length) (h0 : l.getD 0 0 = 167) (h1 : l.getD 1 0 = 1) : decD l = decM l := by
  unfold decD
  rw [if_neg (by omega), h0, if_neg (by decide), if_neg (by omega), h1, if_neg (by decide)]
theorem numD_cut_top {y c : Nat} (hy : y ≤ 16777216) (hc : c < (numB y).length) : numD 16777216 0 0 ((numB y).take c) = .short := by
  have := numD_cut 16777216 (by omega) y 0 0 c (by omega) (.inl rfl) hc
  exact this
/-- a frame that is cut off -/
theorem decD_cut {b : List UInt8} (hb : b.length ≤ 16777216) {c : Nat} (hc : c < (frameB b).length) : decD ((frameB b).take c) = .err 260 := by
  have hcl : (crcB b).length = 2 := rfl
  rw [frameB_cons hb] at hc ⊢
  rcases c with _ | _ | c
  · rfl
  · rfl
  simp only [List.length_cons, List.length_append] at hc
  simp only [List.take_succ_cons]
  have hd : ((167 :: 1 :: ((numB b.length ++ (b ++ crcB b)).take c)) : List UInt8).drop 2 = (numB b.length ++ (b ++ crcB b)).take c := rfl
  rw [decD_head (by simp) rfl rfl]
  unfold decM
  rw [hd]
  by_cases h : c < (numB b.length).length
  · rw [List.take_append_of_le_length (by omega), numD_cut_top hb h]
  · rw [List.take_append, List.take_of_length_le (by omega), numD_top (by omega) hb]
    simp only
    unfold decN
    rw [if_pos]
    simp only [List.length_cons, List.length_append, List.length_take]
    omega
/-- a body with another sum -/
theorem decD_spoilt {n : Nat} (hn : n ≤ 16777216) {tl : List UInt8} (ht : tl.length = n + 2) (hc : crc tl ≠ 0#16) : decD ([167, 1] ++ numB n ++ tl) = .err 261 := by
  have e : ([167, 1] ++ numB n ++ tl : List UInt8) = 167 :: 1 :: (numB n ++ tl) := by simp
  rw [e, decD_head (by simp) rfl rfl]
  unfold decM
  have hd : (167 :: 1 :: (numB n ++ tl) : List UInt8).drop 2 = numB n ++ tl := rfl
  rw [hd, numD_top (by omega) hn]
  simp only
  unfold decN
  have hlen : (167 :: 1 :: (numB n ++ tl) : List UInt8).length = 2 + (numB n).length + n + 2 := by simp only [List.length_cons, List.length_append]; omega
  have hd2 : (167 :: 1 :: (numB n ++ tl) : List UInt8).drop (2 + (numB n).length) = tl := by
    rw [← e]; exact drop_len (by simp; omega)
  have g : ∀ i, (167 :: 1 :: (numB n ++ tl) : List UInt8).getD (2 + (numB n).length + n + i) 0 = tl.getD (n + i) 0 := by
    intro i
    have hl2 : ([167, 1] ++ numB n : List UInt8).length = 2 + (numB n).length := by simp; omega
    rw [← e, getD_app (by omega), hl2]
    congr 1
    omega
  rw [if_neg (by omega), hd2, if_pos]
  intro hcr
  apply hc
  have g0 := g 0
  rw [Nat.add_zero, Nat.add_zero] at g0
  rw [g0, g 1] at hcr
  have h2 := crc_rest.1 hcr
  have e3 : tl.take n ++ [tl.getD n 0, tl.getD (n + 1) 0] = tl := by
    have h3 : tl.drop n = [tl.getD n 0, tl.getD (n + 1) 0] := by
      have h4 := take_two (l := tl.drop n) (by rw [List.length_drop]; omega)
      rw [List.take_of_length_le (by rw [List.length_drop]; omega)] at h4
      rw [h4]
      unfold List.getD
      rw [List.getElem?_drop, List.getElem?_drop, Nat.add_zero]
    rw [← h3, List.take_append_drop]
  rw [e3] at h2
  exact h2
theorem spoil_none (l : List UInt8) (at_ : Nat) (B : Nat → Bool) : ∀ n, anyB B n = false → spoil l at_ B n = l
  | 0, _ => rfl
  | n + 1, h => by
    unfold anyB at h
    rw [Bool.or_eq_false_iff] at h
    unfold spoil
    rw [h.2, if_neg (by decide)]
    exact spoil_none l at_ B n h.1
/-- what is answered of a frame whose tail has some bits turned -/
theorem decD_turned {ns : List Int} {tp rp : ByteArray} {t : Dv} (hm : MsgR ns tp rp t) (hf : fitB ns tp rp = true) (hb : (bodyB ns tp rp t).length ≤ 16777216) (at_ : Nat) (B : Nat → Bool) (n : Nat) (hat : at_ < 8 * ((bodyB ns tp rp t).length + 2)) (hn : n ≤ 16) (han : at_ + n ≤ 8 * ((bodyB ns tp rp t).length + 2)) :
    decD ([167, 1] ++ numB (bodyB ns tp rp t).length ++ spoil (bodyB ns tp rp t ++ crcB (bodyB ns tp rp t)) at_ B n) = if anyB B n then .err 261 else .ok (ns, tp, rp, t) (frameB (bodyB ns tp rp t)).length := by
  have hfr := decD_frame hm hf hb []
  rw [List.append_nil] at hfr
  obtain ⟨b, hbe⟩ : ∃ b, bodyB ns tp rp t = b := ⟨_, rfl⟩
  rw [hbe] at hb hfr hat han ⊢
  have hl : (b ++ crcB b).length = b.length + 2 := by rw [List.length_append]; rfl
  cases ha : anyB B n with
  | false =>
    rw [if_neg (by decide), spoil_none _ _ _ _ ha]
    rw [show [167, 1] ++ numB b.length ++ (b ++ crcB b) = frameB b by rw [frameB_cons hb]; simp]
    exact hfr
  | true =>
    rw [if_pos rfl]
    refine decD_spoilt hb (by rw [spoil_len, hl]) ?_
    rw [crc_spoil B (by rw [hl]; exact hat) n hn (by rw [hl]; exact han), show crc (b ++ crcB b) = 0#16 from crc_rest.1 (rfl : crcB b = [UInt8.ofNat ((crc b).toNat / 256), UInt8.ofNat ((crc b).toNat % 256)]), BitVec.zero_xor]
    intro h
    have := (burst_any B n hn).1 (stepN_inj _ h)
    rw [ha] at this
    cases this
end Go.Proofs.YtmncpbfghabamaaDoor
