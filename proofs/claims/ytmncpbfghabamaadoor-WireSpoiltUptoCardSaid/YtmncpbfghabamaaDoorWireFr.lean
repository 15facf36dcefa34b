/- WIRE: the laws' copied; Same of two zero values. WIRE: the laws' framed; SameMsg of two that are the same; two readings of a frame. -/
import Derived.Test.YtmncpbfghabamaaDoorWireSame
import Derived.Test.YtmncpbfghabamaaDoorWireREnc
import Derived.Test.YtmncpbfghabamaaDoorWireQC
namespace Go.Proofs.YtmncpbfghabamaaDoor
open Go Go.RowKit
attribute [local go_sem ↓] Go.wp_at_zero Go.wp_at_succ

set_option maxRecDepth 100000 in
set_option maxHeartbeats 2000000 in
theorem copied_any (l : List UInt8) (p : Option Addr) (n cap : Nat) (w : World) (hB : Bs w (.slice p n cap) l) (hl : l.length ≤ 100000000) :
    Calls Tryd.prog 13 #[.slice p n cap] w (BPost l w) := by
  obtain rfl : n = l.length := hB.len.1
  obtain ⟨PP, hPP⟩ : ∃ PP, BPost l w = PP := ⟨_, rfl⟩
  rw [hPP]
  have HPP := Lib.hid hPP
  have HB := Lib.hid hB
  have HL := Lib.hid hl
  clear hPP hB hl
  go_enter Tryd.func13, Tryd.ntmps13
  go_wp2_with (at_builtin; refine wpList_append_bytes _ rfl (.tmp 4) (.tmp 5) rfl w.heap.size (.slice none 0 0) [] rfl (World.ownsRow_nil _ _ _ _) p cap l rfl HB.out (by have := HL.out; simp; omega) (Nat.le_refl _) ?_; intro v' w1 hown' hgrow; obtain ⟨q', n', c', rfl⟩ := row_val hown')
  rw [← HPP.out]
  exact ⟨_, rfl, hown', ⟨hgrow.os, hgrow.tape, hgrow.output, hgrow.size, fun k hk => hgrow.block k hk (fun e => by simp [Value.ownBlock] at e)⟩⟩
set_option maxRecDepth 100000 in
theorem same_zero (w : World) (p p2 : Option Addr) (c c2 : Nat) :
    Calls Tryd.prog 16 #[.agg #[.int .i64 0, .int .i64 0, .int .u64 0, .string ⟨#[]⟩, .slice p 0 c], .agg #[.int .i64 0, .int .i64 0, .int .u64 0, .string ⟨#[]⟩, .slice p2 0 c2]] w (FtPost w) := by
  obtain ⟨PP, hPP⟩ : ∃ PP, FtPost w = PP := ⟨_, rfl⟩
  rw [hPP]
  have HPP := Lib.hid hPP
  clear hPP
  go_enter Tryd.func16, Tryd.ntmps16
  go_wp2_with fail
  go_loopw [5, 44] (fun s5 s44 wr => s44 = .int .i64 0 ∧ Below w.heap.size w wr) (fun _ _ _ => 0)
  case atStart => exact ⟨rfl, ((Below.refl _ _).alloc (Nat.le_refl _) _).alloc (by simp) _⟩
  case round =>
    obtain ⟨rfl, hb⟩ := hrel
    have HB := Lib.hid hb
    clear hb
    go_wp2_with fail
    rw [← HPP.out]
    exact ⟨rfl, HB.out⟩

def frF (l : List UInt8) (forged : Bool) : List UInt8 := if forged then [167, 1] ++ numB l.length ++ l ++ crcB l else l
theorem frF_len {l : List UInt8} {b : Bool} (hl : l.length ≤ 50000000) : (frF l b).length ≤ l.length + 14 := by
  have h := numB_ten (show l.length < 18446744073709551616 by omega)
  unfold frF
  split
  · simp only [List.length_append]
    have h2 : (crcB l).length = 2 := rfl
    have h3 : ([167, 1] : List UInt8).length = 2 := rfl
    omega
  · omega
set_option maxRecDepth 100000 in
set_option maxHeartbeats 4000000 in
theorem framed_any (BB : List UInt8) (q : Option Addr) (N c : Nat) (b : Bool) (w : World) (hB : Bs w (.slice q N c) BB) (hl : BB.length ≤ 50000000) :
    Calls Tryd.prog 21 #[.slice q N c, .bool b] w (BPost (frF BB b) w) := by
  obtain ⟨PP, hPP⟩ : ∃ PP, BPost (frF BB b) w = PP := ⟨_, rfl⟩
  rw [hPP]
  have HPP := Lib.hid hPP
  have HN : Hid (BB.length = N) := hB.len.1.symm
  have HB := Lib.hid hB
  have hl1 : N ≤ 50000000 := by have := HN.out; omega
  cases b with
  | false =>
    have CC := Lib.hid (copied_any BB q N c w hB (by omega))
    clear hPP hB hl
    go_enter Tryd.func21, Tryd.ntmps21
    go_wp2_with fail
    refine CC.out.mono ?_
    rintro e W ⟨v, rfl, h1, h2⟩
    go_wp2_with fail
    rw [← HPP.out]
    exact ⟨_, rfl, h1, h2⟩
  | true =>
    have RP : Hid (Row (w.alloc (.cells #[.int .u8 167, .int .u8 1] 5)) w.heap.size (.slice (some ⟨w.heap.size, 0, none⟩) 2 2) [167, 1]) := row_two (x := 167) (y := 1) (Nat.le_refl _) rfl rfl
    have BP : Hid (Below w.heap.size w (w.alloc (.cells #[.int .u8 167, .int .u8 1] 5))) := (Below.refl _ _).alloc (Nat.le_refl _) _
    have hwN : IntKind.u64.wrap (N : Int) = (N : Int) := by rw [wrap64u]; omega
    clear hPP hB hl
    go_enter Tryd.func21, Tryd.ntmps21
    go_wp2_with fail
    refine (refNumber_any w.heap.size (.slice (some ⟨w.heap.size, 0, none⟩) 2 2) [167, 1] N _ RP.out (by simp) (by omega) (by simp)).mono ?_
    rintro e W4 ⟨v5, rfl, g1, g2⟩
    have b4 : Below w.heap.size w W4 := g2.below BP.out (by simp) (fun k e => by cases e) (fun k e => by simp [Value.ownBlock] at e; omega)
    have V5 : Hid (∀ k, v5.ownBlock = some k → w.heap.size ≤ k) := fun k hk => by
      rcases g2.at_ with h | h
      · rw [hk] at h; simp [Value.ownBlock] at h; omega
      · have := h k hk; simp at this; omega
    obtain ⟨LL, hLL⟩ : ∃ LL, ([167, 1] : List UInt8) ++ numB N = LL := ⟨_, rfl⟩
    have hn10 := numB_ten (show N < 18446744073709551616 by omega)
    have hl12 : LL.length ≤ 12 := by rw [← hLL, List.length_append]; simp; omega
    rw [hLL] at g1
    have HLL := Lib.hid hLL
    have R5 := Lib.hid g1
    have B4 := Lib.hid b4
    have hs4 : w.heap.size ≤ W4.heap.size := b4.size
    have HB4 : Hid (Bs W4 (.slice q N c) BB) := HB.out.below b4
    clear g1 g2 b4 hLL hn10
    have HB4' : Hid (Bs W4 (.slice q BB.length c) BB) := by have h := HB4.out; rw [← HN.out] at h; exact h
    go_wp2_with (at_builtin; refine wpList_append_bytes _ rfl (.tmp 16) (.tmp 17) rfl w.heap.size v5 LL rfl R5.out q c BB (by rw [HN.out]; rfl) HB4'.out (by rw [HN.out]; omega) hs4 ?_; intro v6 W6 hrow6 hg6; obtain ⟨q6, m6, c6, rfl⟩ := row_val hrow6; have HM6 := Lib.hid ((bs_of_own hrow6).len).1; have T6 : Hid (W6.ownsRow w.heap.size 5 1 (.slice q6 m6 c6) m6 ((LL ++ BB).map bv)) := (by have h := hrow6; unfold Row at h; rw [← HM6.out] at h; exact h); have B6 : Hid (Below w.heap.size w W6) := B4.out.trans ⟨hg6.os, hg6.tape, hg6.output, hg6.size, fun i hi => hg6.block i (Nat.lt_of_lt_of_le hi B4.out.size) (fun e => by have := V5.out i e.symm; omega)⟩; clear hrow6 hg6)
    have CS : Hid (Calls Tryd.prog 26 #[.slice q N c] W6 fun e w' => e = .returned (.int .u16 ((crc BB).toNat : Nat)) ∧ w' = W6) := by
      have h := refSum_any q c BB W6 (by have h := HB.out.below B6.out; rw [← HN.out] at h; exact h)
      rw [HN.out] at h
      exact h
    have hbs : w.heap.size ≤ W6.heap.size := B6.out.size
    go_wp2_with fail
    refine CS.out.mono ?_
    rintro e w7 ⟨rfl, rfl⟩
    obtain ⟨C, hC⟩ : ∃ C, (crc BB).toNat = C := ⟨_, rfl⟩
    have hC6 : C < 65536 := by rw [← hC]; exact (crc BB).isLt
    have HC := Lib.hid hC
    rw [hC]
    clear hC
    obtain ⟨i0, hi, hz0, hz1, hz2⟩ := info_parts info_u8
    have hll : m6 ≤ 100000000 := by rw [HM6.out, List.length_append, HN.out]; omega
    go_wp2_with (at_builtin; refine wpList_append_own_at _ rfl _ _ 26 rfl w.heap.size 5 i0 (.int .u8 0) 1 1 Tryd.underlying26 hi hz0 hz1 hz2 rfl (by decide) (.slice q6 m6 c6) m6 ((LL ++ BB).map bv) rfl (World.ownsRow.alloc T6.out _) ⟨w7.heap.size, 0, none⟩ 2 2 [.int .u8 ((C : Int) / 256), .int .u8 ((C : Int) % 256)] rfl rfl (World.news_of_block (heap_alloc_new w7 (.cells #[.int .u8 ((C : Int) / 256), .int .u8 ((C : Int) % 256)] 5))) (fun x hx => by simp at hx; rcases hx with rfl | rfl <;> rfl) (by unfold maxLen; omega) (by omega) (by simp; omega) ?_; intro v9 w9 hown9 hgrow9 _ hat9; obtain ⟨q9, n9, c9, rfl⟩ : ∃ q n c, v9 = .slice q n c := (by rcases hown9.2 with ⟨h, -⟩ | ⟨g, cap, cur, h, -⟩ <;> exact ⟨_, _, _, h⟩))
    rw [← HPP.out]
    have hrow9 : Row w9 w.heap.size (.slice q9 n9 c9) (LL ++ BB ++ crcB BB) := by
      refine row_app (m := crcB BB) (n := 2) ?_ rfl
      have e : (crcB BB).map bv = [.int .u8 ((C : Int) / 256), .int .u8 ((C : Int) % 256)] := by
        unfold crcB bv
        rw [HC.out]
        simp only [List.map_cons, List.map_nil]
        rw [byte_nat (by omega), byte_nat (by omega)]
        rfl
      rw [e, ← HM6.out]
      exact hown9
    refine ⟨_, rfl, ?_, ?_⟩
    · unfold frF
      rw [if_pos rfl, HN.out, HLL.out]
      exact hrow9
    · exact (B6.out.alloc hbs _).trans ⟨hgrow9.os, hgrow9.tape, hgrow9.output, hgrow9.size, fun k hk => hgrow9.block k (by simp; omega) (fun e => by have := (T6.out.lt k e.symm).1; omega)⟩
set_option maxRecDepth 100000 in
set_option maxHeartbeats 4000000 in
theorem sameMsg_any (w : World) (n0 n1 n2 n3 n4 n5 : Int) (tp rp : ByteArray) (kd di db : Int) (ds : ByteArray) (p1 p2 : Option Addr) (n c1 c2 : Nat)
    (HS : ∀ W, Below w.heap.size w W → Calls Tryd.prog 16 #[.agg #[.int .i64 kd, .int .i64 di, .int .u64 db, .string ds, .slice p1 n c1], .agg #[.int .i64 kd, .int .i64 di, .int .u64 db, .string ds, .slice p2 n c2]] W (FtPost W)) :
    Calls Tryd.prog 24 #[.agg #[.int .i64 n0, .string tp, .int .i64 kd, .int .i64 di, .int .u64 db, .string ds, .slice p1 n c1, .int .i64 n1, .int .i64 n2, .string rp, .int .i64 n3, .int .i64 n4, .int .i64 n5], .agg #[.int .i64 n0, .string tp, .int .i64 kd, .int .i64 di, .int .u64 db, .string ds, .slice p2 n c2, .int .i64 n1, .int .i64 n2, .string rp, .int .i64 n3, .int .i64 n4, .int .i64 n5]] w (FtPost w) := by
  obtain ⟨PP, hPP⟩ : ∃ PP, FtPost w = PP := ⟨_, rfl⟩
  rw [hPP]
  have HPP := Lib.hid hPP
  have HSS := Lib.hid HS
  have B2 : Hid (Below w.heap.size w ((w.alloc (.cells #[.int .i64 n0, .string tp, .int .i64 kd, .int .i64 di, .int .u64 db, .string ds, .slice p1 n c1, .int .i64 n1, .int .i64 n2, .string rp, .int .i64 n3, .int .i64 n4, .int .i64 n5] 39)).alloc (.cells #[.int .i64 n0, .string tp, .int .i64 kd, .int .i64 di, .int .u64 db, .string ds, .slice p2 n c2, .int .i64 n1, .int .i64 n2, .string rp, .int .i64 n3, .int .i64 n4, .int .i64 n5] 39))) := ((Below.refl _ _).alloc (Nat.le_refl _) _).alloc (by simp) _
  clear hPP HS
  go_enter Tryd.func24, Tryd.ntmps24
  go_wp2_with fail
  refine (HSS.out _ B2.out).mono ?_
  rintro e W ⟨rfl, hb⟩
  have HB := Lib.hid (B2.out.trans (hb.mono B2.out.size))
  clear hb
  go_wp2_with fail
  rw [← HPP.out]
  exact ⟨rfl, HB.out⟩
/-- two readings of the same frame -/
theorem dec_same {q : DRes} {P1 P2 : Nat → Prop} {A1 A2 : World} {n0 n1 n2 n3 n4 n5 x0 x1 x2 x3 x4 x5 kd1 di1 db1 kd2 di2 db2 k1 e1 k2 e2 : Int} {tp rp tq rq ds1 ds2 : ByteArray} {p1 p2 : Option Addr} {m1 c1 m2 c2 : Nat}
    (h1 : match (generalizing := false) q with
      | .err e' => k1 = 0 ∧ e1 = e' ∧ #[.int .i64 n0, .string tp, .int .i64 kd1, .int .i64 di1, .int .u64 db1, .string ds1, .slice p1 m1 c1, .int .i64 n1, .int .i64 n2, .string rp, .int .i64 n3, .int .i64 n4, .int .i64 n5] = (#[.int .i64 0, .string ⟨#[]⟩, .int .i64 0, .int .i64 0, .int .u64 0, .string ⟨#[]⟩, .slice none 0 0, .int .i64 0, .int .i64 0, .string ⟨#[]⟩, .int .i64 0, .int .i64 0, .int .i64 0] : Array Value)
      | .ok x m => k1 = (m : Nat) ∧ e1 = 0 ∧ x.1 = [n0, n1, n2, n3, n4, n5] ∧ x.2.1 = tp ∧ x.2.2.1 = rp ∧ DvIn P1 A1 16 [.int .i64 kd1, .int .i64 di1, .int .u64 db1, .string ds1, .slice p1 m1 c1] x.2.2.2)
    (h2 : match (generalizing := false) q with
      | .err e' => k2 = 0 ∧ e2 = e' ∧ #[.int .i64 x0, .string tq, .int .i64 kd2, .int .i64 di2, .int .u64 db2, .string ds2, .slice p2 m2 c2, .int .i64 x1, .int .i64 x2, .string rq, .int .i64 x3, .int .i64 x4, .int .i64 x5] = (#[.int .i64 0, .string ⟨#[]⟩, .int .i64 0, .int .i64 0, .int .u64 0, .string ⟨#[]⟩, .slice none 0 0, .int .i64 0, .int .i64 0, .string ⟨#[]⟩, .int .i64 0, .int .i64 0, .int .i64 0] : Array Value)
      | .ok x m => k2 = (m : Nat) ∧ e2 = 0 ∧ x.1 = [x0, x1, x2, x3, x4, x5] ∧ x.2.1 = tq ∧ x.2.2.1 = rq ∧ DvIn P2 A2 16 [.int .i64 kd2, .int .i64 di2, .int .u64 db2, .string ds2, .slice p2 m2 c2] x.2.2.2) :
    k1 = k2 ∧ e1 = e2 ∧ (n0 = x0 ∧ n1 = x1 ∧ n2 = x2 ∧ n3 = x3 ∧ n4 = x4 ∧ n5 = x5) ∧ (tp = tq ∧ rp = rq) ∧ kd1 = kd2 ∧ di1 = di2 ∧ db1 = db2 ∧ ds1 = ds2 ∧ m1 = m2 ∧ ((∃ ps, DvIn P1 A1 16 [.int .i64 kd1, .int .i64 di1, .int .u64 db1, .string ds1, .slice p1 m1 c1] (.mk kd1 di1 db1 ds1 ps) ∧ DvIn P2 A2 16 [.int .i64 kd2, .int .i64 di2, .int .u64 db2, .string ds2, .slice p2 m2 c2] (.mk kd1 di1 db1 ds1 ps)) ∨ (kd1 = 0 ∧ di1 = 0 ∧ db1 = 0 ∧ ds1 = ⟨#[]⟩ ∧ m1 = 0)) := by
  cases q with
  | ok x m =>
    obtain ⟨a1, a2, a3, a4, a5, a6⟩ := h1
    obtain ⟨b1, b2, b3, b4, b5, b6⟩ := h2
    obtain ⟨ps, hps⟩ := a6.mk
    obtain ⟨ps2, hps2⟩ := b6.mk
    rw [hps] at a6 b6 hps2
    injection hps2 with y0 y1 y2 y3 y4
    subst y0; subst y1; subst y2; subst y3; subst y4
    rw [a3] at b3
    simp only [List.cons.injEq, and_true] at b3
    exact ⟨a1.trans b1.symm, a2.trans b2.symm, b3, ⟨a4.symm.trans b4, a5.symm.trans b5⟩, rfl, rfl, rfl, rfl, by rw [a6.is.top.1, b6.is.top.1], .inl ⟨ps, a6, b6⟩⟩
  | err e' =>
    obtain ⟨a1, a2, a3⟩ := h1
    obtain ⟨b1, b2, b3⟩ := h2
    simp at a3 b3
    obtain ⟨rfl, rfl, rfl, rfl, rfl, rfl, ⟨rfl, rfl, rfl⟩, rfl, rfl, rfl, rfl, rfl, rfl⟩ := a3
    obtain ⟨rfl, rfl, rfl, rfl, rfl, rfl, ⟨rfl, rfl, rfl⟩, rfl, rfl, rfl, rfl, rfl, rfl⟩ := b3
    exact ⟨a1.trans b1.symm, a2.trans b2.symm, ⟨rfl, rfl, rfl, rfl, rfl, rfl⟩, ⟨rfl, rfl⟩, rfl, rfl, rfl, rfl, rfl, .inr ⟨rfl, rfl, rfl, rfl, rfl⟩⟩
end Go.Proofs.YtmncpbfghabamaaDoor
