/- WIRE: WireSpoilt walked. -/
import Derived.Test.YtmncpbfghabamaaDoorWireLawK
namespace Go.Proofs.YtmncpbfghabamaaDoor
open Go Go.RowKit
attribute [local go_sem ↓] Go.wp_at_zero Go.wp_at_succ

theorem cells3 {W : World} {b : Nat} {t : TypeId} {c0 c1 c2 : Value} (h : W.heap[b]? = some (.cells #[c0, c1, c2] t (0, 0))) :
    W.cell? ⟨b, 0, none⟩ = some c0 ∧ W.cell? ⟨b, 1, none⟩ = some c1 ∧ W.cell? ⟨b, 2, none⟩ = some c2 ∧ b < W.heap.size :=
  ⟨by rw [cell_of_row _ _ _ _ _ _ h]; rfl, by rw [cell_of_row _ _ _ _ _ _ h]; rfl, by rw [cell_of_row _ _ _ _ _ _ h]; rfl, (Array.getElem?_eq_some_iff.1 h).1⟩
theorem mod_nat (x : Int) (N : Nat) (h0 : 0 < N) (hN : N ≤ 1000000000) : ∃ c : Nat, wrap64 ((IntKind.u64.wrap x).tmod (N : Int)) = (c : Int) ∧ c < N := by
  have hnn : 0 ≤ IntKind.u64.wrap x := by rw [wrap64u]; omega
  rw [Int.tmod_eq_emod_of_nonneg hnn]
  have h1 := Int.emod_lt_of_pos (IntKind.u64.wrap x) (show (0 : Int) < (N : Int) by omega)
  have h2 := Int.emod_nonneg (IntKind.u64.wrap x) (show (N : Int) ≠ 0 by omega)
  refine ⟨(IntKind.u64.wrap x % (N : Int)).toNat, ?_, by omega⟩
  rw [Int.toNat_of_nonneg h2]
  unfold wrap64
  omega
theorem bit16 (n i : Nat) (h : (n : Int) < 65536) : (bits .and .u16 ((n : Int) / 2 ^ i) 1 == 1) = n.testBit i := by
  have hd : n / 2 ^ i < 65536 := Nat.lt_of_le_of_lt (Nat.div_le_self _ _) (by omega)
  have e : ((n : Nat) : Int) / 2 ^ i = ((n / 2 ^ i : Nat) : Int) := by simp
  have h := u16_and_nat (n / 2 ^ i) 1 hd (by omega)
  rw [show ((1 : Nat) : Int) = 1 from rfl] at h
  rw [e, h, Nat.and_one_is_mod, Nat.testBit_eq_decide_div_mod_eq]
  rw [Bool.eq_iff_iff, beq_iff_eq, decide_eq_true_eq]
  omega
theorem turn_cell (HL L : List UInt8) (j : Nat) (x : UInt8) (hx : L[j / 8]? = some x) : ((HL ++ L).map bv).set (HL.length + j / 8) (.int .u8 (bits .xor .u8 ((x.toNat : Nat) : Int) (128 / 2 ^ (j % 8)))) = (HL ++ flipB L j).map bv := by
  have h7 : 128 / 2 ^ (j % 8) < 256 := Nat.lt_of_le_of_lt (Nat.div_le_self _ _) (by omega)
  have e : Value.int .u8 (bits .xor .u8 ((x.toNat : Nat) : Int) (128 / 2 ^ (j % 8))) = bv (x ^^^ UInt8.ofNat (128 / 2 ^ (j % 8))) := by
    unfold bv
    have h1 : ((128 : Int) / 2 ^ (j % 8)) = ((128 / 2 ^ (j % 8) : Nat) : Int) := by simp
    rw [h1, u8_xor_nat _ _ x.toNat_lt h7, UInt8.toNat_xor, byte_nat h7]
  have hg : L.getD (j / 8) 0 = x := by unfold List.getD; rw [hx]; rfl
  unfold flipB
  rw [e, hg, ← List.map_set, List.set_append_right _ _ (by omega), show HL.length + j / 8 - HL.length = j / 8 by omega]
theorem numB_pos (x : Nat) : 1 ≤ (numB x).length := by
  by_cases h : x < 128
  · rw [numB_small h]; exact Nat.le_refl _
  · rw [numB_big h, List.length_cons]; omega
set_option linter.unusedSimpArgs false in
set_option maxRecDepth 100000 in
set_option maxHeartbeats 8000000 in
theorem wireSpoilt_any (w : World) (kM : Nat) (id at_ un co pr hp : Int) (tp rp : ByteArray) (md mi mb : Int) (ms : ByteArray) (mp : Option Addr) (mn mcap : Nat) (mps : List Dv) (hM : DvIs w kM [.int .i64 md, .int .i64 mi, .int .u64 mb, .string ms, .slice mp mn mcap] (.mk md mi mb ms mps)) (hi : ∀ x ∈ [id, at_, un, co, pr, hp], I64 x) (htp : tp.size ≤ 2000000) (hrp : rp.size ≤ 2000000) (hml : (enc (.mk md mi mb ms mps)).length ≤ 50000000)
    (ta tb tc : Int) (hta : I64 ta) (htb : 0 ≤ tb ∧ tb < 65536) (htc : I64 tc) (hT : Tabs w) :
    Calls Tryd.prog 8 #[.agg #[.int .i64 id, .string tp, .int .i64 md, .int .i64 mi, .int .u64 mb, .string ms, .slice mp mn mcap, .int .i64 at_, .int .i64 un, .string rp, .int .i64 co, .int .i64 pr, .int .i64 hp], .agg #[.int .i64 ta, .int .u16 tb, .int .i64 tc]] w (AwPost w) := by
  obtain rfl : mn = mps.length := hM.top.1
  obtain ⟨tbn, rfl⟩ : ∃ n : Nat, tb = (n : Int) := ⟨tb.toNat, by omega⟩
  obtain ⟨PP, hPP⟩ : ∃ PP, AwPost w = PP := ⟨_, rfl⟩
  rw [hPP]
  have HPP := Lib.hid hPP
  have HTB := Lib.hid hT
  have HM := Lib.hid hM
  have HII := Lib.hid hi
  obtain ⟨A, hA⟩ : ∃ A, (w.alloc (.cells #[.int .i64 id, .string tp, .int .i64 md, .int .i64 mi, .int .u64 mb, .string ms, .slice mp mps.length mcap, .int .i64 at_, .int .i64 un, .string rp, .int .i64 co, .int .i64 pr, .int .i64 hp] 39)).alloc (.cells #[.int .i64 ta, .int .u16 (tbn : Nat), .int .i64 tc] 54) = A := ⟨_, rfl⟩
  have HBA : Hid (Below w.heap.size w A) := by show Below _ _ _; rw [← hA]; exact ((Below.refl _ _).alloc (Nat.le_refl _) _).alloc (by simp) _
  have KM : Hid (A.heap[w.heap.size]? = some (.cells #[.int .i64 id, .string tp, .int .i64 md, .int .i64 mi, .int .u64 mb, .string ms, .slice mp mps.length mcap, .int .i64 at_, .int .i64 un, .string rp, .int .i64 co, .int .i64 pr, .int .i64 hp] 39 (0, 0))) := by show _ = _; rw [← hA, Below.heap_alloc _ _ _ (by simp)]; exact heap_alloc_new w _
  have KT : Hid (A.heap[w.heap.size + 1]? = some (.cells #[.int .i64 ta, .int .u16 (tbn : Nat), .int .i64 tc] 54 (0, 0))) := by
    show _ = _
    have h := heap_alloc_new (w.alloc (.cells #[.int .i64 id, .string tp, .int .i64 md, .int .i64 mi, .int .u64 mb, .string ms, .slice mp mps.length mcap, .int .i64 at_, .int .i64 un, .string rp, .int .i64 co, .int .i64 pr, .int .i64 hp] 39)) (.cells #[.int .i64 ta, .int .u16 (tbn : Nat), .int .i64 tc] 54)
    rw [World.size_alloc] at h
    rw [← hA]; exact h
  have HLM : Hid (w.heap.size < A.heap.size) := (Array.getElem?_eq_some_iff.1 KM.out).1
  have HLT : Hid (w.heap.size + 1 < A.heap.size) := (Array.getElem?_eq_some_iff.1 KT.out).1
  have CF : Hid (∀ W, Below w.heap.size w W → Calls Tryd.prog 18 #[.agg #[.int .i64 id, .string tp, .int .i64 md, .int .i64 mi, .int .u64 mb, .string ms, .slice mp mps.length mcap, .int .i64 at_, .int .i64 un, .string rp, .int .i64 co, .int .i64 pr, .int .i64 hp]] W (FmPost (FtX (.mk md mi mb ms mps) [id, at_, un, co, pr, hp] tp rp) W)) := fun W hb => fit26_any kM W id at_ un co pr hp tp rp md mi mb ms mp mps.length mcap mps (hM.below hb) (by omega) (by omega) (hT.below hb)
  have CE : Hid (∀ W, Below w.heap.size w W → Calls Tryd.prog 19 #[.agg #[.int .i64 id, .string tp, .int .i64 md, .int .i64 mi, .int .u64 mb, .string ms, .slice mp mps.length mcap, .int .i64 at_, .int .i64 un, .string rp, .int .i64 co, .int .i64 pr, .int .i64 hp]] W (BPost (frameB (bodyB [id, at_, un, co, pr, hp] tp rp (.mk md mi mb ms mps))) W)) := fun W hb => encode_any kM W id at_ un co pr hp tp rp md mi mb ms mp mps.length mcap mps (hM.below hb) hi htp hrp (by omega)
  have CR : Hid (∀ W, Below w.heap.size w W → Dv.Right (.mk md mi mb ms mps) → Calls Tryd.prog 20 #[.agg #[.int .i64 id, .string tp, .int .i64 md, .int .i64 mi, .int .u64 mb, .string ms, .slice mp mps.length mcap, .int .i64 at_, .int .i64 un, .string rp, .int .i64 co, .int .i64 pr, .int .i64 hp]] W (BPost (frameB (bodyB [id, at_, un, co, pr, hp] tp rp (.mk md mi mb ms mps))) W)) := fun W hb hr => refEncode_any kM W id at_ un co pr hp tp rp md mi mb ms mp mps.length mcap mps (hM.below hb) hr hi htp hrp (by omega)
  have CBD : Hid (∀ W, Below w.heap.size w W → Dv.Right (.mk md mi mb ms mps) → Calls Tryd.prog 27 #[.agg #[.int .i64 id, .string tp, .int .i64 md, .int .i64 mi, .int .u64 mb, .string ms, .slice mp mps.length mcap, .int .i64 at_, .int .i64 un, .string rp, .int .i64 co, .int .i64 pr, .int .i64 hp]] W (BPost (bodyB [id, at_, un, co, pr, hp] tp rp (.mk md mi mb ms mps)) W)) := fun W hb hr => refBody_any kM W id at_ un co pr hp tp rp md mi mb ms mp mps.length mcap mps (hM.below hb) hr hi htp hrp (by omega)
  have CA : Hid (∀ W, Below w.heap.size w W → Calls Tryd.prog 17 #[] W (AwPost W)) := fun W hb => awake_any W (hT.below hb)
  have HTA := Lib.hid hta
  have HTC := Lib.hid htc
  have HTBB := Lib.hid htb
  have HAA := Lib.hid hA
  clear hPP hT hM hA hi htp hrp hml hta htc htb
  go_enter Tryd.func8, Tryd.ntmps8
  go_upto_region 1 with fail
  rw [HAA.out]
  obtain ⟨c0, c1, c2, c3, c4, c5, c6, c7, c8, c9, c10, c11, c12, hl0⟩ := cells13 KM.out
  go_wp2_with fail
  refine (CF.out _ HBA.out).mono ?_
  rintro e W1 ⟨b, rfl, hiff, hb⟩
  have HB1 : Hid (Below A.heap.size A W1) := hb
  have HI := Lib.hid hiff
  have g0 := (hb.cell hl0).trans c0; have g1 := (hb.cell hl0).trans c1; have g2 := (hb.cell hl0).trans c2; have g3 := (hb.cell hl0).trans c3; have g4 := (hb.cell hl0).trans c4; have g5 := (hb.cell hl0).trans c5; have g6 := (hb.cell hl0).trans c6; have g7 := (hb.cell hl0).trans c7; have g8 := (hb.cell hl0).trans c8; have g9 := (hb.cell hl0).trans c9; have g10 := (hb.cell hl0).trans c10; have g11 := (hb.cell hl0).trans c11; have g12 := (hb.cell hl0).trans c12
  clear hb hiff c0 c1 c2 c3 c4 c5 c6 c7 c8 c9 c10 c11 c12 hl0
  cases b with
  | false =>
    clear g0 g1 g2 g3 g4 g5 g6 g7 g8 g9 g10 g11 g12
    go_wp2_with fail
    refine (CA.out _ (HBA.out.trans (HB1.out.mono HBA.out.size))).mono ?_
    rintro e W9 ⟨rfl, hb⟩
    have HB9 := Lib.hid ((HBA.out.trans (HB1.out.mono HBA.out.size)).trans (hb.mono (HBA.out.trans (HB1.out.mono HBA.out.size)).size))
    clear hb
    go_wp2_with fail
    rw [← HPP.out]
    exact ⟨rfl, HB9.out⟩
  | true =>
    have HFT := Lib.hid (HI.out.1 rfl)
    have HRI : Hid (Dv.Right (.mk md mi mb ms mps)) := fair_right kM _ _ HM.out HFT.out.1.2 HFT.out.1.1.1
    have HMR : Hid (MsgR [id, at_, un, co, pr, hp] tp rp (.mk md mi mb ms mps)) := fit_msgR HFT.out HII.out HRI.out
    obtain ⟨B, hB⟩ : ∃ B, (bodyB [id, at_, un, co, pr, hp] tp rp (.mk md mi mb ms mps)) = B := ⟨_, rfl⟩
    obtain ⟨FR, hFR⟩ : ∃ FR, frameB B = FR := ⟨_, rfl⟩
    have CE1 : Hid (∀ W, Below w.heap.size w W → Calls Tryd.prog 19 #[.agg #[.int .i64 id, .string tp, .int .i64 md, .int .i64 mi, .int .u64 mb, .string ms, .slice mp mps.length mcap, .int .i64 at_, .int .i64 un, .string rp, .int .i64 co, .int .i64 pr, .int .i64 hp]] W (BPost FR W)) := by show ∀ W, _; rw [← hFR, ← hB]; exact CE.out
    have CR1 : Hid (∀ W, Below w.heap.size w W → Calls Tryd.prog 20 #[.agg #[.int .i64 id, .string tp, .int .i64 md, .int .i64 mi, .int .u64 mb, .string ms, .slice mp mps.length mcap, .int .i64 at_, .int .i64 un, .string rp, .int .i64 co, .int .i64 pr, .int .i64 hp]] W (BPost FR W)) := by show ∀ W, _; rw [← hFR, ← hB]; exact fun W hb => CR.out W hb HRI.out
    have CB1 : Hid (∀ W, Below w.heap.size w W → Calls Tryd.prog 27 #[.agg #[.int .i64 id, .string tp, .int .i64 md, .int .i64 mi, .int .u64 mb, .string ms, .slice mp mps.length mcap, .int .i64 at_, .int .i64 un, .string rp, .int .i64 co, .int .i64 pr, .int .i64 hp]] W (BPost B W)) := by show ∀ W, _; rw [← hB]; exact fun W hb => CBD.out W hb HRI.out
    have HFS : Hid (FR.length ≤ 20000000) := by show _ ≤ _; rw [← hFR]; exact frameB_small _
    have HFR := Lib.hid hFR
    have HBB := Lib.hid hB
    clear hFR hB CE CR CBD
    go_wp2_with fail
    refine (CE1.out _ (HBA.out.trans (HB1.out.mono HBA.out.size))).mono ?_
    rintro e W2 ⟨v1, rfl, hr1, hb⟩
    obtain ⟨q1, m1, cc1, rfl⟩ := row_val hr1
    obtain rfl : m1 = FR.length := ((bs_of_own hr1).len).1
    have HR1 := Lib.hid hr1
    have HB2 := Lib.hid (HB1.out.trans (hb.mono HB1.out.size))
    have HS12 : Hid (A.heap.size ≤ W1.heap.size ∧ W1.heap.size ≤ W2.heap.size) := ⟨HB1.out.size, hb.size⟩
    clear hb hr1 g0 g1 g2 g3 g4 g5 g6 g7 g8 g9 g10 g11 g12
    have KM2 := (HB2.out.block _ HLM.out).trans KM.out
    obtain ⟨c0, c1, c2, c3, c4, c5, c6, c7, c8, c9, c10, c11, c12, hl0⟩ := cells13 KM2
    clear KM2
    by_cases hN : 16777216 < B.length
    · have hz : FR.length = 0 := by rw [← HFR.out]; unfold frameB; rw [if_pos hN]; rfl
      have hz2 : ((FR.length : Int) == 0) = true := by rw [hz]; rfl
      clear hN
      go_wp2_with fail
      refine (CR1.out _ (HBA.out.trans (HB2.out.mono HBA.out.size))).mono ?_
      rintro e W3 ⟨v2, rfl, hr2, hb⟩
      obtain ⟨q2, m2, cc2, rfl⟩ := row_val hr2
      obtain rfl : m2 = FR.length := ((bs_of_own hr2).len).1
      have HB3 := Lib.hid (HB2.out.trans (hb.mono HB2.out.size))
      clear hb hr2 c0 c1 c2 c3 c4 c5 c6 c7 c8 c9 c10 c11 c12 hl0
      go_wp2_with fail
      refine (CA.out _ (HBA.out.trans (HB3.out.mono HBA.out.size))).mono ?_
      rintro e W9 ⟨rfl, hb⟩
      have HB9 := Lib.hid ((HBA.out.trans (HB3.out.mono HBA.out.size)).trans (hb.mono (HBA.out.trans (HB3.out.mono HBA.out.size)).size))
      clear hb
      go_wp2_with fail
      rw [← HPP.out]
      exact ⟨rfl, HB9.out⟩
    · have HN : Hid (B.length ≤ 16777216) := by show _ ≤ _; omega
      obtain ⟨NL, hNL⟩ : ∃ NL, (numB B.length).length = NL := ⟨_, rfl⟩
      have HNL : Hid (1 ≤ NL ∧ NL ≤ 10) := ⟨by rw [← hNL]; exact numB_pos _, by rw [← hNL]; exact numB_ten (by have := HN.out; omega)⟩
      have HCL : Hid (FR.length = 2 + NL + B.length + 2) := by
        show _ = _
        rw [← HFR.out, frameB_cons HN.out, ← hNL]
        have hc : (crcB B).length = 2 := rfl
        simp only [List.length_cons, List.length_append]; omega
      have hpos : ((FR.length : Int) == 0) = false := by have := HCL.out; rw [beq_eq_false_iff_ne]; omega
      have HNLE := Lib.hid hNL
      clear hN hNL c0 c1 c2 c3 c4 c5 c6 c7 c8 c9 c10 c11 c12 hl0
      obtain ⟨ct, hct, hctl⟩ := mod_nat tc FR.length (by have := HCL.out; omega) (by have := HFS.out; omega)
      obtain ⟨t0, t1, t2, hlt⟩ := cells3 ((HB2.out.block _ HLT.out).trans KT.out)
      have hFS := HFS.out
      obtain ⟨qc, cqc, hsl, hbc⟩ := Bs.head (bs_of_own HR1.out) (Nat.le_of_lt hctl)
      have CDC : Hid (Calls Tryd.prog 22 #[.slice qc ct cqc] W2 (DecOut (FR.take ct) W2)) := decode_any (FR.take ct) _ W2 hbc (by rw [List.length_take]; omega) (HTB.out.below (HBA.out.trans (HB2.out.mono HBA.out.size)))
      have hdc : decD (FR.take ct) = .err 260 := by rw [← HFR.out]; exact decD_cut HN.out (by rw [HFR.out]; exact hctl)
      clear hbc
      go_wp2_with fail
      refine CDC.out.mono ?_
      rintro e W7 ⟨a0, a1, a2, a3, a4, a5, ta', ra, kd1, di1, db1, ds1, p1, n1, c1, k1, e1, rfl, hb7, hd1⟩
      rw [hdc] at hd1
      obtain ⟨rfl, rfl, -⟩ := hd1
      have HB7 : Hid (Below W2.heap.size W2 W7) := hb7
      clear hb7 hdc hsl hct t0 t1 t2 hlt
      go_upto_region 9 with fail
      refine wp_world (fun W => Below W2.heap.size W2 W) (by exact HB7.out.alloc HB7.out.size _) (fun V hV => ?_)
      have HVV := Lib.hid hV
      have HV : Hid (Below A.heap.size A V) := HB2.out.trans (hV.mono HB2.out.size)
      clear hV HB7
      obtain ⟨c0, c1, c2, c3, c4, c5, c6, c7, c8, c9, c10, c11, c12, hl0⟩ := cells13 ((HV.out.block _ HLM.out).trans KM.out)
      go_wp2_with fail
      refine (CB1.out _ (HBA.out.trans (HV.out.mono HBA.out.size))).mono ?_
      rintro e W3 ⟨v3, rfl, hr3, hb3⟩
      obtain ⟨q3, m3, cc3, rfl⟩ := row_val hr3
      obtain rfl : m3 = B.length := ((bs_of_own hr3).len).1
      have HW3 : Hid (Below W2.heap.size W2 W3) := HVV.out.trans (hb3.mono HVV.out.size)
      clear hr3 hb3 c0 c1 c2 c3 c4 c5 c6 c7 c8 c9 c10 c11 c12 hl0
      obtain ⟨HD, hHD⟩ : ∃ HD, 2 + NL = HD := ⟨_, rfl⟩
      obtain ⟨BT, hBT⟩ : ∃ BT, 8 * (B.length + 2) = BT := ⟨_, rfl⟩
      have h9 : (FR.length : Int) - (B.length : Int) - 2 = (HD : Int) := by have := HCL.out; omega
      have h10 : 8 * ((FR.length : Int) - (HD : Int)) = (BT : Int) := by have := HCL.out; omega
      have hD3 : 3 ≤ HD := by have := HNL.out.1; omega
      have hD9 : HD ≤ 12 := by have := HNL.out.2; omega
      have hB9 := HN.out
      have hB8 : BT ≤ 200000000 := by omega
      have HHF : Hid (FR.length = HD + (B.length + 2)) := by have := HCL.out; show _ = _; omega
      have HHD := Lib.hid hHD
      have HBT := Lib.hid hBT
      obtain ⟨p0, hat, hp0⟩ := mod_nat ta BT (by omega) (by omega)
      obtain ⟨t0, t1, t2, hlt⟩ := cells3 (((HB2.out.trans (HW3.out.mono HB2.out.size)).block _ HLT.out).trans KT.out)
      have hR3 : Row W3 W1.heap.size (.slice q1 FR.length cc1) FR := World.ownsRow.kept (row := none) HR1.out ⟨HW3.out.os, HW3.out.tape, HW3.out.output, HW3.out.size, fun i hi _ => HW3.out.block i hi⟩ (Decidable.em _)
      obtain ⟨g, rfl⟩ : ∃ g, q1 = some ⟨g, 0, none⟩ := by
        rcases hR3.2 with ⟨h, -⟩ | ⟨g, cp, cur, h, -⟩
        · injection h with h1 h2; have := HHF.out; omega
        · injection h with h1 h2 h3; exact ⟨g, h1⟩
      have hgg := hR3.lt g rfl
      have HGG := Lib.hid hgg
      obtain ⟨HL, hHL⟩ : ∃ HL, ([167, 1] : List UInt8) ++ numB B.length = HL := ⟨_, rfl⟩
      have hFL : FR = HL ++ (B ++ crcB B) := by rw [← HFR.out, frameB_cons HN.out, ← hHL]; simp
      have hLL : HL.length = HD := by rw [← hHL, ← HHD.out, ← HNLE.out, List.length_append]; rfl
      have HO3 : Hid (W3.ownsRow W1.heap.size 5 1 (.slice (some ⟨g, 0, none⟩) FR.length cc1) FR.length ((HL ++ (B ++ crcB B)).map bv)) := by show World.ownsRow _ _ _ _ _ _ _; rw [← hFL]; exact hR3
      have HLL := Lib.hid hLL
      have HHL := Lib.hid hHL
      have htl : (B ++ crcB B).length = B.length + 2 := by rw [List.length_append]; rfl
      obtain ⟨TL, hTL⟩ : ∃ TL, B ++ crcB B = TL := ⟨_, rfl⟩
      rw [hTL] at HO3 htl
      have HTL := Lib.hid hTL
      have HTN := Lib.hid htl
      clear hHD hBT hR3 hgg hFL hLL hHL hTL htl
      go_wp2_with fail
      go_loopw [12, 13] (fun s12 s13 wr => ∃ i : Nat, s13 = .int .i64 (i : Nat) ∧ s12 = .bool (anyB (fun k => tbn.testBit k) i) ∧ i ≤ 16 ∧ p0 + i ≤ BT ∧ Hid (wr.ownsRow W1.heap.size 5 1 (.slice (some ⟨g, 0, none⟩) FR.length cc1) FR.length ((HL ++ spoil TL p0 (fun k => tbn.testBit k) i).map bv)) ∧ Hid (But g W3 wr)) (fun _ s13 _ => 16 - (intOf s13).toNat)
      case atStart => exact ⟨0, rfl, rfl, by omega, by omega, HO3.out, But.refl _ _⟩
      case round =>
        obtain ⟨i, rfl, rfl, hi, hip, HO, HBU⟩ := hrel
        have c0 := HBU.out.cell t0 (by have := HGG.out.1; have := HLT.out; have := HS12.out.1; show w.heap.size + 1 ≠ g; omega)
        have c1 := HBU.out.cell t1 (by have := HGG.out.1; have := HLT.out; have := HS12.out.1; show w.heap.size + 1 ≠ g; omega)
        have hlw : w.heap.size + 1 < wr.heap.size := Nat.lt_of_lt_of_le hlt HBU.out.size
        by_cases hc : i < 16 ∧ p0 + i < BT
        · obtain ⟨hc1, hc2⟩ := hc
          have hi1 : (i : Int) < 16 := by omega
          have hi2 : (p0 : Int) + (i : Int) < (BT : Int) := by omega
          have hi0 : (0 : Int) ≤ (i : Int) := by omega
          have hbit := bit16 tbn i HTBB.out.2
          have hj8 : (p0 + i) / 8 < TL.length := by have := HTN.out; have := HBT.out; omega
          obtain ⟨x, hx⟩ : ∃ x, (spoil TL p0 (fun k => tbn.testBit k) i)[(p0 + i) / 8]? = some x := ⟨_, List.getElem?_eq_getElem (by rw [spoil_len]; exact hj8)⟩
          have hcell : wr.cell? ⟨g, HD + (p0 + i) / 8, none⟩ = some (.int .u8 (x.toNat : Nat)) := by
            rw [HO.out.cellAt _ (by have := HHF.out; have := HTN.out; omega), List.getElem?_map, List.getElem?_append_right (by have := HLL.out; omega), show HD + (p0 + i) / 8 - HL.length = (p0 + i) / 8 by have := HLL.out; omega, hx]
            rfl
          have hfroz := HO.out.frozenAt (HD + (p0 + i) / 8)
          have hgl : g < wr.heap.size := by have := HO.out.lt g rfl; omega
          have hidx : HD + (p0 + i) / 8 < FR.length := by have := HHF.out; have := HTN.out; omega
          cases hb : tbn.testBit i with
          | true =>
            rw [hb] at hbit
            go_wp2_with fail
            go_roundw
            case rel =>
              refine ⟨i + 1, by go_num, by unfold anyB; rw [hb, Bool.or_true], by omega, by omega, ?_, HBU.out.set _ _ (.inl rfl)⟩
              have h1 := own_set HO.out (j := HD + (p0 + i) / 8) (by have := HO.out.1; omega) (.int .u8 (bits .xor .u8 ((x.toNat : Nat) : Int) (128 / 2 ^ ((p0 + i) % 8))))
              rw [← HLL.out, turn_cell HL _ (p0 + i) x hx, HLL.out] at h1
              show World.ownsRow _ _ _ _ _ _ _
              unfold spoil
              rw [hb, if_pos rfl]
              exact h1
            case measure => simp [intOf]; omega
          | false =>
            rw [hb] at hbit
            go_wp2_with fail
            go_roundw
            case rel =>
              refine ⟨i + 1, by go_num, by show _ = Value.bool (anyB _ i || tbn.testBit i); rw [hb, Bool.or_false], by omega, by omega, ?_, HBU.out⟩
              show World.ownsRow _ _ _ _ _ _ _
              unfold spoil
              rw [hb, if_neg (by decide)]
              exact HO.out
            case measure => simp [intOf]; omega
        · have hlen : (HL ++ spoil TL p0 (fun k => tbn.testBit k) i).length = FR.length := by rw [List.length_append, spoil_len]; have := HLL.out; have := HTN.out; have := HHF.out; omega
          have hrow : Row wr W1.heap.size (.slice (some ⟨g, 0, none⟩) FR.length cc1) (HL ++ spoil TL p0 (fun k => tbn.testBit k) i) := by unfold Row; rw [hlen]; exact HO.out
          have HBT2 : Hid (Below w.heap.size w wr) := HBU.out.below (HBA.out.trans ((HB2.out.trans (HW3.out.mono HB2.out.size)).mono HBA.out.size)) (by have := HGG.out.1; have := HS12.out.1; have := HBA.out.size; omega) (by have := HBA.out.size; have := HB2.out.size; have := HW3.out.size; omega)
          have CD2 : Hid (Calls Tryd.prog 22 #[.slice (some ⟨g, 0, none⟩) FR.length cc1] wr (DecOut (HL ++ spoil TL p0 (fun k => tbn.testBit k) i) wr)) := decode_any _ _ wr (bs_of_own hrow) (by omega) (HTB.out.below HBT2.out)
          have hdec : decD (HL ++ spoil TL p0 (fun k => tbn.testBit k) i) = if anyB (fun k => tbn.testBit k) i then .err 261 else .ok ([id, at_, un, co, pr, hp], tp, rp, (.mk md mi mb ms mps)) (frameB (bodyB [id, at_, un, co, pr, hp] tp rp (.mk md mi mb ms mps))).length := by
            have h := decD_turned HMR.out HFT.out.2 (by rw [HBB.out]; exact HN.out) p0 (fun k => tbn.testBit k) i (by rw [HBB.out]; have := HBT.out; omega) hi (by rw [HBB.out]; have := HBT.out; omega)
            rw [HBB.out, HHL.out, HTL.out] at h
            rw [HBB.out]
            exact h
          have HDEC := Lib.hid hdec
          clear hdec hrow hlen c0 c1
          cases ha : anyB (fun k => tbn.testBit k) i with
          | true =>
            by_cases h16 : i < 16
            · have hi1 : (i : Int) < 16 := by omega
              have hi2 : ¬ (p0 : Int) + (i : Int) < (BT : Int) := by omega
              clear hc
              go_wp2_with fail
              refine CD2.out.mono ?_
              rintro e W8 ⟨b0, b1, b2, b3, b4, b5, tb', rb, kd2, di2, db2, ds2, p2, n2, c2, k2, e2, rfl, hb8, hd2⟩
              rw [HDEC.out, ha, if_pos rfl] at hd2
              obtain ⟨rfl, rfl, -⟩ := hd2
              have HB8 := Lib.hid (HBT2.out.trans (hb8.mono HBT2.out.size))
              clear hb8
              go_wp2_with fail
              refine (CA.out _ (by first | exact HB8.out.alloc HB8.out.size _ | exact HB8.out)).mono ?_
              rintro e W9 ⟨rfl, hb9⟩
              have HB9 := Lib.hid ((HB8.out.alloc HB8.out.size _).trans (hb9.mono (HB8.out.alloc HB8.out.size _).size))
              clear hb9
              go_wp2_with fail
              rw [← HPP.out]
              exact ⟨rfl, HB9.out⟩
            · have hi1 : ¬ (i : Int) < 16 := by omega
              clear hc
              go_wp2_with fail
              refine CD2.out.mono ?_
              rintro e W8 ⟨b0, b1, b2, b3, b4, b5, tb', rb, kd2, di2, db2, ds2, p2, n2, c2, k2, e2, rfl, hb8, hd2⟩
              rw [HDEC.out, ha, if_pos rfl] at hd2
              obtain ⟨rfl, rfl, -⟩ := hd2
              have HB8 := Lib.hid (HBT2.out.trans (hb8.mono HBT2.out.size))
              clear hb8
              go_wp2_with fail
              refine (CA.out _ (by first | exact HB8.out.alloc HB8.out.size _ | exact HB8.out)).mono ?_
              rintro e W9 ⟨rfl, hb9⟩
              have HB9 := Lib.hid ((HB8.out.alloc HB8.out.size _).trans (hb9.mono (HB8.out.alloc HB8.out.size _).size))
              clear hb9
              go_wp2_with fail
              rw [← HPP.out]
              exact ⟨rfl, HB9.out⟩
          | false =>
            by_cases h16 : i < 16
            · have hi1 : (i : Int) < 16 := by omega
              have hi2 : ¬ (p0 : Int) + (i : Int) < (BT : Int) := by omega
              clear hc
              go_wp2_with fail
              refine CD2.out.mono ?_
              rintro e W8 ⟨b0, b1, b2, b3, b4, b5, tb', rb, kd2, di2, db2, ds2, p2, n2, c2, k2, e2, rfl, hb8, hd2⟩
              rw [HDEC.out, ha, if_neg (by decide)] at hd2
              obtain ⟨rfl, rfl, -⟩ := hd2
              have HB8 := Lib.hid (HBT2.out.trans (hb8.mono HBT2.out.size))
              clear hb8
              go_wp2_with fail
              refine (CA.out _ (by first | exact HB8.out.alloc HB8.out.size _ | exact HB8.out)).mono ?_
              rintro e W9 ⟨rfl, hb9⟩
              have HB9 := Lib.hid ((HB8.out.alloc HB8.out.size _).trans (hb9.mono (HB8.out.alloc HB8.out.size _).size))
              clear hb9
              go_wp2_with fail
              rw [← HPP.out]
              exact ⟨rfl, HB9.out⟩
            · have hi1 : ¬ (i : Int) < 16 := by omega
              clear hc
              go_wp2_with fail
              refine CD2.out.mono ?_
              rintro e W8 ⟨b0, b1, b2, b3, b4, b5, tb', rb, kd2, di2, db2, ds2, p2, n2, c2, k2, e2, rfl, hb8, hd2⟩
              rw [HDEC.out, ha, if_neg (by decide)] at hd2
              obtain ⟨rfl, rfl, -⟩ := hd2
              have HB8 := Lib.hid (HBT2.out.trans (hb8.mono HBT2.out.size))
              clear hb8
              go_wp2_with fail
              refine (CA.out _ (by first | exact HB8.out.alloc HB8.out.size _ | exact HB8.out)).mono ?_
              rintro e W9 ⟨rfl, hb9⟩
              have HB9 := Lib.hid ((HB8.out.alloc HB8.out.size _).trans (hb9.mono (HB8.out.alloc HB8.out.size _).size))
              clear hb9
              go_wp2_with fail
              rw [← HPP.out]
              exact ⟨rfl, HB9.out⟩
end Go.Proofs.YtmncpbfghabamaaDoor
