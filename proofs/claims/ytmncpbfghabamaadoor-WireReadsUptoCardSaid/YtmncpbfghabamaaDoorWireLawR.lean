/- WIRE: WireReads walked. -/
import Derived.Test.YtmncpbfghabamaaDoorWireFr
import Derived.Test.YtmncpbfghabamaaDoorWireAw
namespace Go.Proofs.YtmncpbfghabamaaDoor
open Go Go.RowKit
attribute [local go_sem ↓] Go.wp_at_zero Go.wp_at_succ

theorem row_but {W W' : World} {base g : Nat} {v : Value} {l : List UInt8} (h : Row W base v l) (hb : But g W W') (hg : g < base) : Row W' base v l := by
  refine World.ownsRow.kept (row := some g) h ⟨hb.os, hb.tape, hb.output, hb.size, fun k hk hn => hb.block k hk (fun e => hn (by rw [e]))⟩ ?_
  refine .inr (fun e => ?_)
  have := (h.lt g e).1
  omega
set_option linter.unusedSimpArgs false in
set_option maxRecDepth 100000 in
set_option maxHeartbeats 8000000 in
theorem wireReads_any (w : World) (pb : Option Addr) (nb capb : Nat) (l : List UInt8) (hB : Bs w (.slice pb nb capb) l) (hl : l.length ≤ 50000000) (fg : Bool) (hT : Tabs w) :
    Calls Tryd.prog 5 #[.slice pb nb capb, .bool fg] w (AwPost w) := by
  obtain rfl : nb = l.length := hB.len.1
  obtain ⟨PP, hPP⟩ : ∃ PP, AwPost w = PP := ⟨_, rfl⟩
  rw [hPP]
  have HPP := Lib.hid hPP
  have HTB := Lib.hid hT
  have hfl := frF_len (b := fg) hl
  obtain ⟨F, hF⟩ : ∃ F, frF l fg = F := ⟨_, rfl⟩
  have CC : Hid (∀ W, Below w.heap.size w W → Calls Tryd.prog 21 #[.slice pb l.length capb, .bool fg] W (BPost F W)) := fun W hb => by rw [← hF]; exact framed_any l pb l.length capb fg W (hB.below hb) hl
  have HFL : Hid (F.length ≤ 100000000) := by show _ ≤ _; rw [← hF]; omega
  clear hPP hT hB hfl hF hl
  go_enter Tryd.func5, Tryd.ntmps5
  go_wp2_with fail
  refine (CC.out w (Below.refl _ _)).mono ?_
  rintro e W1 ⟨v1, rfl, hr1, hb1⟩
  obtain ⟨q1, n1, c1f, rfl⟩ := row_val hr1
  obtain rfl : n1 = F.length := ((bs_of_own hr1).len).1
  have HR1 := Lib.hid hr1
  have HB1 := Lib.hid hb1
  clear hr1 hb1
  go_wp2_with fail
  refine (CC.out W1 HB1.out).mono ?_
  rintro e W2 ⟨v2, rfl, hr2, hb2⟩
  obtain ⟨q2, n2, c2f, rfl⟩ := row_val hr2
  obtain rfl : n2 = F.length := ((bs_of_own hr2).len).1
  have HR2 := Lib.hid hr2
  have HB12 := Lib.hid hb2
  have HB2 := Lib.hid (HB1.out.trans (hb2.mono HB1.out.size))
  have HO2 : Hid (Row W2 w.heap.size (.slice q1 F.length c1f) F) := World.ownsRow.kept (row := none) HR1.out ⟨hb2.os, hb2.tape, hb2.output, hb2.size, fun i hi _ => hb2.block i hi⟩ (Decidable.em _)
  have GB : Hid (∀ g, (Value.slice q1 F.length c1f).ownBlock = some g → w.heap.size ≤ g ∧ g < W1.heap.size) := fun g hg => HR1.out.lt g hg
  have CRD : Hid (Calls Tryd.prog 22 #[.slice q1 F.length c1f] W2 (DecOut F W2)) := decode_any F _ W2 (bs_of_own HO2.out) HFL.out (HTB.out.below HB2.out)
  clear hr2 hb2
  go_wp2_with fail
  refine CRD.out.mono ?_
  rintro e W5 ⟨a0, a1, a2, a3, a4, a5, ta, ra, kd1, di1, db1, ds1, p1, m1, c1, k1, e1, rfl, hb5, hd1⟩
  have HD1 := Lib.hid hd1
  obtain ⟨X5, hX5⟩ : ∃ X5, W5.alloc (.cells #[.int .i64 a0, .string ta, .int .i64 kd1, .int .i64 di1, .int .u64 db1, .string ds1, .slice p1 m1 c1, .int .i64 a1, .int .i64 a2, .string ra, .int .i64 a3, .int .i64 a4, .int .i64 a5] 39) = X5 := ⟨_, rfl⟩
  have BX4 : Hid (Below W2.heap.size W2 X5) := by show Below _ _ _; rw [← hX5]; exact hb5.alloc hb5.size _
  have BX5 : Hid (Below w.heap.size w X5) := HB2.out.trans (BX4.out.mono HB2.out.size)
  have XC : Hid (X5.heap[W5.heap.size]? = some (.cells #[.int .i64 a0, .string ta, .int .i64 kd1, .int .i64 di1, .int .u64 db1, .string ds1, .slice p1 m1 c1, .int .i64 a1, .int .i64 a2, .string ra, .int .i64 a3, .int .i64 a4, .int .i64 a5] 39 (0, 0))) := by show _ = _; rw [← hX5]; exact heap_alloc_new W5 _
  have SZ5 : Hid (W5.heap.size < X5.heap.size ∧ W2.heap.size ≤ W5.heap.size ∧ W1.heap.size ≤ W2.heap.size) := ⟨(Array.getElem?_eq_some_iff.1 XC.out).1, hb5.size, HB12.out.size⟩
  have KX5 : Hid (∀ b, b < W5.heap.size → X5.heap[b]? = W5.heap[b]?) := fun b hb => by rw [← hX5]; exact Below.heap_alloc _ _ _ hb
  have HO5 : Hid (Row X5 w.heap.size (.slice q1 F.length c1f) F) := World.ownsRow.kept (row := none) HO2.out ⟨BX4.out.os, BX4.out.tape, BX4.out.output, BX4.out.size, fun i hi _ => BX4.out.block i hi⟩ (Decidable.em _)
  have HF5 : Hid (Row X5 W1.heap.size (.slice q2 F.length c2f) F) := World.ownsRow.kept (row := none) HR2.out ⟨BX4.out.os, BX4.out.tape, BX4.out.output, BX4.out.size, fun i hi _ => BX4.out.block i hi⟩ (Decidable.em _)
  have htxo := (bs_of_own HO5.out).text
  have htxb := (bs_of_own HF5.out).text
  have HX5 := Lib.hid hX5
  clear hd1 hb5 hX5
  go_upto_region 4 with fail
  rw [HX5.out]
  by_cases hN : F.length = 0
  · have hlt0 : ¬ (0 : Int) < (F.length : Int) := by omega
    clear hN
    go_wp2_with fail
    go_loopw [10] (fun s9 wr => s9 = .int .i64 0 ∧ wr = X5) (fun _ _ => 0)
    case atStart => exact ⟨rfl, rfl⟩
    case round =>
      obtain ⟨rfl, rfl⟩ := hrel
      have BWT : Hid (Below w.heap.size w wr) := BX5.out
      have XT : Hid (wr.heap[W5.heap.size]? = some (.cells #[.int .i64 a0, .string ta, .int .i64 kd1, .int .i64 di1, .int .u64 db1, .string ds1, .slice p1 m1 c1, .int .i64 a1, .int .i64 a2, .string ra, .int .i64 a3, .int .i64 a4, .int .i64 a5] 39 (0, 0))) := XC.out
      have DT : Hid (∀ b, W2.heap.size ≤ b → b < W5.heap.size → wr.heap[b]? = W5.heap[b]?) := fun b _ hb => KX5.out b hb
      have FT : Hid (Row wr W1.heap.size (.slice q2 F.length c2f) F) := HF5.out
      have HST : Hid (W5.heap.size < wr.heap.size) := (Array.getElem?_eq_some_iff.1 XT.out).1
      have CRF : Hid (Calls Tryd.prog 23 #[.slice q2 F.length c2f] wr (DecOut F wr)) := refDecode_any F _ wr (bs_of_own FT.out) HFL.out (HTB.out.below BWT.out)
      go_wp2_with fail
      refine CRF.out.mono ?_
      rintro e W7 ⟨b0, b1, b2, b3, b4, b5, tb, rb, kd2, di2, db2, ds2, p2, m2, c2, k2, e2, rfl, hb7, hd2⟩
      obtain ⟨z1, z2, ⟨z3, z4, z5, z6, z7, z8⟩, ⟨z9, z10⟩, z11, z12, z13, z14, z15, z16⟩ := dec_same HD1.out hd2
      subst z1; subst z2; subst z3; subst z4; subst z5; subst z6; subst z7; subst z8; subst z9; subst z10; subst z11; subst z12; subst z13; subst z14; subst z15
      obtain ⟨Y7, hY7⟩ : ∃ Y7, W7.alloc (.cells #[.int .i64 a0, .string ta, .int .i64 kd1, .int .i64 di1, .int .u64 db1, .string ds1, .slice p2 m1 c2, .int .i64 a1, .int .i64 a2, .string ra, .int .i64 a3, .int .i64 a4, .int .i64 a5] 39) = Y7 := ⟨_, rfl⟩
      have BY : Hid (Below wr.heap.size wr Y7) := by show Below _ _ _; rw [← hY7]; exact hb7.alloc hb7.size _
      have KY : Hid (∀ b, b < W7.heap.size → Y7.heap[b]? = W7.heap[b]?) := fun b hb => by rw [← hY7]; exact Below.heap_alloc _ _ _ hb
      have XY : Hid (Y7.heap[W5.heap.size]? = some (.cells #[.int .i64 a0, .string ta, .int .i64 kd1, .int .i64 di1, .int .u64 db1, .string ds1, .slice p1 m1 c1, .int .i64 a1, .int .i64 a2, .string ra, .int .i64 a3, .int .i64 a4, .int .i64 a5] 39 (0, 0))) := (BY.out.block _ HST.out).trans XT.out
      have YY : Hid (Y7.heap[W7.heap.size]? = some (.cells #[.int .i64 a0, .string ta, .int .i64 kd1, .int .i64 di1, .int .u64 db1, .string ds1, .slice p2 m1 c2, .int .i64 a1, .int .i64 a2, .string ra, .int .i64 a3, .int .i64 a4, .int .i64 a5] 39 (0, 0))) := by show _ = _; rw [← hY7]; exact heap_alloc_new W7 _
      have BWY : Hid (Below w.heap.size w Y7) := BWT.out.trans (BY.out.mono BWT.out.size)
      have CS : Hid (Calls Tryd.prog 24 #[.agg #[.int .i64 a0, .string ta, .int .i64 kd1, .int .i64 di1, .int .u64 db1, .string ds1, .slice p1 m1 c1, .int .i64 a1, .int .i64 a2, .string ra, .int .i64 a3, .int .i64 a4, .int .i64 a5], .agg #[.int .i64 a0, .string ta, .int .i64 kd1, .int .i64 di1, .int .u64 db1, .string ds1, .slice p2 m1 c2, .int .i64 a1, .int .i64 a2, .string ra, .int .i64 a3, .int .i64 a4, .int .i64 a5]] Y7 (FtPost Y7)) := by
        refine sameMsg_any Y7 a0 a1 a2 a3 a4 a5 ta ra kd1 di1 db1 ds1 p1 p2 m1 c1 c2 (fun WS hS => ?_)
        rcases z16 with ⟨qs, g1, g2⟩ | ⟨rfl, rfl, rfl, rfl, rfl⟩
        · exact same_any 16 WS 16 kd1 di1 db1 ds1 p1 m1 c1 p2 c2 qs (g1.kept fun b hb hl => ⟨(hS.block b (by have := HST.out; have := BY.out.size; omega)).trans ((BY.out.block b (by have := HST.out; omega)).trans (DT.out b hb hl)), trivial⟩ : DvIn (fun _ => True) WS 16 _ _).is (g2.kept fun b hb hl => ⟨(hS.block b (Nat.lt_trans hl (Array.getElem?_eq_some_iff.1 YY.out).1)).trans (KY.out b hl), trivial⟩ : DvIn (fun _ => True) WS 16 _ _).is
        · exact same_zero WS p1 p2 c1 c2
      have HY7 := Lib.hid hY7
      clear hd2 z16 hb7 hY7
      go_upto_region 11 with fail
      rw [HY7.out]
      obtain ⟨x0, x1, x2, x3, x4, x5, x6, x7, x8, x9, x10, x11, x12, hlx⟩ := cells13 XY.out
      obtain ⟨y0, y1, y2, y3, y4, y5, y6, y7, y8, y9, y10, y11, y12, hly⟩ := cells13 YY.out
      go_wp2_with fail
      refine CS.out.mono ?_
      rintro e W8 ⟨rfl, hb8⟩
      have B8 := Lib.hid (BWY.out.trans (hb8.mono BWY.out.size))
      have CA := Lib.hid (awake_any W8 (HTB.out.below B8.out))
      clear hb8 x0 x1 x2 x3 x4 x5 x6 x7 x8 x9 x10 x11 x12 hlx y0 y1 y2 y3 y4 y5 y6 y7 y8 y9 y10 y11 y12 hly
      go_wp2_with fail
      refine CA.out.mono ?_
      rintro e W9 ⟨rfl, hb9⟩
      have B9 := Lib.hid (B8.out.trans (hb9.mono B8.out.size))
      clear hb9
      go_wp2_with fail
      rw [← HPP.out]
      exact ⟨rfl, B9.out⟩
  · obtain ⟨g, rfl, cur, hg, hcs⟩ : ∃ g, q1 = some ⟨g, 0, none⟩ ∧ ∃ cur : Array Value, X5.heap[g]? = some (.cells cur 5 (0, 0)) ∧ F.length ≤ cur.size := by
      rcases HO5.out.2 with ⟨h, -⟩ | ⟨g, cp, cur, h, hb, hg, hnc, hm, hs, ht⟩
      · injection h with h1 h2; omega
      · injection h with h1 h2 h3
        exact ⟨g, h1, cur, hg, by omega⟩
    obtain ⟨gb1, gb2⟩ := GB.out g rfl
    have hFl := HFL.out
    have HG := Lib.hid hg
    have HCS := Lib.hid hcs
    have HNN := Lib.hid hN
    clear hg hcs hN
    go_wp2_with fail
    go_loopw [10] (fun s9 wr => ∃ (j : Nat) (cs : Array Value), s9 = .int .i64 (j : Nat) ∧ j ≤ F.length ∧ Hid (wr.heap[g]? = some (.cells cs 5 (0, 0))) ∧ Hid (F.length ≤ cs.size) ∧ Hid (But g X5 wr)) (fun s9 _ => F.length - (intOf s9).toNat)
    case atStart => exact ⟨0, cur, rfl, by omega, HG.out, HCS.out, But.refl _ _⟩
    case round =>
      obtain ⟨j, cs, rfl, hj, G1, G2, B1⟩ := hrel
      by_cases hlt : j < F.length
      · have hcc : wr.cell? ⟨g, j, none⟩ = some (cs[j]'(Nat.lt_of_lt_of_le hlt G2.out)) := by rw [cell_of_row _ _ _ _ _ _ G1.out]; simp [Nat.lt_of_lt_of_le hlt G2.out]
        have hff := frozen_of_row _ _ j _ _ G1.out
        have hgl := (Array.getElem?_eq_some_iff.1 G1.out).1
        have hjI : (j : Int) < (F.length : Int) := by omega
        have hj0 : (0 : Int) ≤ (j : Int) := by omega
        go_wp2_with fail
        go_roundw
        case rel => exact ⟨j + 1, cs.set! j (.int .u8 1), by go_num, by omega, heap_setCell_same _ g j _ _ _ G1.out, by show _ ≤ _; simp; exact G2.out, B1.out.set _ _ (.inl rfl)⟩
        case measure => simp [intOf]; omega
      · have hjl : j = F.length := by omega
        have hjn : ¬ (j : Int) < (F.length : Int) := by omega
        have BWT : Hid (Below w.heap.size w wr) := BX5.out.trans ⟨B1.out.os, B1.out.tape, B1.out.output, B1.out.size, fun i hi => B1.out.block i (Nat.lt_of_lt_of_le hi BX5.out.size) (by omega)⟩
        have XT : Hid (wr.heap[W5.heap.size]? = some (.cells #[.int .i64 a0, .string ta, .int .i64 kd1, .int .i64 di1, .int .u64 db1, .string ds1, .slice p1 m1 c1, .int .i64 a1, .int .i64 a2, .string ra, .int .i64 a3, .int .i64 a4, .int .i64 a5] 39 (0, 0))) := (B1.out.block _ SZ5.out.1 (by have := SZ5.out.2; omega)).trans XC.out
        have DT : Hid (∀ b, W2.heap.size ≤ b → b < W5.heap.size → wr.heap[b]? = W5.heap[b]?) := fun b h1 hb => (B1.out.block b (by have := SZ5.out.1; omega) (by have := SZ5.out.2; omega)).trans (KX5.out b hb)
        have FT : Hid (Row wr W1.heap.size (.slice q2 F.length c2f) F) := row_but HF5.out B1.out gb2
        clear hj hlt hjl
        have HST : Hid (W5.heap.size < wr.heap.size) := (Array.getElem?_eq_some_iff.1 XT.out).1
        have CRF : Hid (Calls Tryd.prog 23 #[.slice q2 F.length c2f] wr (DecOut F wr)) := refDecode_any F _ wr (bs_of_own FT.out) HFL.out (HTB.out.below BWT.out)
        go_wp2_with fail
        refine CRF.out.mono ?_
        rintro e W7 ⟨b0, b1, b2, b3, b4, b5, tb, rb, kd2, di2, db2, ds2, p2, m2, c2, k2, e2, rfl, hb7, hd2⟩
        obtain ⟨z1, z2, ⟨z3, z4, z5, z6, z7, z8⟩, ⟨z9, z10⟩, z11, z12, z13, z14, z15, z16⟩ := dec_same HD1.out hd2
        subst z1; subst z2; subst z3; subst z4; subst z5; subst z6; subst z7; subst z8; subst z9; subst z10; subst z11; subst z12; subst z13; subst z14; subst z15
        obtain ⟨Y7, hY7⟩ : ∃ Y7, W7.alloc (.cells #[.int .i64 a0, .string ta, .int .i64 kd1, .int .i64 di1, .int .u64 db1, .string ds1, .slice p2 m1 c2, .int .i64 a1, .int .i64 a2, .string ra, .int .i64 a3, .int .i64 a4, .int .i64 a5] 39) = Y7 := ⟨_, rfl⟩
        have BY : Hid (Below wr.heap.size wr Y7) := by show Below _ _ _; rw [← hY7]; exact hb7.alloc hb7.size _
        have KY : Hid (∀ b, b < W7.heap.size → Y7.heap[b]? = W7.heap[b]?) := fun b hb => by rw [← hY7]; exact Below.heap_alloc _ _ _ hb
        have XY : Hid (Y7.heap[W5.heap.size]? = some (.cells #[.int .i64 a0, .string ta, .int .i64 kd1, .int .i64 di1, .int .u64 db1, .string ds1, .slice p1 m1 c1, .int .i64 a1, .int .i64 a2, .string ra, .int .i64 a3, .int .i64 a4, .int .i64 a5] 39 (0, 0))) := (BY.out.block _ HST.out).trans XT.out
        have YY : Hid (Y7.heap[W7.heap.size]? = some (.cells #[.int .i64 a0, .string ta, .int .i64 kd1, .int .i64 di1, .int .u64 db1, .string ds1, .slice p2 m1 c2, .int .i64 a1, .int .i64 a2, .string ra, .int .i64 a3, .int .i64 a4, .int .i64 a5] 39 (0, 0))) := by show _ = _; rw [← hY7]; exact heap_alloc_new W7 _
        have BWY : Hid (Below w.heap.size w Y7) := BWT.out.trans (BY.out.mono BWT.out.size)
        have CS : Hid (Calls Tryd.prog 24 #[.agg #[.int .i64 a0, .string ta, .int .i64 kd1, .int .i64 di1, .int .u64 db1, .string ds1, .slice p1 m1 c1, .int .i64 a1, .int .i64 a2, .string ra, .int .i64 a3, .int .i64 a4, .int .i64 a5], .agg #[.int .i64 a0, .string ta, .int .i64 kd1, .int .i64 di1, .int .u64 db1, .string ds1, .slice p2 m1 c2, .int .i64 a1, .int .i64 a2, .string ra, .int .i64 a3, .int .i64 a4, .int .i64 a5]] Y7 (FtPost Y7)) := by
          refine sameMsg_any Y7 a0 a1 a2 a3 a4 a5 ta ra kd1 di1 db1 ds1 p1 p2 m1 c1 c2 (fun WS hS => ?_)
          rcases z16 with ⟨qs, g1, g2⟩ | ⟨rfl, rfl, rfl, rfl, rfl⟩
          · exact same_any 16 WS 16 kd1 di1 db1 ds1 p1 m1 c1 p2 c2 qs (g1.kept fun b hb hl => ⟨(hS.block b (by have := HST.out; have := BY.out.size; omega)).trans ((BY.out.block b (by have := HST.out; omega)).trans (DT.out b hb hl)), trivial⟩ : DvIn (fun _ => True) WS 16 _ _).is (g2.kept fun b hb hl => ⟨(hS.block b (Nat.lt_trans hl (Array.getElem?_eq_some_iff.1 YY.out).1)).trans (KY.out b hl), trivial⟩ : DvIn (fun _ => True) WS 16 _ _).is
          · exact same_zero WS p1 p2 c1 c2
        have HY7 := Lib.hid hY7
        clear hd2 z16 hb7 hY7
        go_upto_region 11 with fail
        rw [HY7.out]
        obtain ⟨x0, x1, x2, x3, x4, x5, x6, x7, x8, x9, x10, x11, x12, hlx⟩ := cells13 XY.out
        obtain ⟨y0, y1, y2, y3, y4, y5, y6, y7, y8, y9, y10, y11, y12, hly⟩ := cells13 YY.out
        go_wp2_with fail
        refine CS.out.mono ?_
        rintro e W8 ⟨rfl, hb8⟩
        have B8 := Lib.hid (BWY.out.trans (hb8.mono BWY.out.size))
        have CA := Lib.hid (awake_any W8 (HTB.out.below B8.out))
        clear hb8 x0 x1 x2 x3 x4 x5 x6 x7 x8 x9 x10 x11 x12 hlx y0 y1 y2 y3 y4 y5 y6 y7 y8 y9 y10 y11 y12 hly
        go_wp2_with fail
        refine CA.out.mono ?_
        rintro e W9 ⟨rfl, hb9⟩
        have B9 := Lib.hid (B8.out.trans (hb9.mono B8.out.size))
        clear hb9
        go_wp2_with fail
        rw [← HPP.out]
        exact ⟨rfl, B9.out⟩
end Go.Proofs.YtmncpbfghabamaaDoor
