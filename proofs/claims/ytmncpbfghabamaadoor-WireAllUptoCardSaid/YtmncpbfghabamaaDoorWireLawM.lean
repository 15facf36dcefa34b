/- WIRE: SameMsgs of two rows that are the same; WireAll walked. -/
import Derived.Test.YtmncpbfghabamaaDoorWireAlls
import Derived.Lib.QuietBelow
namespace Go.Proofs.YtmncpbfghabamaaDoor
open Go Go.RowKit
attribute [local go_sem ↓] Go.wp_at_zero Go.wp_at_succ

theorem mk_mg {t : Mg} {n0 n1 n2 n3 n4 n5 x0 x1 x2 x3 x4 x5 kd1 di1 db1 kd2 di2 db2 : Int} {tp rp tq rq ds1 ds2 : ByteArray} {W : World} {p1 p2 : Option Addr} {m1 c1 m2 c2 : Nat}
    (h1 : t.1 = [n0, n1, n2, n3, n4, n5]) (h2 : t.2.1 = tp) (h3 : t.2.2.1 = rp) (h4 : DvIn (fun _ => True) W 16 [.int .i64 kd1, .int .i64 di1, .int .u64 db1, .string ds1, .slice p1 m1 c1] t.2.2.2)
    (k1 : t.1 = [x0, x1, x2, x3, x4, x5]) (k2 : t.2.1 = tq) (k3 : t.2.2.1 = rq) (k4 : DvIn (fun _ => True) W 16 [.int .i64 kd2, .int .i64 di2, .int .u64 db2, .string ds2, .slice p2 m2 c2] t.2.2.2) :
    (n0 = x0 ∧ n1 = x1 ∧ n2 = x2 ∧ n3 = x3 ∧ n4 = x4 ∧ n5 = x5) ∧ (tp = tq ∧ rp = rq) ∧ kd1 = kd2 ∧ di1 = di2 ∧ db1 = db2 ∧ ds1 = ds2 ∧ m1 = m2 ∧ ∃ ps, DvIn (fun _ => True) W 16 [.int .i64 kd1, .int .i64 di1, .int .u64 db1, .string ds1, .slice p1 m1 c1] (.mk kd1 di1 db1 ds1 ps) ∧ DvIn (fun _ => True) W 16 [.int .i64 kd2, .int .i64 di2, .int .u64 db2, .string ds2, .slice p2 m2 c2] (.mk kd1 di1 db1 ds1 ps) := by
  obtain ⟨ps, hps⟩ := h4.mk
  obtain ⟨ps2, hps2⟩ := k4.mk
  rw [hps] at h4 k4 hps2
  injection hps2 with y0 y1 y2 y3 y4
  subst y0; subst y1; subst y2; subst y3; subst y4
  rw [h1] at k1
  simp only [List.cons.injEq, and_true] at k1
  exact ⟨k1, ⟨h2.symm.trans k2, h3.symm.trans k3⟩, rfl, rfl, rfl, rfl, by rw [h4.is.top.1, k4.is.top.1], ps, h4, k4⟩
set_option linter.unusedSimpArgs false in
set_option maxRecDepth 100000 in
set_option maxHeartbeats 8000000 in
theorem sameMsgs_any (w : World) (b1 b2 : Nat) (v1 v2 : Value) (ts : List Mg) (h1 : MRow w b1 v1 ts) (h2 : MRow w b2 v2 ts) (hl : ts.length ≤ 100000000) :
    Calls Tryd.prog 30 #[v1, v2] w (FtPost w) := by
  obtain ⟨q1, c1, rfl⟩ := h1.form
  obtain ⟨q2, c2, rfl⟩ := h2.form
  obtain ⟨PP, hPP⟩ : ∃ PP, FtPost w = PP := ⟨_, rfl⟩
  rw [hPP]
  have HPP := Lib.hid hPP
  have H1 := Lib.hid h1
  have H2 := Lib.hid h2
  clear hPP h1 h2
  go_enter Tryd.func30, Tryd.ntmps30
  go_wp2_with fail
  go_loopw [5] (fun s5 wr => ∃ j : Nat, s5 = .int .i64 (j : Nat) ∧ j ≤ ts.length ∧ Hid (Below w.heap.size w wr)) (fun s5 _ => ts.length - (intOf s5).toNat)
  case atStart => exact ⟨0, rfl, Nat.zero_le _, Below.refl _ _⟩
  case round =>
    obtain ⟨j, rfl, hj, HB⟩ := hrel
    by_cases hlt : j < ts.length
    · obtain ⟨t, ht⟩ : ∃ t, ts[j]? = some t := ⟨_, List.getElem?_eq_getElem hlt⟩
      obtain ⟨g1, cp1, e1, hg1, n0, n1, n2, n3, n4, n5, tp, rp, kd, di, db, ds, p1, n, cc1, ⟨x0, x1, x2, x3, x4, x5, x6, x7, x8, x9, x10, x11, x12⟩, a1, a2, a3, a4⟩ := (H1.out.below HB.out).at_ ht
      obtain ⟨g2, cp2, e2, hg2, m0, m1, m2, m3, m4, m5, tq, rq, kd2, di2, db2, ds2, p2, n', cc2, ⟨y0, y1, y2, y3, y4, y5, y6, y7, y8, y9, y10, y11, y12⟩, d1, d2, d3, d4⟩ := (H2.out.below HB.out).at_ ht
      injection e1 with e1 _ e3
      injection e2 with e2 _ e4
      subst e1; subst e2; subst e3; subst e4
      obtain ⟨⟨z0, z1, z2, z3, z4, z5⟩, ⟨z6, z7⟩, z8, z9, z10, z11, z12, ps, k1, k2⟩ := mk_mg a1 a2 a3 a4 d1 d2 d3 d4
      subst z0; subst z1; subst z2; subst z3; subst z4; subst z5; subst z6; subst z7; subst z8; subst z9; subst z10; subst z11; subst z12
      have CS : Hid (∀ W, Below wr.heap.size wr W → Calls Tryd.prog 24 #[.agg #[.int .i64 n0, .string tp, .int .i64 kd, .int .i64 di, .int .u64 db, .string ds, .slice p1 n cc1, .int .i64 n1, .int .i64 n2, .string rp, .int .i64 n3, .int .i64 n4, .int .i64 n5], .agg #[.int .i64 n0, .string tp, .int .i64 kd, .int .i64 di, .int .u64 db, .string ds, .slice p2 n cc2, .int .i64 n1, .int .i64 n2, .string rp, .int .i64 n3, .int .i64 n4, .int .i64 n5]] W (FtPost W)) := fun W hW =>
        sameMsg_any W n0 n1 n2 n3 n4 n5 tp rp kd di db ds p1 p2 n cc1 cc2 (fun WS hS => same_any 16 WS 16 kd di db ds p1 n cc1 p2 cc2 ps (k1.kept fun b _ hl => ⟨(hS.block b (Nat.lt_of_lt_of_le hl hW.size)).trans (hW.block b hl), trivial⟩ : DvIn (fun _ => True) WS 16 _ _).is (k2.kept fun b _ hl => ⟨(hS.block b (Nat.lt_of_lt_of_le hl hW.size)).trans (hW.block b hl), trivial⟩ : DvIn (fun _ => True) WS 16 _ _).is)
      have hj0 : (0 : Int) ≤ (j : Int) := by omega
      have hltI : (j : Int) < (ts.length : Int) := by omega
      have e0 : ∀ d os, (Go.Sort.grow (redrawn wr d) os).cell? ⟨g1, j * 13, none⟩ = some (.int .i64 n0) := fun d os => cell_regrown x0 d os
      have e1 : ∀ d os, (Go.Sort.grow (redrawn wr d) os).cell? ⟨g1, j * 13 + 1, none⟩ = some (.string tp) := fun d os => cell_regrown x1 d os
      have e2 : ∀ d os, (Go.Sort.grow (redrawn wr d) os).cell? ⟨g1, j * 13 + 2, none⟩ = some (.int .i64 kd) := fun d os => cell_regrown x2 d os
      have e3 : ∀ d os, (Go.Sort.grow (redrawn wr d) os).cell? ⟨g1, j * 13 + 3, none⟩ = some (.int .i64 di) := fun d os => cell_regrown x3 d os
      have e4 : ∀ d os, (Go.Sort.grow (redrawn wr d) os).cell? ⟨g1, j * 13 + 4, none⟩ = some (.int .u64 db) := fun d os => cell_regrown x4 d os
      have e5 : ∀ d os, (Go.Sort.grow (redrawn wr d) os).cell? ⟨g1, j * 13 + 5, none⟩ = some (.string ds) := fun d os => cell_regrown x5 d os
      have e6 : ∀ d os, (Go.Sort.grow (redrawn wr d) os).cell? ⟨g1, j * 13 + 6, none⟩ = some (.slice p1 n cc1) := fun d os => cell_regrown x6 d os
      have e7 : ∀ d os, (Go.Sort.grow (redrawn wr d) os).cell? ⟨g1, j * 13 + 7, none⟩ = some (.int .i64 n1) := fun d os => cell_regrown x7 d os
      have e8 : ∀ d os, (Go.Sort.grow (redrawn wr d) os).cell? ⟨g1, j * 13 + 8, none⟩ = some (.int .i64 n2) := fun d os => cell_regrown x8 d os
      have e9 : ∀ d os, (Go.Sort.grow (redrawn wr d) os).cell? ⟨g1, j * 13 + 9, none⟩ = some (.string rp) := fun d os => cell_regrown x9 d os
      have e10 : ∀ d os, (Go.Sort.grow (redrawn wr d) os).cell? ⟨g1, j * 13 + 10, none⟩ = some (.int .i64 n3) := fun d os => cell_regrown x10 d os
      have e11 : ∀ d os, (Go.Sort.grow (redrawn wr d) os).cell? ⟨g1, j * 13 + 11, none⟩ = some (.int .i64 n4) := fun d os => cell_regrown x11 d os
      have e12 : ∀ d os, (Go.Sort.grow (redrawn wr d) os).cell? ⟨g1, j * 13 + 12, none⟩ = some (.int .i64 n5) := fun d os => cell_regrown x12 d os
      have f0 : ∀ d os, (Go.Sort.grow (redrawn wr d) os).cell? ⟨g2, j * 13, none⟩ = some (.int .i64 n0) := fun d os => cell_regrown y0 d os
      have f1 : ∀ d os, (Go.Sort.grow (redrawn wr d) os).cell? ⟨g2, j * 13 + 1, none⟩ = some (.string tp) := fun d os => cell_regrown y1 d os
      have f2 : ∀ d os, (Go.Sort.grow (redrawn wr d) os).cell? ⟨g2, j * 13 + 2, none⟩ = some (.int .i64 kd) := fun d os => cell_regrown y2 d os
      have f3 : ∀ d os, (Go.Sort.grow (redrawn wr d) os).cell? ⟨g2, j * 13 + 3, none⟩ = some (.int .i64 di) := fun d os => cell_regrown y3 d os
      have f4 : ∀ d os, (Go.Sort.grow (redrawn wr d) os).cell? ⟨g2, j * 13 + 4, none⟩ = some (.int .u64 db) := fun d os => cell_regrown y4 d os
      have f5 : ∀ d os, (Go.Sort.grow (redrawn wr d) os).cell? ⟨g2, j * 13 + 5, none⟩ = some (.string ds) := fun d os => cell_regrown y5 d os
      have f6 : ∀ d os, (Go.Sort.grow (redrawn wr d) os).cell? ⟨g2, j * 13 + 6, none⟩ = some (.slice p2 n cc2) := fun d os => cell_regrown y6 d os
      have f7 : ∀ d os, (Go.Sort.grow (redrawn wr d) os).cell? ⟨g2, j * 13 + 7, none⟩ = some (.int .i64 n1) := fun d os => cell_regrown y7 d os
      have f8 : ∀ d os, (Go.Sort.grow (redrawn wr d) os).cell? ⟨g2, j * 13 + 8, none⟩ = some (.int .i64 n2) := fun d os => cell_regrown y8 d os
      have f9 : ∀ d os, (Go.Sort.grow (redrawn wr d) os).cell? ⟨g2, j * 13 + 9, none⟩ = some (.string rp) := fun d os => cell_regrown y9 d os
      have f10 : ∀ d os, (Go.Sort.grow (redrawn wr d) os).cell? ⟨g2, j * 13 + 10, none⟩ = some (.int .i64 n3) := fun d os => cell_regrown y10 d os
      have f11 : ∀ d os, (Go.Sort.grow (redrawn wr d) os).cell? ⟨g2, j * 13 + 11, none⟩ = some (.int .i64 n4) := fun d os => cell_regrown y11 d os
      have f12 : ∀ d os, (Go.Sort.grow (redrawn wr d) os).cell? ⟨g2, j * 13 + 12, none⟩ = some (.int .i64 n5) := fun d os => cell_regrown y12 d os
      clear a1 a2 a3 a4 d1 d2 d3 d4 k1 k2 ht
      go_wp2_with fail
      refine wp_region_quiet_below (by kernel_rfl) (by kernel_rfl) ?_
      repeat (quiet_step (exact Calls.regrown_of (CS.out _ (below_regrown wr _ _))))
      refine wpQuiet_nil ?_
      intro _ hw'
      obtain ⟨⟨dq, osq⟩, hw''⟩ := hw'
      subst hw''
      have HBQ : Hid (Below w.heap.size w (Go.Sort.grow (redrawn wr dq) osq)) := HB.out.trans ((below_regrown wr dq osq).mono HB.out.size)
      clear x0 x1 x2 x3 x4 x5 x6 x7 x8 x9 x10 x11 x12 y0 y1 y2 y3 y4 y5 y6 y7 y8 y9 y10 y11 y12 e0 e1 e2 e3 e4 e5 e6 e7 e8 e9 e10 e11 e12 f0 f1 f2 f3 f4 f5 f6 f7 f8 f9 f10 f11 f12
      go_wp2_with fail
      go_roundw
      case rel => exact ⟨j + 1, by go_num, by omega, HBQ.out⟩
      case measure => simp [intOf]; omega
    · have hnI : ¬ (j : Int) < (ts.length : Int) := by omega
      go_wp2_with fail
      rw [← HPP.out]
      exact ⟨rfl, HB.out⟩
theorem all_size_at : ∀ (f : Nat) (l : List UInt8) (p : Nat), (allF f l p).1.length + p ≤ max p l.length
  | 0, l, p => by simp [allF]; omega
  | f + 1, l, p => by
    unfold allF
    split
    · simp; omega
    · cases hd : decD (l.drop p) with
      | err e => simp; omega
      | ok x n =>
        obtain ⟨h1, h2⟩ := decD_size hd
        have h3 := all_size_at f l (p + n)
        rw [List.length_drop] at h2
        simp only [List.length_cons]
        omega
theorem all_size (f : Nat) (l : List UInt8) (_u : Unit) : (allF f l 0).1.length ≤ l.length := by
  have := all_size_at f l 0
  omega
set_option linter.unusedSimpArgs false in
set_option maxRecDepth 100000 in
set_option maxHeartbeats 8000000 in
theorem wireAll_any (w : World) (pb : Option Addr) (nb cb : Nat) (l : List UInt8) (hB : Bs w (.slice pb nb cb) l) (hl : l.length ≤ 10000000) (hT : Tabs w) :
    Calls Tryd.prog 9 #[.slice pb nb cb] w (AwPost w) := by
  obtain rfl : nb = l.length := hB.len.1
  obtain ⟨PP, hPP⟩ : ∃ PP, AwPost w = PP := ⟨_, rfl⟩
  rw [hPP]
  have HPP := Lib.hid hPP
  have HTB := Lib.hid hT
  have HB := Lib.hid hB
  have hsz : Hid ((allF (l.length + 1) l 0).1.length ≤ l.length) := all_size _ _ ()
  have CC := Lib.hid (copied_any l pb l.length cb w hB (by omega))
  clear hPP hT hB
  go_enter Tryd.func9, Tryd.ntmps9
  go_wp2_with fail
  refine CC.out.mono ?_
  rintro e W1 ⟨v1, rfl, hr1, hb1⟩
  obtain ⟨q1, m1, c1, rfl⟩ := row_val hr1
  have HB1 := Lib.hid hb1
  have CA1 : Hid (Calls Tryd.prog 28 #[.slice q1 m1 c1] W1 (AllOut l W1)) := all_any l q1 m1 c1 W1 (bs_of_own hr1) hl (HTB.out.below hb1)
  clear hr1 hb1
  go_wp2_with fail
  refine CA1.out.mono ?_
  rintro e W2 ⟨v2, p2, e2, rfl, hb2, ha2, hm2⟩
  have HB2 := Lib.hid (HB1.out.trans (hb2.mono HB1.out.size))
  have HM2 := Lib.hid hm2
  have HA2 := Lib.hid ha2
  have CA2 : Hid (Calls Tryd.prog 29 #[.slice pb l.length cb] W2 (AllOut l W2)) := refAll_any l pb l.length cb W2 (HB.out.below HB2.out) hl (HTB.out.below HB2.out)
  clear hb2 hm2 ha2
  obtain ⟨q2, c2, rfl⟩ := HM2.out.form
  go_wp2_with fail
  refine CA2.out.mono ?_
  rintro e W3 ⟨v3, p3, e3, rfl, hb3, ha3, hm3⟩
  rw [HA2.out] at ha3
  injection ha3 with y1 y2
  subst y1; subst y2
  have HB3 := Lib.hid (HB2.out.trans (hb3.mono HB2.out.size))
  have CS : Hid (Calls Tryd.prog 30 #[.slice q2 (allF (l.length + 1) l 0).1.length c2, v3] W3 (FtPost W3)) := sameMsgs_any W3 _ _ _ _ _ (HM2.out.below hb3) hm3 (by have := hsz.out; omega)
  obtain ⟨q3, c3, rfl⟩ := hm3.form
  obtain ⟨NN, hNN⟩ : ∃ NN, (allF (l.length + 1) l 0).1.length = NN := ⟨_, rfl⟩
  rw [hNN] at CS ⊢
  clear hb3 hm3 hNN
  go_wp2_with fail
  refine CS.out.mono ?_
  rintro e W4 ⟨rfl, hb4⟩
  have HB4 := Lib.hid (HB3.out.trans (hb4.mono HB3.out.size))
  have CA := Lib.hid (awake_any W4 (HTB.out.below HB4.out))
  clear hb4
  go_wp2_with fail
  refine CA.out.mono ?_
  rintro e W9 ⟨rfl, hb9⟩
  have B9 := Lib.hid (HB4.out.trans (hb9.mono HB4.out.size))
  clear hb9
  go_wp2_with fail
  rw [← HPP.out]
  exact ⟨rfl, B9.out⟩
end Go.Proofs.YtmncpbfghabamaaDoor
