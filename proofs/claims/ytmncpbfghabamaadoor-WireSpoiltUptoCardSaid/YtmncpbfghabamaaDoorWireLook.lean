/- WIRE: datum.Valid where the value is fit. -/
import Derived.Test.YtmncpbfghabamaaDoorWireFits
import Derived.Test.YtmncpbfghabamaaDoorWireRR
namespace Go.Proofs.YtmncpbfghabamaaDoor
open Go Go.RowKit

def LkPost (Bp Bm P : Nat) (W : World) (r : Ending) (W' : World) : Prop := r = .returned (.bool true) ∧ Boxed W' Bp 3 (.int .i64 (P : Nat)) ∧ (∃ m : Nat, Boxed W' Bm 3 (.int .i64 (m : Nat))) ∧ But2 Bp Bm W W'
/-- a part, in a later world too -/
theorem DvIs.partIn {w wr : World} {k : Nat} {kd di db : Int} {ds : ByteArray} {l : List Dv} {p : Option Addr} {n cap : Nat} (h : DvIs w (k + 1) [.int .i64 kd, .int .i64 di, .int .u64 db, .string ds, .slice p n cap] (.mk kd di db ds l)) (hb : Below w.heap.size w wr) {j : Nat} {t : Dv} (hj : l[j]? = some t) :
    ∃ b o kd' di' db' ds' q m c l', p = some ⟨b, o, none⟩ ∧ b < w.heap.size ∧ b < wr.heap.size ∧ t = .mk kd' di' db' ds' l' ∧ wr.cell? ⟨b, o + j * 5, none⟩ = some (.int .i64 kd') ∧ wr.cell? ⟨b, o + j * 5 + 1, none⟩ = some (.int .i64 di') ∧ wr.cell? ⟨b, o + j * 5 + 2, none⟩ = some (.int .u64 db') ∧ wr.cell? ⟨b, o + j * 5 + 3, none⟩ = some (.string ds') ∧ wr.cell? ⟨b, o + j * 5 + 4, none⟩ = some (.slice q m c) ∧ DvIs w k [.int .i64 kd', .int .i64 di', .int .u64 db', .string ds', .slice q m c] t := by
  obtain ⟨b, o, kd', di', db', ds', q, m, c, l', h1, h2, h3, d0, d1, d2, d3, d4, h4⟩ := h.part hj
  exact ⟨b, o, kd', di', db', ds', q, m, c, l', h1, h2, Nat.lt_of_lt_of_le h2 hb.size, h3, (hb.cell h2).trans d0, (hb.cell h2).trans d1, (hb.cell h2).trans d2, (hb.cell h2).trans d3, (hb.cell h2).trans d4, h4⟩
set_option maxRecDepth 100000 in
set_option maxHeartbeats 8000000 in
theorem look_any : ∀ (k : Nat) (w0 W : World) (Bp Bm : Nat) (kd di db : Int) (ds : ByteArray) (p : Option Addr) (n cap : Nat) (ps : List Dv) (P dp M : Nat), DvIs w0 k [.int .i64 kd, .int .i64 di, .int .u64 db, .string ds, .slice p n cap] (.mk kd di db ds ps) → Below w0.heap.size w0 W → (w0.heap.size ≤ Bp ∧ w0.heap.size ≤ Bm) → Bp ≠ Bm →
    Boxed W Bp 3 (.int .i64 (P : Nat)) → Boxed W Bm 3 (.int .i64 (M : Nat)) → (Dv.mk kd di db ds ps).Fair → P + (Dv.mk kd di db ds ps).size ≤ 4096 → dp + (Dv.mk kd di db ds ps).deep ≤ 17 →
    Calls Tryd.prog 76 #[.agg #[.int .i64 kd, .int .i64 di, .int .u64 db, .string ds, .slice p n cap], .int .i64 (dp : Nat), .pointer (some ⟨Bp, 0, none⟩), .pointer (some ⟨Bm, 0, none⟩)] W (LkPost Bp Bm (P + (Dv.mk kd di db ds ps).size) W) := by
  intro k
  induction k with
  | zero => intro w0 W Bp Bm kd di db ds p n cap ps P dp M h; exact h.elim
  | succ k ih =>
    intro w0 W Bp Bm kd di db ds p n cap ps P dp M hD hB hle hne hP hM hF hs hd
    have IH := Lib.hid ih
    clear ih
    obtain ⟨hn, -, -, -, k1, k2⟩ := hD.top
    have HN : Hid (ps.length = n) := hn.symm
    have HF : Hid (FairV kd di db ds n) := by have h := hF.1; rw [← hn] at h; exact h
    have HFS : Hid (Fairs ps) := hF.2
    have hs' : P + (1 + sizes ps) ≤ 4096 := hs
    have hd' : dp + (1 + deeps ps) ≤ 17 := hd
    have HSD : Hid (P + (1 + sizes ps) ≤ 4096 ∧ dp + (1 + deeps ps) ≤ 17) := ⟨hs', hd'⟩
    obtain ⟨PP, hPP⟩ : ∃ PP, LkPost Bp Bm (P + (Dv.mk kd di db ds ps).size) W = PP := ⟨_, rfl⟩
    rw [hPP]
    have HPP := Lib.hid hPP
    have HD := Lib.hid hD
    have HB := Lib.hid hB
    have HLE := Lib.hid hle
    have HP := Lib.hid hP
    have HM := Lib.hid hM
    have hne' : Bm ≠ Bp := fun e => hne e.symm
    have hc1 := hP.cell
    have hf1 := hP.frozen
    have hl1 := hP.lt
    have hc2 := hM.cell
    have hf2 := hM.frozen
    have hl2 := hM.lt
    have hP1 : ¬ (4096 : Int) < (P : Int) + 1 := by omega
    have hd1 : ¬ (16 : Int) < (dp : Int) := by omega
    have HB2 : Hid (∀ u v, But2 Bp Bm W ((W.setCell ⟨Bp, 0, none⟩ u).setCell ⟨Bm, 0, none⟩ v)) := fun u v => (But2.of ((But.refl Bp W).set ⟨Bp, 0, none⟩ u (.inl rfl))).set _ _ rfl
    clear hPP hD hB hle hP hM hF hs hd hs' hd' hn
    go_enter Tryd.func76, Tryd.ntmps76
    go_wp2_with fail
    obtain ⟨W0, hW0⟩ : ∃ W0, (W.setCell ⟨Bp, 0, none⟩ (.int .i64 ((P : Int) + 1))).setCell ⟨Bm, 0, none⟩ (.int .i64 (max (M : Int) (dp : Int))) = W0 := ⟨_, rfl⟩
    have hsz0 : W0.heap.size = W.heap.size := by rw [← hW0]; simp [World.setCell]
    have hx1 : Boxed W0 Bp 3 (.int .i64 ((P : Int) + 1)) := by rw [← hW0]; exact (Below.heap_setCell _ _ _ _ hne).trans (HP.out.set _)
    have hm1 : Boxed W0 Bm 3 (.int .i64 ((max M dp : Nat) : Int)) := by
      rw [← hW0, show ((max M dp : Nat) : Int) = max (M : Int) (dp : Int) by omega]
      exact Boxed.set (v := .int .i64 (M : Nat)) _ ((Below.heap_setCell _ _ _ _ hne').trans HM.out)
    have hb1 : But2 Bp Bm W W0 := by rw [← hW0]; exact HB2.out _ _
    obtain ⟨W1, hW1⟩ : ∃ W1, W0.alloc (.cells #[.int .i64 kd, .int .i64 di, .int .u64 db, .string ds, .slice p n cap] 25) = W1 := ⟨_, rfl⟩
    have X1 : Hid (Boxed W1 Bp 3 (.int .i64 ((P : Int) + 1))) := by show Boxed _ _ _ _; rw [← hW1]; exact hx1.alloc _
    have M1 : Hid (Boxed W1 Bm 3 (.int .i64 ((max M dp : Nat) : Int))) := by show Boxed _ _ _ _; rw [← hW1]; exact hm1.alloc _
    have B1 : Hid (But2 Bp Bm W W1) := by show But2 _ _ _ _; rw [← hW1]; exact hb1.trans (But2.of ((But.refl Bp W0).alloc _))
    have K1 : Hid (W1.heap[W.heap.size]? = some (.cells #[.int .i64 kd, .int .i64 di, .int .u64 db, .string ds, .slice p n cap] 25 (0, 0))) := by show _ = _; rw [← hW1, ← hsz0]; exact heap_alloc_new W0 _
    rw [hW0, hW1]
    clear hsz0 hx1 hm1 hb1 hW0
    have CF : Hid (Calls Tryd.prog 80 #[.agg #[.int .i64 kd, .int .i64 di, .int .u64 db, .string ds, .slice p n cap]] W1 (FtPost W1)) := fits_true W1 kd di db ds p n cap HF.out
    clear hW1
    have hp1 := X1.out.cell
    have hl1 := X1.out.lt
    have hl2 := K1.out
    obtain ⟨c0, c1, c2, c3, c4, hltc⟩ := cells5 hl2
    clear hl2
    go_wp2_with fail
    refine CF.out.mono ?_
    rintro e W2 ⟨rfl, hb⟩
    have X2 : Hid (Boxed W2 Bp 3 (.int .i64 ((P : Int) + 1))) := (hb.block _ hl1).trans X1.out
    have M2 : Hid (∃ m : Nat, Boxed W2 Bm 3 (.int .i64 (m : Nat))) := ⟨_, (hb.block _ M1.out.lt).trans M1.out⟩
    have B2 : Hid (But2 Bp Bm W W2) := B1.out.trans ⟨hb.os, hb.tape, hb.output, hb.size, fun i hi _ _ => hb.block i hi⟩
    have K2 : Hid (W2.heap[W.heap.size]? = some (.cells #[.int .i64 kd, .int .i64 di, .int .u64 db, .string ds, .slice p n cap] 25 (0, 0))) := (hb.block _ hltc).trans K1.out
    clear hb c0 c1 c2 c3 c4 hltc hp1 hl1
    obtain ⟨c0, c1, c2, c3, c4, hltc⟩ := cells5 K2.out
    go_wp2_with fail
    clear c0 c1 c2 c3 c4 hltc
    go_loopw [10, 39] (fun s10 s39 wr => ∃ (j Pj : Nat), s39 = .int .i64 (j : Nat) ∧ j ≤ n ∧ Hid (Boxed wr Bp 3 (.int .i64 (Pj : Nat))) ∧ Hid (∃ m : Nat, Boxed wr Bm 3 (.int .i64 (m : Nat))) ∧ Hid (But2 Bp Bm W wr) ∧ Hid (Pj = P + 1 + sizes (ps.take j))) (fun _ s39 _ => n - (intOf s39).toNat)
    case atStart => exact ⟨0, P + 1, rfl, by omega, X2.out, M2.out, B2.out, rfl⟩
    case round =>
      obtain ⟨j, Pj, rfl, hj, X3, M3, B3, HPj⟩ := hrel
      have hs3 := B3.out.size
      by_cases hlt : j < n
      · obtain ⟨t, ht⟩ : ∃ t, ps[j]? = some t := ⟨_, List.getElem?_eq_getElem (by rw [HN.out]; exact hlt)⟩
        have HBw : Hid (Below w0.heap.size w0 wr) := HB.out.trans ⟨B3.out.os, B3.out.tape, B3.out.output, B3.out.size, fun i hi => B3.out.block i (Nat.lt_of_lt_of_le hi HB.out.size) (by have := HLE.out.1; omega) (by have := HLE.out.2; omega)⟩
        obtain ⟨b, o, kd', di', db', ds', q, m, c, ps', rfl, hb0, hbl, rfl, d0, d1, d2, d3, d4, hPt⟩ := HD.out.partIn HBw.out ht
        have hn1 := sizes_next ht
        have hn2 := deeps_next ht
        have hn3 := (fairs_next ht).2 HFS.out
        have hpj := HPj.out
        have hsd := HSD.out
        have HS4 : Hid (Pj + (Dv.mk kd' di' db' ds' ps').size = P + 1 + sizes (ps.take (j + 1))) := by show _ = _; omega
        obtain ⟨m3, hm3⟩ := M3.out
        have XB : Hid (But2 Bp Bm wr (wr.alloc (.cells #[.int .i64 kd', .int .i64 di', .int .u64 db', .string ds', .slice q m c] 25))) := But2.of ((But.refl Bp wr).alloc _)
        have HA : Hid (Below w0.heap.size w0 (wr.alloc (.cells #[.int .i64 kd', .int .i64 di', .int .u64 db', .string ds', .slice q m c] 25))) := HBw.out.alloc (by have := HB.out.size; omega) _
        have CL : Hid (Calls Tryd.prog 76 #[.agg #[.int .i64 kd', .int .i64 di', .int .u64 db', .string ds', .slice q m c], .int .i64 ((dp + 1 : Nat) : Int), .pointer (some ⟨Bp, 0, none⟩), .pointer (some ⟨Bm, 0, none⟩)] (wr.alloc (.cells #[.int .i64 kd', .int .i64 di', .int .u64 db', .string ds', .slice q m c] 25)) (LkPost Bp Bm (Pj + (Dv.mk kd' di' db' ds' ps').size) (wr.alloc (.cells #[.int .i64 kd', .int .i64 di', .int .u64 db', .string ds', .slice q m c] 25)))) := IH.out w0 _ Bp Bm kd' di' db' ds' q m c ps' Pj (dp + 1) m3 hPt HA.out HLE.out hne (X3.out.alloc _) (Boxed.alloc hm3 _) hn3 (by omega) (by omega)
        have hjI : (j : Int) < (n : Int) := by omega
        have hj0 : (0 : Int) ≤ (j : Int) := by omega
        clear ht hn1 hn2 hn3 hpj hsd hm3 hPt
        go_wp2_with fail
        refine CL.out.mono ?_
        rintro e W4 ⟨rfl, g1, g2, g3⟩
        have X4 := Lib.hid g1
        have M4 := Lib.hid g2
        have B4 := Lib.hid ((B3.out.trans XB.out).trans g3)
        clear g1 g2 g3 d0 d1 d2 d3 d4 hbl hb0
        go_wp2_with fail
        go_roundw
        case rel => exact ⟨j + 1, _, by go_num, by omega, X4.out, M4.out, B4.out, HS4.out⟩
        case measure => simp [intOf]; omega
      · obtain rfl : j = n := by omega
        have HE : Hid (Pj = P + (Dv.mk kd di db ds ps).size) := by
          have h := HPj.out
          rw [List.take_of_length_le (by rw [HN.out]; exact Nat.le_refl _)] at h
          show Pj = P + (1 + sizes ps)
          omega
        have hjj : ¬ (j : Int) < (j : Int) := by omega
        go_wp2_with fail
        rw [← HPP.out]
        exact ⟨rfl, by rw [← HE.out]; exact X3.out, M3.out, B3.out⟩
theorem dvalid_true (k : Nat) (w : World) (kd di db : Int) (ds : ByteArray) (p : Option Addr) (n cap : Nat) (ps : List Dv) (hD : DvIs w k [.int .i64 kd, .int .i64 di, .int .u64 db, .string ds, .slice p n cap] (.mk kd di db ds ps)) (hF : (Dv.mk kd di db ds ps).Fair) (hs : (Dv.mk kd di db ds ps).size ≤ 4096) (hd : (Dv.mk kd di db ds ps).deep ≤ 16) :
    Calls Tryd.prog 70 #[.agg #[.int .i64 kd, .int .i64 di, .int .u64 db, .string ds, .slice p n cap]] w (FtPost w) := by
  obtain ⟨PP, hPP⟩ : ∃ PP, FtPost w = PP := ⟨_, rfl⟩
  rw [hPP]
  have HPP := Lib.hid hPP
  have HB : Hid (Below w.heap.size w (((w.alloc (.cells #[.int .i64 kd, .int .i64 di, .int .u64 db, .string ds, .slice p n cap] 25)).alloc (.cells #[.int .i64 0] 3)).alloc (.cells #[.int .i64 0] 3))) := (((Below.refl _ _).alloc (Nat.le_refl _) _).alloc (by simp) _).alloc (by simp; omega) _
  have H1 : Hid (Boxed (((w.alloc (.cells #[.int .i64 kd, .int .i64 di, .int .u64 db, .string ds, .slice p n cap] 25)).alloc (.cells #[.int .i64 0] 3)).alloc (.cells #[.int .i64 0] 3)) (w.heap.size + 1) 3 (.int .i64 ((0 : Nat) : Int))) := by
    have h := heap_alloc_new (w.alloc (.cells #[.int .i64 kd, .int .i64 di, .int .u64 db, .string ds, .slice p n cap] 25)) (.cells #[.int .i64 0] 3)
    rw [World.size_alloc] at h
    exact Boxed.alloc (show Boxed ((w.alloc (.cells #[.int .i64 kd, .int .i64 di, .int .u64 db, .string ds, .slice p n cap] 25)).alloc (.cells #[.int .i64 0] 3)) (w.heap.size + 1) 3 (.int .i64 ((0 : Nat) : Int)) from h) _
  have H2 : Hid (Boxed (((w.alloc (.cells #[.int .i64 kd, .int .i64 di, .int .u64 db, .string ds, .slice p n cap] 25)).alloc (.cells #[.int .i64 0] 3)).alloc (.cells #[.int .i64 0] 3)) (w.heap.size + 1 + 1) 3 (.int .i64 ((0 : Nat) : Int))) := by
    have h := heap_alloc_new ((w.alloc (.cells #[.int .i64 kd, .int .i64 di, .int .u64 db, .string ds, .slice p n cap] 25)).alloc (.cells #[.int .i64 0] 3)) (.cells #[.int .i64 0] 3)
    rw [World.size_alloc, World.size_alloc] at h
    exact h
  have CL : Hid (Calls Tryd.prog 76 #[.agg #[.int .i64 kd, .int .i64 di, .int .u64 db, .string ds, .slice p n cap], .int .i64 ((1 : Nat) : Int), .pointer (some ⟨w.heap.size + 1, 0, none⟩), .pointer (some ⟨w.heap.size + 1 + 1, 0, none⟩)] (((w.alloc (.cells #[.int .i64 kd, .int .i64 di, .int .u64 db, .string ds, .slice p n cap] 25)).alloc (.cells #[.int .i64 0] 3)).alloc (.cells #[.int .i64 0] 3)) (LkPost (w.heap.size + 1) (w.heap.size + 1 + 1) (0 + (Dv.mk kd di db ds ps).size) (((w.alloc (.cells #[.int .i64 kd, .int .i64 di, .int .u64 db, .string ds, .slice p n cap] 25)).alloc (.cells #[.int .i64 0] 3)).alloc (.cells #[.int .i64 0] 3)))) := look_any k w _ _ _ kd di db ds p n cap ps 0 1 0 hD HB.out ⟨by omega, by omega⟩ (by omega) H1.out H2.out hF (by omega) (by omega)
  clear hPP hD hF hs hd
  go_enter Tryd.func70, Tryd.ntmps70
  go_wp2_with fail
  refine CL.out.mono ?_
  rintro e W4 ⟨rfl, -, -, g3⟩
  have HE : Hid (Below w.heap.size w W4) := HB.out.trans ⟨g3.os, g3.tape, g3.output, g3.size, fun i hi => g3.block i (by have := HB.out.size; omega) (by omega) (by omega)⟩
  clear g3
  go_wp2_with fail
  rw [← HPP.out]
  exact ⟨rfl, HE.out⟩
end Go.Proofs.YtmncpbfghabamaaDoor
