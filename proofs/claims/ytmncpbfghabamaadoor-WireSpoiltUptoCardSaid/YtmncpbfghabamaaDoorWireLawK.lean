/- WIRE: WireBack walked. -/
import Derived.Test.YtmncpbfghabamaaDoorWireFr
import Derived.Test.YtmncpbfghabamaaDoorWireAw
import Derived.Test.YtmncpbfghabamaaDoorWireFit
import Derived.Test.YtmncpbfghabamaaDoorWireREnc
import Derived.Test.YtmncpbfghabamaaDoorWireBk
import Derived.Deep.Cut
namespace Go.Proofs.YtmncpbfghabamaaDoor
open Go Go.RowKit
attribute [local go_sem ↓] Go.wp_at_zero Go.wp_at_succ

/-- 'v[:k]' -/
theorem Bs.head {w : World} {p : Option Addr} {n cap : Nat} {l : List UInt8} (h : Bs w (.slice p n cap) l) {k : Nat} (hk : k ≤ l.length) :
    ∃ q cq, (∀ w' : World, Sem.run Tryd.prog (Instr.slice 26 (.slice p n cap) none (some (Value.int IntKind.i64 (k : Nat))) none) w' = .ok (.slice q k cq) w') ∧ Bs w (.slice q k cq) (l.take k) := by
  obtain ⟨e, h1, h2⟩ := h.len
  subst e
  have c1 : (k : Int) ≤ cap := by omega
  have c2 : (0 : Int) ≤ (k : Int) := by omega
  have e : (l.take k).length = k := by rw [List.length_take]; omega
  by_cases h0 : cap = 0
  · subst h0
    obtain rfl : k = 0 := by omega
    refine ⟨p, 0, fun w' => ?_, ?_⟩
    · go_simp
    · exact ⟨_, _, by rw [e], by rw [e]; omega, by omega, fun hn => by rw [e] at hn; omega⟩
  · refine ⟨p, cap, fun w' => ?_, ?_⟩
    · cases p with
      | none => go_simp
      | some a => go_simp
    · refine ⟨_, _, by rw [e], by rw [e]; omega, h2, fun hn => ?_⟩
      rw [e] at hn
      obtain ⟨b, o, cap', hv, _⟩ := h.form (by omega)
      injection hv with e1 _ _
      subst e1
      refine ⟨b, o, rfl, fun j x hj => ?_⟩
      rw [List.getElem?_take] at hj
      split at hj
      · exact h.cell hj
      · cases hj
theorem frameB_small (b : List UInt8) : (frameB b).length ≤ 20000000 := by
  unfold frameB
  split
  · simp
  · rename_i h
    have hn := numB_ten (show b.length < 18446744073709551616 by omega)
    have h2 : (crcB b).length = 2 := rfl
    simp only [List.length_append, List.length_cons, List.length_nil]
    omega
theorem nameB_len {s : ByteArray} (h : nameB s.data.toList = true) : s.size ≤ 65535 := by
  unfold nameB plainB at h
  simp only [Bool.and_eq_true, decide_eq_true_eq] at h
  have h2 := h.1.1.1.2
  rw [Array.length_toList] at h2
  exact h2
theorem fit_msgR {t : Dv} {id at_ un co pr hp : Int} {tp rp : ByteArray} (h : FtX t [id, at_, un, co, pr, hp] tp rp) (hi : ∀ x ∈ [id, at_, un, co, pr, hp], I64 x) (hr : t.Right) : MsgR [id, at_, un, co, pr, hp] tp rp t := by
  obtain ⟨h1, h2, -⟩ := fitB_iff.1 h.2
  refine ⟨rfl, hi, nameB_len h1, ?_, hr, h.1.1.2, h.1.1.1⟩
  rcases h2 with rfl | h2
  · exact Nat.zero_le _
  · exact nameB_len h2
theorem decD_errs {l : List UInt8} {e : Int} (h : decD l = .err e) : e = 260 ∨ e = 261 ∨ e = 262 := by
  unfold decD at h
  split at h
  · injection h with h; exact .inl h.symm
  split at h
  · injection h with h; exact .inr (.inr h.symm)
  split at h
  · injection h with h; exact .inl h.symm
  split at h
  · injection h with h; exact .inr (.inr h.symm)
  unfold decM at h
  split at h
  · injection h with h; exact .inl h.symm
  · injection h with h; exact .inr (.inr h.symm)
  unfold decN at h
  split at h
  · injection h with h; exact .inl h.symm
  split at h
  · injection h with h; exact .inr (.inl h.symm)
  split at h
  · injection h with h; exact .inr (.inr h.symm)
  · cases h
set_option linter.unusedSimpArgs false in
set_option maxRecDepth 100000 in
set_option maxHeartbeats 8000000 in
theorem wireBack_any (w : World) (kD : Nat) (kd di db : Int) (ds : ByteArray) (p : Option Addr) (n cap : Nat) (ps : List Dv) (hD : DvIs w kD [.int .i64 kd, .int .i64 di, .int .u64 db, .string ds, .slice p n cap] (.mk kd di db ds ps)) (hen : (enc (.mk kd di db ds ps)).length ≤ 50000000)
    (kM : Nat) (id at_ un co pr hp : Int) (tp rp : ByteArray) (md mi mb : Int) (ms : ByteArray) (mp : Option Addr) (mn mcap : Nat) (mps : List Dv) (hM : DvIs w kM [.int .i64 md, .int .i64 mi, .int .u64 mb, .string ms, .slice mp mn mcap] (.mk md mi mb ms mps)) (hi : ∀ x ∈ [id, at_, un, co, pr, hp], I64 x) (htp : tp.size ≤ 2000000) (hrp : rp.size ≤ 2000000) (hml : (enc (.mk md mi mb ms mps)).length ≤ 50000000)
    (pq : Option Addr) (nq cq : Nat) (Q : List UInt8) (hQ : Bs w (.slice pq nq cq) Q) (hql : Q.length ≤ 2000000)
    (pb : Option Addr) (nb cb : Nat) (L : List UInt8) (hL : Bs w (.slice pb nb cb) L) (hll : L.length ≤ 2000000) (hT : Tabs w) :
    Calls Tryd.prog 7 #[.agg #[.int .i64 kd, .int .i64 di, .int .u64 db, .string ds, .slice p n cap], .agg #[.int .i64 id, .string tp, .int .i64 md, .int .i64 mi, .int .u64 mb, .string ms, .slice mp mn mcap, .int .i64 at_, .int .i64 un, .string rp, .int .i64 co, .int .i64 pr, .int .i64 hp], .slice pq nq cq, .slice pb nb cb] w (AwPost w) := by
  obtain rfl : nq = Q.length := hQ.len.1
  obtain rfl : nb = L.length := hL.len.1
  obtain rfl : n = ps.length := hD.top.1
  obtain rfl : mn = mps.length := hM.top.1
  obtain ⟨PP, hPP⟩ : ∃ PP, AwPost w = PP := ⟨_, rfl⟩
  rw [hPP]
  have HPP := Lib.hid hPP
  have HTB := Lib.hid hT
  have HD := Lib.hid hD
  have HM := Lib.hid hM
  have HQ := Lib.hid hQ
  have HL := Lib.hid hL
  have HQL := Lib.hid hql
  have HEN := Lib.hid hen
  have HII := Lib.hid hi
  obtain ⟨A, hA⟩ : ∃ A, (w.alloc (.cells #[.int .i64 kd, .int .i64 di, .int .u64 db, .string ds, .slice p ps.length cap] 25)).alloc (.cells #[.int .i64 id, .string tp, .int .i64 md, .int .i64 mi, .int .u64 mb, .string ms, .slice mp mps.length mcap, .int .i64 at_, .int .i64 un, .string rp, .int .i64 co, .int .i64 pr, .int .i64 hp] 39) = A := ⟨_, rfl⟩
  have HBA : Hid (Below w.heap.size w A) := by show Below _ _ _; rw [← hA]; exact ((Below.refl _ _).alloc (Nat.le_refl _) _).alloc (by simp) _
  have KD : Hid (A.heap[w.heap.size]? = some (.cells #[.int .i64 kd, .int .i64 di, .int .u64 db, .string ds, .slice p ps.length cap] 25 (0, 0))) := by show _ = _; rw [← hA, Below.heap_alloc _ _ _ (by simp)]; exact heap_alloc_new w _
  have KM : Hid (A.heap[w.heap.size + 1]? = some (.cells #[.int .i64 id, .string tp, .int .i64 md, .int .i64 mi, .int .u64 mb, .string ms, .slice mp mps.length mcap, .int .i64 at_, .int .i64 un, .string rp, .int .i64 co, .int .i64 pr, .int .i64 hp] 39 (0, 0))) := by
    show _ = _
    have h := heap_alloc_new (w.alloc (.cells #[.int .i64 kd, .int .i64 di, .int .u64 db, .string ds, .slice p ps.length cap] 25)) (.cells #[.int .i64 id, .string tp, .int .i64 md, .int .i64 mi, .int .u64 mb, .string ms, .slice mp mps.length mcap, .int .i64 at_, .int .i64 un, .string rp, .int .i64 co, .int .i64 pr, .int .i64 hp] 39)
    rw [World.size_alloc] at h
    rw [← hA]; exact h
  have HLD : Hid (w.heap.size < A.heap.size) := (Array.getElem?_eq_some_iff.1 KD.out).1
  have HLM : Hid (w.heap.size + 1 < A.heap.size) := (Array.getElem?_eq_some_iff.1 KM.out).1
  have CV : Hid (∀ W, Below w.heap.size w W → Calls Tryd.prog 10 #[.agg #[.int .i64 kd, .int .i64 di, .int .u64 db, .string ds, .slice p ps.length cap]] W (ValPost (.mk kd di db ds ps) W)) := fun W hb => valid_any kD W kd di db ds p ps.length cap ps (hD.below hb)
  have CW : Hid (∀ W, Below w.heap.size w W → Calls Tryd.prog 11 #[.agg #[.int .i64 kd, .int .i64 di, .int .u64 db, .string ds, .slice p ps.length cap]] W (BPost (enc (.mk kd di db ds ps)) W)) := fun W hb => wdatum_top kD W kd di db ds p ps.length cap ps (hD.below hb) (by omega)
  have CF : Hid (∀ W, Below w.heap.size w W → Calls Tryd.prog 18 #[.agg #[.int .i64 id, .string tp, .int .i64 md, .int .i64 mi, .int .u64 mb, .string ms, .slice mp mps.length mcap, .int .i64 at_, .int .i64 un, .string rp, .int .i64 co, .int .i64 pr, .int .i64 hp]] W (FmPost (FtX (.mk md mi mb ms mps) [id, at_, un, co, pr, hp] tp rp) W)) := fun W hb => fit26_any kM W id at_ un co pr hp tp rp md mi mb ms mp mps.length mcap mps (hM.below hb) (by omega) (by omega) (hT.below hb)
  have CE : Hid (∀ W, Below w.heap.size w W → Calls Tryd.prog 19 #[.agg #[.int .i64 id, .string tp, .int .i64 md, .int .i64 mi, .int .u64 mb, .string ms, .slice mp mps.length mcap, .int .i64 at_, .int .i64 un, .string rp, .int .i64 co, .int .i64 pr, .int .i64 hp]] W (BPost (frameB (bodyB [id, at_, un, co, pr, hp] tp rp (.mk md mi mb ms mps))) W)) := fun W hb => encode_any kM W id at_ un co pr hp tp rp md mi mb ms mp mps.length mcap mps (hM.below hb) hi htp hrp (by omega)
  have CDB : Hid (∀ W, Below w.heap.size w W → Calls Tryd.prog 22 #[.slice pb L.length cb] W (DecOut L W)) := fun W hb => decode_any L _ W (hL.below hb) (by omega) (hT.below hb)
  have CA : Hid (∀ W, Below w.heap.size w W → Calls Tryd.prog 17 #[] W (AwPost W)) := fun W hb => awake_any W (hT.below hb)
  have HAA := Lib.hid hA
  clear hPP hT hD hM hQ hL hA hi htp hrp hml hql hll hen
  go_enter Tryd.func7, Tryd.ntmps7
  go_upto_region 1 with fail
  rw [HAA.out]
  refine wp_world (fun W => Below A.heap.size A W) (Below.refl _ _) (fun V hV => ?_)
  have HV := Lib.hid hV
  clear hV
  have KD1 := (HV.out.block _ HLD.out).trans KD.out
  obtain ⟨c0, c1, c2, c3, c4, hl0⟩ := cells5 KD1
  clear KD1
  go_wp2_with fail
  refine (CV.out _ (HBA.out.trans (HV.out.mono HBA.out.size))).mono ?_
  rintro e W1 ⟨b, rfl, hiff, hb⟩
  have HB1 : Hid (Below A.heap.size A W1) := HV.out.trans (hb.mono HV.out.size)
  have HI := Lib.hid hiff
  have g0 := (hb.cell hl0).trans c0; have g1 := (hb.cell hl0).trans c1; have g2 := (hb.cell hl0).trans c2; have g3 := (hb.cell hl0).trans c3; have g4 := (hb.cell hl0).trans c4
  clear hb hiff c0 c1 c2 c3 c4 hl0
  go_upto_if 23 with fail
  go_cut [] from 9 (fun wx => Below A.heap.size A wx)
  case first =>
    cases b with
    | false =>
      clear g0 g1 g2 g3 g4
      go_wp2_with fail
      go_meet
      case rel => exact HB1.out
    | true =>
      have hv := HI.out.1 rfl
      obtain ⟨E, hE⟩ : ∃ E, enc (.mk kd di db ds ps) = E := ⟨_, rfl⟩
      have hve := valD_enc (.mk kd di db ds ps) 16 1 4095 Q (fair_right kD _ _ HD.out hv.2 hv.1.1) hv.1.2 rfl (by have := hv.1.1; omega) (by omega)
      have CW1 : Hid (∀ W, Below w.heap.size w W → Calls Tryd.prog 11 #[.agg #[.int .i64 kd, .int .i64 di, .int .u64 db, .string ds, .slice p ps.length cap]] W (BPost E W)) := by show ∀ W, _; rw [← hE]; exact CW.out
      rw [hE] at hve
      have HVE := Lib.hid hve
      have HFL : Hid (E.length ≤ 50000000) := by show _ ≤ _; rw [← hE]; exact HEN.out
      clear hv hE hve
      go_wp2_with fail
      refine (CW1.out _ (HBA.out.trans (HB1.out.mono HBA.out.size))).mono ?_
      rintro e W2 ⟨v1, rfl, hr1, hb⟩
      obtain ⟨q1, m1, cc1, rfl⟩ := row_val hr1
      obtain rfl : m1 = E.length := ((bs_of_own hr1).len).1
      have HR1 := Lib.hid hr1
      have HB2 := Lib.hid (HB1.out.trans (hb.mono HB1.out.size))
      have HS12 : Hid (W1.heap.size ≤ W2.heap.size) := hb.size
      have HQ2 : Hid (Bs W2 (.slice pq Q.length cq) Q) := HQ.out.below (HBA.out.trans (HB2.out.mono HBA.out.size))
      clear hb hr1 g0 g1 g2 g3 g4
      go_upto_region 4 with fail
      go_wp2_with (at_builtin; refine wpList_append_bytes _ rfl (.tmp 29) (.tmp 30) rfl W1.heap.size (.slice q1 E.length cc1) E rfl HR1.out pq cq Q rfl HQ2.out (by have := HQL.out; have := HFL.out; omega) HS12.out ?_; intro v6 W6 hrow6 hg6; obtain ⟨q6, m6, c6, rfl⟩ := row_val hrow6; have HR6 := Lib.hid (bs_of_own hrow6); have HB6 : Hid (Below A.heap.size A W6) := HB2.out.trans ⟨hg6.os, hg6.tape, hg6.output, hg6.size, fun i hi => hg6.block i (Nat.lt_of_lt_of_le hi HB2.out.size) (fun e => by have := (HR1.out.lt i e.symm).1; have := HB1.out.size; omega)⟩; clear hrow6 hg6)
      have HM6 : Hid (m6 = (E ++ Q).length) := HR6.out.len.1
      have CRD : Hid (Calls Tryd.prog 14 #[.slice q6 m6 c6] W6 (RdPost (valD 16 1 4095 (E ++ Q)) W6)) := readDatum_any (E ++ Q) _ W6 HR6.out (by rw [List.length_append]; have := HQL.out; have := HFL.out; omega)
      go_wp2_with fail
      refine CRD.out.mono ?_
      rintro e W7 ⟨kd1, di1, db1, ds1, p1, n1, c1, k1, e1, rfl, hb7, hd1⟩
      rw [HVE.out] at hd1
      obtain ⟨rfl, rfl, hd1⟩ := hd1
      obtain ⟨ps2, hps⟩ := hd1.mk
      have hps2 : Dv.mk kd di db ds ps = .mk kd1 di1 db1 ds1 ps2 := hps
      injection hps2 with y0 y1 y2 y3 y4
      subst y0; subst y1; subst y2; subst y3; subst y4
      obtain rfl : n1 = ps.length := hd1.is.top.1
      obtain ⟨X7, hX7⟩ : ∃ X7, W7.alloc (.cells #[.int .i64 kd, .int .i64 di, .int .u64 db, .string ds, .slice p1 ps.length c1] 25) = X7 := ⟨_, rfl⟩
      have BX6 : Hid (Below W6.heap.size W6 X7) := by show Below _ _ _; rw [← hX7]; exact hb7.alloc hb7.size _
      have BX7 : Hid (Below A.heap.size A X7) := HB6.out.trans (BX6.out.mono HB6.out.size)
      have XC : Hid (X7.heap[W7.heap.size]? = some (.cells #[.int .i64 kd, .int .i64 di, .int .u64 db, .string ds, .slice p1 ps.length c1] 25 (0, 0))) := by show _ = _; rw [← hX7]; exact heap_alloc_new W7 _
      have XD : Hid (X7.heap[w.heap.size]? = some (.cells #[.int .i64 kd, .int .i64 di, .int .u64 db, .string ds, .slice p ps.length cap] 25 (0, 0))) := (BX7.out.block _ HLD.out).trans KD.out
      have KX : Hid (∀ b, b < W7.heap.size → X7.heap[b]? = W7.heap[b]?) := fun b hb => by rw [← hX7]; exact Below.heap_alloc _ _ _ hb
      have CS : Hid (Calls Tryd.prog 16 #[.agg #[.int .i64 kd, .int .i64 di, .int .u64 db, .string ds, .slice p1 ps.length c1], .agg #[.int .i64 kd, .int .i64 di, .int .u64 db, .string ds, .slice p ps.length cap]] X7 (FtPost X7)) := same_any 16 X7 kD kd di db ds p1 ps.length c1 p cap ps (hd1.kept fun b hb hl => ⟨KX.out b hl, trivial⟩ : DvIn (fun _ => True) X7 16 _ _).is (HD.out.below (HBA.out.trans (BX7.out.mono HBA.out.size)))
      have HX7 := Lib.hid hX7
      clear hd1 hb7 hX7 hps
      go_upto_region 5 with fail
      rw [HX7.out]
      obtain ⟨x0, x1, x2, x3, x4, hlx⟩ := cells5 XC.out
      obtain ⟨y0, y1, y2, y3, y4, hly⟩ := cells5 XD.out
      go_wp2_with fail
      refine CS.out.mono ?_
      rintro e W8 ⟨rfl, hb8⟩
      have B8 := Lib.hid (BX7.out.trans (hb8.mono BX7.out.size))
      clear hb8 x0 x1 x2 x3 x4 hlx y0 y1 y2 y3 y4 hly
      go_wp2_with fail
      go_meet
      case rel => exact B8.out
  case rest =>
  clear HV HB1 HI
  clear g0 g1 g2 g3 g4
  have HV0 := Lib.hid hcut
  clear hcut
  go_upto_region 7 with fail
  refine wp_world (fun W => Below A.heap.size A W) HV0.out (fun V hV => ?_)
  have HV := Lib.hid hV
  clear hV HV0
  have KM1 := (HV.out.block _ HLM.out).trans KM.out
  obtain ⟨c0, c1, c2, c3, c4, c5, c6, c7, c8, c9, c10, c11, c12, hl0⟩ := cells13 KM1
  clear KM1
  go_wp2_with fail
  refine (CF.out _ (HBA.out.trans (HV.out.mono HBA.out.size))).mono ?_
  rintro e W1 ⟨b, rfl, hiff, hb⟩
  have HB1 : Hid (Below A.heap.size A W1) := HV.out.trans (hb.mono HV.out.size)
  have HI := Lib.hid hiff
  have g0 := (hb.cell hl0).trans c0; have g1 := (hb.cell hl0).trans c1; have g2 := (hb.cell hl0).trans c2; have g3 := (hb.cell hl0).trans c3; have g4 := (hb.cell hl0).trans c4; have g5 := (hb.cell hl0).trans c5; have g6 := (hb.cell hl0).trans c6; have g7 := (hb.cell hl0).trans c7; have g8 := (hb.cell hl0).trans c8; have g9 := (hb.cell hl0).trans c9; have g10 := (hb.cell hl0).trans c10; have g11 := (hb.cell hl0).trans c11; have g12 := (hb.cell hl0).trans c12
  clear hb hiff c0 c1 c2 c3 c4 c5 c6 c7 c8 c9 c10 c11 c12 hl0
  go_upto_if 50 with fail
  go_cut [] from 9 (fun wx => Below A.heap.size A wx)
  case first =>
    cases b with
    | false =>
      clear g0 g1 g2 g3 g4 g5 g6 g7 g8 g9 g10 g11 g12
      go_wp2_with fail
      go_meet
      case rel => exact HB1.out
    | true =>
      have hft := HI.out.1 rfl
      have hmr : MsgR [id, at_, un, co, pr, hp] tp rp (.mk md mi mb ms mps) := fit_msgR hft HII.out (fair_right kM _ _ HM.out hft.1.2 hft.1.1.1)
      obtain ⟨FR, hFR⟩ : ∃ FR, frameB (bodyB [id, at_, un, co, pr, hp] tp rp (.mk md mi mb ms mps)) = FR := ⟨_, rfl⟩
      have CE1 : Hid (∀ W, Below w.heap.size w W → Calls Tryd.prog 19 #[.agg #[.int .i64 id, .string tp, .int .i64 md, .int .i64 mi, .int .u64 mb, .string ms, .slice mp mps.length mcap, .int .i64 at_, .int .i64 un, .string rp, .int .i64 co, .int .i64 pr, .int .i64 hp]] W (BPost FR W)) := by show ∀ W, _; rw [← hFR]; exact CE.out
      have HFL : Hid (FR.length ≤ 20000000) := by show _ ≤ _; rw [← hFR]; exact frameB_small _
      have HFP : Hid ((FR = [] ∧ FR.length = 0) ∨ (0 < FR.length ∧ decD (FR ++ Q) = .ok ([id, at_, un, co, pr, hp], tp, rp, (.mk md mi mb ms mps)) FR.length)) := by
        show _ ∨ _
        rw [← hFR]
        by_cases hN : (bodyB [id, at_, un, co, pr, hp] tp rp (.mk md mi mb ms mps)).length ≤ 16777216
        · exact .inr ⟨by rw [frameB_cons hN]; simp, decD_frame hmr hft.2 hN Q⟩
        · have e : frameB (bodyB [id, at_, un, co, pr, hp] tp rp (.mk md mi mb ms mps)) = [] := by unfold frameB; rw [if_pos (by omega)]
          exact .inl ⟨e, by rw [e]; rfl⟩
      clear hft hmr hFR
      go_wp2_with fail
      refine (CE1.out _ (HBA.out.trans (HB1.out.mono HBA.out.size))).mono ?_
      rintro e W2 ⟨v1, rfl, hr1, hb⟩
      obtain ⟨q1, m1, cc1, rfl⟩ := row_val hr1
      obtain rfl : m1 = FR.length := ((bs_of_own hr1).len).1
      have HR1 := Lib.hid hr1
      have HB2 := Lib.hid (HB1.out.trans (hb.mono HB1.out.size))
      have HS12 : Hid (W1.heap.size ≤ W2.heap.size) := hb.size
      have HQ2 : Hid (Bs W2 (.slice pq Q.length cq) Q) := HQ.out.below (HBA.out.trans (HB2.out.mono HBA.out.size))
      clear hb hr1 g0 g1 g2 g3 g4 g5 g6 g7 g8 g9 g10 g11 g12
      go_upto_region 10 with fail
      go_wp2_with (at_builtin; refine wpList_append_bytes _ rfl (.tmp 56) (.tmp 57) rfl W1.heap.size (.slice q1 FR.length cc1) FR rfl HR1.out pq cq Q rfl HQ2.out (by have := HQL.out; have := HFL.out; omega) HS12.out ?_; intro v6 W6 hrow6 hg6; obtain ⟨q6, m6, c6, rfl⟩ := row_val hrow6; have HR6 := Lib.hid (bs_of_own hrow6); have HB6 : Hid (Below A.heap.size A W6) := HB2.out.trans ⟨hg6.os, hg6.tape, hg6.output, hg6.size, fun i hi => hg6.block i (Nat.lt_of_lt_of_le hi HB2.out.size) (fun e => by have := (HR1.out.lt i e.symm).1; have := HB1.out.size; omega)⟩; clear hrow6 hg6)
      have CDD : Hid (Calls Tryd.prog 22 #[.slice q6 m6 c6] W6 (DecOut (FR ++ Q) W6)) := decode_any (FR ++ Q) _ W6 HR6.out (by rw [List.length_append]; have := HQL.out; have := HFL.out; omega) (HTB.out.below (HBA.out.trans (HB6.out.mono HBA.out.size)))
      go_wp2_with fail
      refine CDD.out.mono ?_
      rintro e W7 ⟨a0, a1, a2, a3, a4, a5, ta, ra, kd1, di1, db1, ds1, p1, n1, c1, k1, e1, rfl, hb7, hd1⟩
      have HB7 := Lib.hid (HB6.out.trans (hb7.mono HB6.out.size))
      rcases HFP.out with ⟨-, hz⟩ | ⟨hpos, hdec⟩
      · have HZ := Lib.hid hz
        have hz2 : ¬ (0 : Int) < (FR.length : Int) := by omega
        clear hd1 hb7
        go_wp2_with fail
        go_meet
        case rel => exact HB7.out.alloc HB7.out.size _
      · rw [hdec] at hd1
        obtain ⟨rfl, rfl, h3, rfl, rfl, hd1⟩ := hd1
        simp only [List.cons.injEq, and_true] at h3
        obtain ⟨rfl, rfl, rfl, rfl, rfl, rfl⟩ := h3
        obtain ⟨ps2, hps⟩ := hd1.mk
        have hps2 : Dv.mk md mi mb ms mps = .mk kd1 di1 db1 ds1 ps2 := hps
        injection hps2 with y0 y1 y2 y3 y4
        subst y0; subst y1; subst y2; subst y3; subst y4
        obtain rfl : n1 = mps.length := hd1.is.top.1
        have hpos2 : (0 : Int) < (FR.length : Int) := by omega
        clear hpos hdec
        obtain ⟨X7, hX7⟩ : ∃ X7, W7.alloc (.cells #[.int .i64 id, .string tp, .int .i64 md, .int .i64 mi, .int .u64 mb, .string ms, .slice p1 mps.length c1, .int .i64 at_, .int .i64 un, .string rp, .int .i64 co, .int .i64 pr, .int .i64 hp] 39) = X7 := ⟨_, rfl⟩
        have BX6 : Hid (Below W6.heap.size W6 X7) := by show Below _ _ _; rw [← hX7]; exact hb7.alloc hb7.size _
        have BX7 : Hid (Below A.heap.size A X7) := HB6.out.trans (BX6.out.mono HB6.out.size)
        have XC : Hid (X7.heap[W7.heap.size]? = some (.cells #[.int .i64 id, .string tp, .int .i64 md, .int .i64 mi, .int .u64 mb, .string ms, .slice p1 mps.length c1, .int .i64 at_, .int .i64 un, .string rp, .int .i64 co, .int .i64 pr, .int .i64 hp] 39 (0, 0))) := by show _ = _; rw [← hX7]; exact heap_alloc_new W7 _
        have XD : Hid (X7.heap[w.heap.size + 1]? = some (.cells #[.int .i64 id, .string tp, .int .i64 md, .int .i64 mi, .int .u64 mb, .string ms, .slice mp mps.length mcap, .int .i64 at_, .int .i64 un, .string rp, .int .i64 co, .int .i64 pr, .int .i64 hp] 39 (0, 0))) := (BX7.out.block _ HLM.out).trans KM.out
        have KX : Hid (∀ b, b < W7.heap.size → X7.heap[b]? = W7.heap[b]?) := fun b hb => by rw [← hX7]; exact Below.heap_alloc _ _ _ hb
        have SX : Hid (W7.heap.size < X7.heap.size) := (Array.getElem?_eq_some_iff.1 XC.out).1
        have CS : Hid (Calls Tryd.prog 24 #[.agg #[.int .i64 id, .string tp, .int .i64 md, .int .i64 mi, .int .u64 mb, .string ms, .slice p1 mps.length c1, .int .i64 at_, .int .i64 un, .string rp, .int .i64 co, .int .i64 pr, .int .i64 hp], .agg #[.int .i64 id, .string tp, .int .i64 md, .int .i64 mi, .int .u64 mb, .string ms, .slice mp mps.length mcap, .int .i64 at_, .int .i64 un, .string rp, .int .i64 co, .int .i64 pr, .int .i64 hp]] X7 (FtPost X7)) :=
          sameMsg_any X7 id at_ un co pr hp tp rp md mi mb ms p1 mp mps.length c1 mcap (fun WS hS => same_any 16 WS kM md mi mb ms p1 mps.length c1 mp mcap mps (hd1.kept fun b hb hl => ⟨(hS.block b (by have := SX.out; omega)).trans (KX.out b hl), trivial⟩ : DvIn (fun _ => True) WS 16 _ _).is (HM.out.below (HBA.out.trans ((BX7.out.trans (hS.mono BX7.out.size)).mono HBA.out.size))))
        have HX7 := Lib.hid hX7
        clear hd1 hb7 hX7 hps
        go_upto_region 11 with fail
        rw [HX7.out]
        obtain ⟨x0, x1, x2, x3, x4, x5, x6, x7, x8, x9, x10, x11, x12, hlx⟩ := cells13 XC.out
        obtain ⟨y0, y1, y2, y3, y4, y5, y6, y7, y8, y9, y10, y11, y12, hly⟩ := cells13 XD.out
        go_wp2_with fail
        refine CS.out.mono ?_
        rintro e W8 ⟨rfl, hb8⟩
        have B8 := Lib.hid (BX7.out.trans (hb8.mono BX7.out.size))
        clear hb8 x0 x1 x2 x3 x4 x5 x6 x7 x8 x9 x10 x11 x12 hlx y0 y1 y2 y3 y4 y5 y6 y7 y8 y9 y10 y11 y12 hly
        go_wp2_with fail
        go_meet
        case rel => exact B8.out
  case rest =>
  clear HV HB1 HI g0 g1 g2 g3 g4 g5 g6 g7 g8 g9 g10 g11 g12
  have HV0 := Lib.hid hcut
  clear hcut
  go_upto_region 13 with fail
  refine wp_world (fun W => Below A.heap.size A W) HV0.out (fun V hV => ?_)
  have HV := Lib.hid hV
  clear hV HV0
  go_wp2_with fail
  refine (CDB.out _ (HBA.out.trans (HV.out.mono HBA.out.size))).mono ?_
  rintro e W7 ⟨a0, a1, a2, a3, a4, a5, ta, ra, kd1, di1, db1, ds1, p1, n1, c1, k1, e1, rfl, hb7, hd1⟩
  obtain ⟨X7, hX7⟩ : ∃ X7, W7.alloc (.cells #[.int .i64 a0, .string ta, .int .i64 kd1, .int .i64 di1, .int .u64 db1, .string ds1, .slice p1 n1 c1, .int .i64 a1, .int .i64 a2, .string ra, .int .i64 a3, .int .i64 a4, .int .i64 a5] 39) = X7 := ⟨_, rfl⟩
  have BX6 : Hid (Below V.heap.size V X7) := by show Below _ _ _; rw [← hX7]; exact hb7.alloc hb7.size _
  have BX7 : Hid (Below A.heap.size A X7) := HV.out.trans (BX6.out.mono HV.out.size)
  have XC : Hid (X7.heap[W7.heap.size]? = some (.cells #[.int .i64 a0, .string ta, .int .i64 kd1, .int .i64 di1, .int .u64 db1, .string ds1, .slice p1 n1 c1, .int .i64 a1, .int .i64 a2, .string ra, .int .i64 a3, .int .i64 a4, .int .i64 a5] 39 (0, 0))) := by show _ = _; rw [← hX7]; exact heap_alloc_new W7 _
  have KX : Hid (∀ b, b < W7.heap.size → X7.heap[b]? = W7.heap[b]?) := fun b hb => by rw [← hX7]; exact Below.heap_alloc _ _ _ hb
  have HX7 := Lib.hid hX7
  clear hX7
  go_upto_region 14 with fail
  rw [HX7.out]
  obtain ⟨x0, x1, x2, x3, x4, x5, x6, x7, x8, x9, x10, x11, x12, hl0⟩ := cells13 XC.out
  cases hdd : decD L with
  | err e' =>
    rw [hdd] at hd1
    obtain ⟨rfl, rfl, -⟩ := hd1
    have hne : (e1 != 0) = true := by rcases decD_errs hdd with rfl | rfl | rfl <;> rfl
    have hne2 : (e1 == 0) = false := by rcases decD_errs hdd with rfl | rfl | rfl <;> rfl
    clear hdd hb7 x0 x1 x2 x3 x4 x5 x6 x7 x8 x9 x10 x11 x12 hl0
    refine wp_region_held_drew (S := (fun _ => True)) (by kernel_rfl) trivial (fun hHeld => ?_)
    refine wpAnyH_take (i := 0) (oi := _) (v := ?_) rfl (by kernel_rfl) (by kernel_rfl) (by kernel_rfl) (fun _ _ _ h => h) (Or.inl ⟨by rfl, ?_⟩) (by assumption) ?_
    rotate_left
    focus (intro w' hSw; (try dsimp only at hSw); go_simp; try with_reducible rfl)
    (try simp only [Act.put, List.setIfInBounds_toArray, List.set_cons_zero, List.set_cons_succ, List.getElem_toArray, List.getElem_cons_succ, List.getElem_cons_zero])
    refine wpAnyH_take (i := 1) (oi := _) (v := ?_) rfl (by kernel_rfl) (by kernel_rfl) (by kernel_rfl) (fun _ _ _ h => h) (Or.inl ⟨by rfl, ?_⟩) (by assumption) ?_
    rotate_left
    focus (intro w' hSw; (try dsimp only at hSw); go_simp; try with_reducible rfl)
    (try simp only [Act.put, List.setIfInBounds_toArray, List.set_cons_zero, List.set_cons_succ, List.getElem_toArray, List.getElem_cons_succ, List.getElem_cons_zero])
    refine wpAnyH_take (i := 2) (oi := _) (v := ?_) rfl (by kernel_rfl) (by kernel_rfl) (by kernel_rfl) (fun _ _ _ h => h) (Or.inl ⟨by rfl, ?_⟩) (by assumption) ?_
    rotate_left
    focus (intro w' hSw; (try dsimp only at hSw); go_simp; try with_reducible rfl)
    (try simp only [Act.put, List.setIfInBounds_toArray, List.set_cons_zero, List.set_cons_succ, List.getElem_toArray, List.getElem_cons_succ, List.getElem_cons_zero])
    refine wpAnyH_take (i := 3) (oi := _) (v := undef) rfl (by kernel_rfl) (by kernel_rfl) (by kernel_rfl) (fun _ _ _ h => h) (Or.inr ⟨by rfl, rfl⟩) (by assumption) ?_
    (try simp only [Act.put, List.setIfInBounds_toArray, List.set_cons_zero, List.set_cons_succ, List.getElem_toArray, List.getElem_cons_succ, List.getElem_cons_zero])
    refine wpAnyH_take (i := 4) (oi := _) (v := undef) rfl (by kernel_rfl) (by kernel_rfl) (by kernel_rfl) (fun _ _ _ h => h) (Or.inr ⟨by rfl, rfl⟩) (by assumption) ?_
    (try simp only [Act.put, List.setIfInBounds_toArray, List.set_cons_zero, List.set_cons_succ, List.getElem_toArray, List.getElem_cons_succ, List.getElem_cons_zero])
    refine wpAnyH_take (i := 5) (oi := _) (v := undef) rfl (by kernel_rfl) (by kernel_rfl) (by kernel_rfl) (fun _ _ _ h => h) (Or.inr ⟨by rfl, rfl⟩) (by assumption) ?_
    (try simp only [Act.put, List.setIfInBounds_toArray, List.set_cons_zero, List.set_cons_succ, List.getElem_toArray, List.getElem_cons_succ, List.getElem_cons_zero])
    refine wpAnyH_take (i := 6) (oi := _) (v := undef) rfl (by kernel_rfl) (by kernel_rfl) (by kernel_rfl) (fun _ _ _ h => h) (Or.inr ⟨by rfl, rfl⟩) (by assumption) ?_
    (try simp only [Act.put, List.setIfInBounds_toArray, List.set_cons_zero, List.set_cons_succ, List.getElem_toArray, List.getElem_cons_succ, List.getElem_cons_zero])
    refine wpAnyH_take (i := 7) (oi := _) (v := undef) rfl (by kernel_rfl) (by kernel_rfl) (by kernel_rfl) (fun _ _ _ h => h) (Or.inr ⟨by rfl, rfl⟩) (by assumption) ?_
    (try simp only [Act.put, List.setIfInBounds_toArray, List.set_cons_zero, List.set_cons_succ, List.getElem_toArray, List.getElem_cons_succ, List.getElem_cons_zero])
    refine wpAnyH_take (i := 8) (oi := _) (v := undef) rfl (by kernel_rfl) (by kernel_rfl) (by kernel_rfl) (fun _ _ _ h => h) (Or.inr ⟨by rfl, rfl⟩) (by assumption) ?_
    (try simp only [Act.put, List.setIfInBounds_toArray, List.set_cons_zero, List.set_cons_succ, List.getElem_toArray, List.getElem_cons_succ, List.getElem_cons_zero])
    refine wpAnyH_take (i := 9) (oi := _) (v := undef) rfl (by kernel_rfl) (by kernel_rfl) (by kernel_rfl) (fun _ _ _ h => h) (Or.inr ⟨by rfl, rfl⟩) (by assumption) ?_
    (try simp only [Act.put, List.setIfInBounds_toArray, List.set_cons_zero, List.set_cons_succ, List.getElem_toArray, List.getElem_cons_succ, List.getElem_cons_zero])
    refine wpAnyH_take (i := 10) (oi := _) (v := undef) rfl (by kernel_rfl) (by kernel_rfl) (by kernel_rfl) (fun _ _ _ h => h) (Or.inr ⟨by rfl, rfl⟩) (by assumption) ?_
    (try simp only [Act.put, List.setIfInBounds_toArray, List.set_cons_zero, List.set_cons_succ, List.getElem_toArray, List.getElem_cons_succ, List.getElem_cons_zero])
    refine wpAnyH_take (i := 11) (oi := _) (v := undef) rfl (by kernel_rfl) (by kernel_rfl) (by kernel_rfl) (fun _ _ _ h => h) (Or.inr ⟨by rfl, rfl⟩) (by assumption) ?_
    (try simp only [Act.put, List.setIfInBounds_toArray, List.set_cons_zero, List.set_cons_succ, List.getElem_toArray, List.getElem_cons_succ, List.getElem_cons_zero])
    refine wpAnyH_take (i := 12) (oi := _) (v := undef) rfl (by kernel_rfl) (by kernel_rfl) (by kernel_rfl) (fun _ _ _ h => h) (Or.inr ⟨by rfl, rfl⟩) (by assumption) ?_
    (try simp only [Act.put, List.setIfInBounds_toArray, List.set_cons_zero, List.set_cons_succ, List.getElem_toArray, List.getElem_cons_succ, List.getElem_cons_zero])
    refine wpAnyH_take (i := 13) (oi := _) (v := undef) rfl (by kernel_rfl) (by kernel_rfl) (by kernel_rfl) (fun _ _ _ h => h) (Or.inr ⟨by rfl, rfl⟩) (by assumption) ?_
    (try simp only [Act.put, List.setIfInBounds_toArray, List.set_cons_zero, List.set_cons_succ, List.getElem_toArray, List.getElem_cons_succ, List.getElem_cons_zero])
    refine wpAnyH_take (i := 14) (oi := _) (v := undef) rfl (by kernel_rfl) (by kernel_rfl) (by kernel_rfl) (fun _ _ _ h => h) (Or.inr ⟨by rfl, rfl⟩) (by assumption) ?_
    (try simp only [Act.put, List.setIfInBounds_toArray, List.set_cons_zero, List.set_cons_succ, List.getElem_toArray, List.getElem_cons_succ, List.getElem_cons_zero])
    refine wpAnyH_take (i := 15) (oi := _) (v := undef) rfl (by kernel_rfl) (by kernel_rfl) (by kernel_rfl) (fun _ _ _ h => h) (Or.inr ⟨by rfl, rfl⟩) (by assumption) ?_
    (try simp only [Act.put, List.setIfInBounds_toArray, List.set_cons_zero, List.set_cons_succ, List.getElem_toArray, List.getElem_cons_succ, List.getElem_cons_zero])
    refine wpAnyH_take (i := 16) (oi := _) (v := undef) rfl (by kernel_rfl) (by kernel_rfl) (by kernel_rfl) (fun _ _ _ h => h) (Or.inr ⟨by rfl, rfl⟩) (by assumption) ?_
    (try simp only [Act.put, List.setIfInBounds_toArray, List.set_cons_zero, List.set_cons_succ, List.getElem_toArray, List.getElem_cons_succ, List.getElem_cons_zero])
    refine wpAnyH_take (i := 17) (oi := _) (v := ?_) rfl (by kernel_rfl) (by kernel_rfl) (by kernel_rfl) (fun _ _ _ h => h) (Or.inl ⟨by rfl, ?_⟩) (by assumption) ?_
    rotate_left
    focus (intro w' hSw; (try dsimp only at hSw); go_simp; try with_reducible rfl)
    (try simp only [Act.put, List.setIfInBounds_toArray, List.set_cons_zero, List.set_cons_succ, List.getElem_toArray, List.getElem_cons_succ, List.getElem_cons_zero])
    refine wpAnyH_take (i := 18) (oi := _) (v := ?_) rfl (by kernel_rfl) (by kernel_rfl) (by kernel_rfl) (fun _ _ _ h => h) (Or.inl ⟨by rfl, ?_⟩) (by assumption) ?_
    rotate_left
    focus (intro w' hSw; (try dsimp only at hSw); go_simp; try with_reducible rfl)
    (try simp only [Act.put, List.setIfInBounds_toArray, List.set_cons_zero, List.set_cons_succ, List.getElem_toArray, List.getElem_cons_succ, List.getElem_cons_zero])
    refine wpAnyH_ready (rs := [19]) (by kernel_rfl) (by simp) ?_
    refine AllReadyH.cons (o := _) rfl (fun K hK => ?_) AllReadyH.nil
    (go_simp; refine (CA.out _ (HBA.out.trans ((below_drew' BX7.out).mono HBA.out.size))).mono ?_; rintro e W9 ⟨rfl, hb⟩; have HB9 := Lib.hid ((HBA.out.trans ((below_drew' BX7.out).mono HBA.out.size)).trans (hb.mono (HBA.out.trans ((below_drew' BX7.out).mono HBA.out.size)).size)); clear hb; try go_simp)
    refine hK.out _ _ trivial (fun hHeld => ?_)
    clear hK K
    (try simp only [Act.put, List.setIfInBounds_toArray, List.set_cons_zero, List.set_cons_succ, List.getElem_toArray, List.getElem_cons_succ, List.getElem_cons_zero])
    refine wpAnyH_take (i := 20) (oi := _) (v := ?_) rfl (by kernel_rfl) (by kernel_rfl) (by kernel_rfl) (fun _ _ _ h => h) (Or.inl ⟨by rfl, ?_⟩) (by assumption) ?_
    rotate_left
    focus (intro w' hSw; (try dsimp only at hSw); go_simp; try with_reducible rfl)
    (try simp only [Act.put, List.setIfInBounds_toArray, List.set_cons_zero, List.set_cons_succ, List.getElem_toArray, List.getElem_cons_succ, List.getElem_cons_zero])
    refine wpAnyH_take (i := 21) (oi := _) (v := ?_) rfl (by kernel_rfl) (by kernel_rfl) (by kernel_rfl) (fun _ _ _ h => h) (Or.inl ⟨by rfl, ?_⟩) (by assumption) ?_
    rotate_left
    focus (intro w' hSw; (try dsimp only at hSw); go_simp; try with_reducible rfl)
    (try simp only [Act.put, List.setIfInBounds_toArray, List.set_cons_zero, List.set_cons_succ, List.getElem_toArray, List.getElem_cons_succ, List.getElem_cons_zero])
    refine wpAnyH_done (by kernel_rfl) ?_ _
    go_wp2_with fail
    rw [← HPP.out]
    exact ⟨rfl, by first | exact HB9.out | exact below_drew' HB9.out⟩
  | ok x m =>
    obtain ⟨ns, tp', rp', t⟩ := x
    rw [hdd] at hd1
    obtain ⟨rfl, rfl, h3, h4, h5, hd1⟩ := hd1
    simp only at h3 h4 h5
    subst h3
    obtain rfl : ta = tp' := h4.symm
    obtain rfl : ra = rp' := h5.symm
    obtain ⟨ps2, hps⟩ := hd1.mk
    have hps2 : t = .mk kd1 di1 db1 ds1 ps2 := hps
    subst hps2
    obtain ⟨hk1, hk2, hk3, hk4, hk5⟩ := decD_back hdd
    obtain ⟨qw, cw, hsl, hbw⟩ := Bs.head (HL.out.below (HBA.out.trans (BX7.out.mono HBA.out.size))) hk1
    rw [hk2] at hbw
    have HBW := Lib.hid hbw
    have htw := hbw.text
    have htw' : (convert 26 9 (.slice qw m cw)).run Tryd.prog X7.drew = .ok (.string (ba (frameB (bodyB [a0, a1, a2, a3, a4, a5] ta ra (.mk kd1 di1 db1 ds1 ps2))))) X7.drew := Bs.text (show Bs X7.drew (.slice qw m cw) _ from hbw)
    have hkL : (m : Int) ≤ (L.length : Int) := by omega
    have hel : (enc (.mk kd1 di1 db1 ds1 ps2)).length ≤ 90000000 := by
      have : (enc (.mk kd1 di1 db1 ds1 ps2)).length ≤ (bodyB [a0, a1, a2, a3, a4, a5] ta ra (.mk kd1 di1 db1 ds1 ps2)).length := by unfold bodyB; simp only [List.length_append]; omega
      omega
    have CE2 : Hid (∀ W, Below A.heap.size A W → Below X7.heap.size X7 W → Calls Tryd.prog 19 #[.agg #[.int .i64 a0, .string ta, .int .i64 kd1, .int .i64 di1, .int .u64 db1, .string ds1, .slice p1 n1 c1, .int .i64 a1, .int .i64 a2, .string ra, .int .i64 a3, .int .i64 a4, .int .i64 a5]] W (BPost (frameB (bodyB [a0, a1, a2, a3, a4, a5] ta ra (.mk kd1 di1 db1 ds1 ps2))) W)) := fun W _ hb => encode_any 16 W a0 a1 a2 a3 a4 a5 ta ra kd1 di1 db1 ds1 p1 n1 c1 ps2 ((hd1.kept fun b hb' hl => ⟨(hb.block b (Nat.lt_trans hl (Array.getElem?_eq_some_iff.1 XC.out).1)).trans (KX.out b hl), trivial⟩ : DvIn (fun _ => True) W 16 _ _).is) hk3.i64 (by have := hk3.tp; omega) (by have := hk3.rp; omega) hel
    clear hdd hb7 hd1 hps hk2 hk3 hk4 hk5 hbw hel
    refine wp_region_held_drew (S := (fun w' => w'.cell? ⟨W7.heap.size, 0, none⟩ = some (.int .i64 a0) ∧ w'.cell? ⟨W7.heap.size, 1, none⟩ = some (.string ta) ∧ w'.cell? ⟨W7.heap.size, 2, none⟩ = some (.int .i64 kd1) ∧ w'.cell? ⟨W7.heap.size, 3, none⟩ = some (.int .i64 di1) ∧ w'.cell? ⟨W7.heap.size, 4, none⟩ = some (.int .u64 db1) ∧ w'.cell? ⟨W7.heap.size, 5, none⟩ = some (.string ds1) ∧ w'.cell? ⟨W7.heap.size, 6, none⟩ = some (.slice p1 n1 c1) ∧ w'.cell? ⟨W7.heap.size, 7, none⟩ = some (.int .i64 a1) ∧ w'.cell? ⟨W7.heap.size, 8, none⟩ = some (.int .i64 a2) ∧ w'.cell? ⟨W7.heap.size, 9, none⟩ = some (.string ra) ∧ w'.cell? ⟨W7.heap.size, 10, none⟩ = some (.int .i64 a3) ∧ w'.cell? ⟨W7.heap.size, 11, none⟩ = some (.int .i64 a4) ∧ w'.cell? ⟨W7.heap.size, 12, none⟩ = some (.int .i64 a5))) (by kernel_rfl) ⟨x0, x1, x2, x3, x4, x5, x6, x7, x8, x9, x10, x11, x12⟩ (fun hHeld => ?_)
    refine wpAnyH_take (i := 0) (oi := _) (v := ?_) rfl (by kernel_rfl) (by kernel_rfl) (by kernel_rfl) (fun _ _ _ h => h) (Or.inl ⟨by rfl, ?_⟩) (by assumption) ?_
    rotate_left
    focus (intro w' hSw; (try dsimp only at hSw); go_simp; try with_reducible rfl)
    (try simp only [Act.put, List.setIfInBounds_toArray, List.set_cons_zero, List.set_cons_succ, List.getElem_toArray, List.getElem_cons_succ, List.getElem_cons_zero])
    refine wpAnyH_take (i := 1) (oi := _) (v := ?_) rfl (by kernel_rfl) (by kernel_rfl) (by kernel_rfl) (fun _ _ _ h => h) (Or.inl ⟨by rfl, ?_⟩) (by assumption) ?_
    rotate_left
    focus (intro w' hSw; (try dsimp only at hSw); go_simp; try with_reducible rfl)
    (try simp only [Act.put, List.setIfInBounds_toArray, List.set_cons_zero, List.set_cons_succ, List.getElem_toArray, List.getElem_cons_succ, List.getElem_cons_zero])
    refine wpAnyH_take (i := 2) (oi := _) (v := ?_) rfl (by kernel_rfl) (by kernel_rfl) (by kernel_rfl) (fun _ _ _ h => h) (Or.inl ⟨by rfl, ?_⟩) (by assumption) ?_
    rotate_left
    focus (intro w' hSw; (try dsimp only at hSw); go_simp; try with_reducible rfl)
    (try simp only [Act.put, List.setIfInBounds_toArray, List.set_cons_zero, List.set_cons_succ, List.getElem_toArray, List.getElem_cons_succ, List.getElem_cons_zero])
    refine wpAnyH_take (i := 3) (oi := _) (v := ?_) rfl (by kernel_rfl) (by kernel_rfl) (by kernel_rfl) (fun _ _ _ h => h) (Or.inl ⟨by rfl, ?_⟩) (by assumption) ?_
    rotate_left
    focus (intro w' hSw; (try dsimp only at hSw); go_simp; try with_reducible rfl)
    (try simp only [Act.put, List.setIfInBounds_toArray, List.set_cons_zero, List.set_cons_succ, List.getElem_toArray, List.getElem_cons_succ, List.getElem_cons_zero])
    refine wpAnyH_take (i := 4) (oi := _) (v := ?_) rfl (by kernel_rfl) (by kernel_rfl) (by kernel_rfl) (fun _ _ _ h => h) (Or.inl ⟨by rfl, ?_⟩) (by assumption) ?_
    rotate_left
    focus (intro w' hSw; (try dsimp only at hSw); go_simp; try with_reducible rfl)
    (try simp only [Act.put, List.setIfInBounds_toArray, List.set_cons_zero, List.set_cons_succ, List.getElem_toArray, List.getElem_cons_succ, List.getElem_cons_zero])
    refine wpAnyH_take (i := 5) (oi := _) (v := ?_) rfl (by kernel_rfl) (by kernel_rfl) (by kernel_rfl) (fun _ _ _ h => h) (Or.inl ⟨by rfl, ?_⟩) (by assumption) ?_
    rotate_left
    focus (intro w' hSw; (try dsimp only at hSw); go_simp; try with_reducible rfl)
    (try simp only [Act.put, List.setIfInBounds_toArray, List.set_cons_zero, List.set_cons_succ, List.getElem_toArray, List.getElem_cons_succ, List.getElem_cons_zero])
    refine wpAnyH_take (i := 6) (oi := _) (v := ?_) rfl (by kernel_rfl) (by kernel_rfl) (by kernel_rfl) (fun _ _ _ h => h) (Or.inl ⟨by rfl, ?_⟩) (by assumption) ?_
    rotate_left
    focus (intro w' hSw; (try dsimp only at hSw); go_simp; try with_reducible rfl)
    (try simp only [Act.put, List.setIfInBounds_toArray, List.set_cons_zero, List.set_cons_succ, List.getElem_toArray, List.getElem_cons_succ, List.getElem_cons_zero])
    refine wpAnyH_take (i := 7) (oi := _) (v := ?_) rfl (by kernel_rfl) (by kernel_rfl) (by kernel_rfl) (fun _ _ _ h => h) (Or.inl ⟨by rfl, ?_⟩) (by assumption) ?_
    rotate_left
    focus (intro w' hSw; (try dsimp only at hSw); go_simp; try with_reducible rfl)
    (try simp only [Act.put, List.setIfInBounds_toArray, List.set_cons_zero, List.set_cons_succ, List.getElem_toArray, List.getElem_cons_succ, List.getElem_cons_zero])
    refine wpAnyH_take (i := 8) (oi := _) (v := ?_) rfl (by kernel_rfl) (by kernel_rfl) (by kernel_rfl) (fun _ _ _ h => h) (Or.inl ⟨by rfl, ?_⟩) (by assumption) ?_
    rotate_left
    focus (intro w' hSw; (try dsimp only at hSw); go_simp; try with_reducible rfl)
    (try simp only [Act.put, List.setIfInBounds_toArray, List.set_cons_zero, List.set_cons_succ, List.getElem_toArray, List.getElem_cons_succ, List.getElem_cons_zero])
    refine wpAnyH_take (i := 11) (oi := _) (v := ?_) rfl (by kernel_rfl) (by kernel_rfl) (by kernel_rfl) (fun _ _ _ h => h) (Or.inl ⟨by rfl, ?_⟩) (by assumption) ?_
    rotate_left
    focus (intro w' hSw; (try dsimp only at hSw); go_simp; try with_reducible rfl)
    (try simp only [Act.put, List.setIfInBounds_toArray, List.set_cons_zero, List.set_cons_succ, List.getElem_toArray, List.getElem_cons_succ, List.getElem_cons_zero])
    refine wpAnyH_take (i := 12) (oi := _) (v := ?_) rfl (by kernel_rfl) (by kernel_rfl) (by kernel_rfl) (fun _ _ _ h => h) (Or.inl ⟨by rfl, ?_⟩) (by assumption) ?_
    rotate_left
    focus (intro w' hSw; (try dsimp only at hSw); go_simp; try with_reducible rfl)
    (try simp only [Act.put, List.setIfInBounds_toArray, List.set_cons_zero, List.set_cons_succ, List.getElem_toArray, List.getElem_cons_succ, List.getElem_cons_zero])
    refine wpAnyH_take (i := 13) (oi := _) (v := ?_) rfl (by kernel_rfl) (by kernel_rfl) (by kernel_rfl) (fun _ _ _ h => h) (Or.inl ⟨by rfl, ?_⟩) (by assumption) ?_
    rotate_left
    focus (intro w' hSw; (try dsimp only at hSw); go_simp; try with_reducible rfl)
    (try simp only [Act.put, List.setIfInBounds_toArray, List.set_cons_zero, List.set_cons_succ, List.getElem_toArray, List.getElem_cons_succ, List.getElem_cons_zero])
    refine wpAnyH_ready (rs := [9, 14]) (by kernel_rfl) (by simp) ?_
    refine AllReadyH.cons (o := _) rfl (fun K hK => ?_) ?_
    · (go_simp; refine (CE2.out _ (below_drew' BX7.out) (below_drew' (Below.refl _ _))).mono ?_; rintro e W8 ⟨v8, rfl, hr8, hb⟩; have HB8 := Lib.hid (HBA.out.trans (((below_drew' BX7.out).trans (hb.mono (below_drew' BX7.out).size)).mono HBA.out.size)); obtain ⟨q8, m8, c8, rfl⟩ := row_val hr8; have HR8 := Lib.hid (bs_of_own hr8); have htx8 := HR8.out.text; have htw8 := ((show Bs X7.drew _ _ from HBW.out).below hb).text; have g0 := (hb.cell hl0).trans x0; have g1 := (hb.cell hl0).trans x1; have g2 := (hb.cell hl0).trans x2; have g3 := (hb.cell hl0).trans x3; have g4 := (hb.cell hl0).trans x4; have g5 := (hb.cell hl0).trans x5; have g6 := (hb.cell hl0).trans x6; have g7 := (hb.cell hl0).trans x7; have g8 := (hb.cell hl0).trans x8; have g9 := (hb.cell hl0).trans x9; have g10 := (hb.cell hl0).trans x10; have g11 := (hb.cell hl0).trans x11; have g12 := (hb.cell hl0).trans x12; have hl8 := Nat.lt_of_lt_of_le hl0 hb.size; clear hb hr8; try go_simp)
      refine hK.out _ _ ⟨g0, g1, g2, g3, g4, g5, g6, g7, g8, g9, g10, g11, g12⟩ (fun hHeld => ?_)
      clear hK K
      (try simp only [Act.put, List.setIfInBounds_toArray, List.set_cons_zero, List.set_cons_succ, List.getElem_toArray, List.getElem_cons_succ, List.getElem_cons_zero])
      refine wpAnyH_ready (rs := [10, 14]) (by kernel_rfl) (by simp) ?_
      refine AllReadyH.cons (o := _) rfl (fun K hK => ?_) ?_
      · go_simp
        refine hK.out _ _ ⟨g0, g1, g2, g3, g4, g5, g6, g7, g8, g9, g10, g11, g12⟩ (fun hHeld => ?_)
        clear hK K
        (try simp only [Act.put, List.setIfInBounds_toArray, List.set_cons_zero, List.set_cons_succ, List.getElem_toArray, List.getElem_cons_succ, List.getElem_cons_zero])
        refine wpAnyH_ready (rs := [14]) (by kernel_rfl) (by simp) ?_
        refine AllReadyH.cons (o := _) rfl (fun K hK => ?_) AllReadyH.nil
        go_simp
        refine hK.out _ _ ⟨g0, g1, g2, g3, g4, g5, g6, g7, g8, g9, g10, g11, g12⟩ (fun hHeld => ?_)
        clear hK K
        (try simp only [Act.put, List.setIfInBounds_toArray, List.set_cons_zero, List.set_cons_succ, List.getElem_toArray, List.getElem_cons_succ, List.getElem_cons_zero])
        refine wpAnyH_take (i := 15) (oi := _) (v := ?_) rfl (by kernel_rfl) (by kernel_rfl) (by kernel_rfl) (fun _ _ _ h => h) (Or.inl ⟨by rfl, ?_⟩) (by assumption) ?_
        rotate_left
        focus (intro w' hSw; (try dsimp only at hSw); go_simp; try with_reducible rfl)
        (try simp only [Act.put, List.setIfInBounds_toArray, List.set_cons_zero, List.set_cons_succ, List.getElem_toArray, List.getElem_cons_succ, List.getElem_cons_zero])
        refine wpAnyH_take (i := 16) (oi := _) (v := ?_) rfl (by kernel_rfl) (by kernel_rfl) (by kernel_rfl) (fun _ _ _ h => h) (Or.inl ⟨by rfl, ?_⟩) (by assumption) ?_
        rotate_left
        focus (intro w' hSw; (try dsimp only at hSw); go_simp; try with_reducible rfl)
        (try simp only [Act.put, List.setIfInBounds_toArray, List.set_cons_zero, List.set_cons_succ, List.getElem_toArray, List.getElem_cons_succ, List.getElem_cons_zero])
        refine wpAnyH_take (i := 17) (oi := _) (v := ?_) rfl (by kernel_rfl) (by kernel_rfl) (by kernel_rfl) (fun _ _ _ h => h) (Or.inl ⟨by rfl, ?_⟩) (by assumption) ?_
        rotate_left
        focus (intro w' hSw; (try dsimp only at hSw); go_simp; try with_reducible rfl)
        (try simp only [Act.put, List.setIfInBounds_toArray, List.set_cons_zero, List.set_cons_succ, List.getElem_toArray, List.getElem_cons_succ, List.getElem_cons_zero])
        refine wpAnyH_take (i := 18) (oi := _) (v := ?_) rfl (by kernel_rfl) (by kernel_rfl) (by kernel_rfl) (fun _ _ _ h => h) (Or.inl ⟨by rfl, ?_⟩) (by assumption) ?_
        rotate_left
        focus (intro w' hSw; (try dsimp only at hSw); go_simp; try with_reducible rfl)
        (try simp only [Act.put, List.setIfInBounds_toArray, List.set_cons_zero, List.set_cons_succ, List.getElem_toArray, List.getElem_cons_succ, List.getElem_cons_zero])
        refine wpAnyH_ready (rs := [19]) (by kernel_rfl) (by simp) ?_
        refine AllReadyH.cons (o := _) rfl (fun K hK => ?_) AllReadyH.nil
        (go_simp; refine (CA.out _ HB8.out).mono ?_; rintro e W9 ⟨rfl, hb⟩; have HB9 := Lib.hid (HB8.out.trans (hb.mono HB8.out.size)); have k0 := (hb.cell hl8).trans g0; have k1 := (hb.cell hl8).trans g1; have k2 := (hb.cell hl8).trans g2; have k3 := (hb.cell hl8).trans g3; have k4 := (hb.cell hl8).trans g4; have k5 := (hb.cell hl8).trans g5; have k6 := (hb.cell hl8).trans g6; have k7 := (hb.cell hl8).trans g7; have k8 := (hb.cell hl8).trans g8; have k9 := (hb.cell hl8).trans g9; have k10 := (hb.cell hl8).trans g10; have k11 := (hb.cell hl8).trans g11; have k12 := (hb.cell hl8).trans g12; clear hb; try go_simp)
        refine hK.out _ _ ⟨k0, k1, k2, k3, k4, k5, k6, k7, k8, k9, k10, k11, k12⟩ (fun hHeld => ?_)
        clear hK K
        (try simp only [Act.put, List.setIfInBounds_toArray, List.set_cons_zero, List.set_cons_succ, List.getElem_toArray, List.getElem_cons_succ, List.getElem_cons_zero])
        refine wpAnyH_take (i := 20) (oi := _) (v := ?_) rfl (by kernel_rfl) (by kernel_rfl) (by kernel_rfl) (fun _ _ _ h => h) (Or.inl ⟨by rfl, ?_⟩) (by assumption) ?_
        rotate_left
        focus (intro w' hSw; (try dsimp only at hSw); go_simp; try with_reducible rfl)
        (try simp only [Act.put, List.setIfInBounds_toArray, List.set_cons_zero, List.set_cons_succ, List.getElem_toArray, List.getElem_cons_succ, List.getElem_cons_zero])
        refine wpAnyH_take (i := 21) (oi := _) (v := ?_) rfl (by kernel_rfl) (by kernel_rfl) (by kernel_rfl) (fun _ _ _ h => h) (Or.inl ⟨by rfl, ?_⟩) (by assumption) ?_
        rotate_left
        focus (intro w' hSw; (try dsimp only at hSw); go_simp; try with_reducible rfl)
        (try simp only [Act.put, List.setIfInBounds_toArray, List.set_cons_zero, List.set_cons_succ, List.getElem_toArray, List.getElem_cons_succ, List.getElem_cons_zero])
        refine wpAnyH_done (by kernel_rfl) ?_ _
        go_wp2_with fail
        rw [← HPP.out]
        exact ⟨rfl, by first | exact HB9.out | exact below_drew' HB9.out⟩
      refine AllReadyH.cons (o := _) rfl (fun K hK => ?_) AllReadyH.nil
      go_simp
      refine hK.out _ _ ⟨g0, g1, g2, g3, g4, g5, g6, g7, g8, g9, g10, g11, g12⟩ (fun hHeld => ?_)
      clear hK K
      (try simp only [Act.put, List.setIfInBounds_toArray, List.set_cons_zero, List.set_cons_succ, List.getElem_toArray, List.getElem_cons_succ, List.getElem_cons_zero])
      refine wpAnyH_ready (rs := [10]) (by kernel_rfl) (by simp) ?_
      refine AllReadyH.cons (o := _) rfl (fun K hK => ?_) AllReadyH.nil
      go_simp
      refine hK.out _ _ ⟨g0, g1, g2, g3, g4, g5, g6, g7, g8, g9, g10, g11, g12⟩ (fun hHeld => ?_)
      clear hK K
      (try simp only [Act.put, List.setIfInBounds_toArray, List.set_cons_zero, List.set_cons_succ, List.getElem_toArray, List.getElem_cons_succ, List.getElem_cons_zero])
      refine wpAnyH_take (i := 15) (oi := _) (v := ?_) rfl (by kernel_rfl) (by kernel_rfl) (by kernel_rfl) (fun _ _ _ h => h) (Or.inl ⟨by rfl, ?_⟩) (by assumption) ?_
      rotate_left
      focus (intro w' hSw; (try dsimp only at hSw); go_simp; try with_reducible rfl)
      (try simp only [Act.put, List.setIfInBounds_toArray, List.set_cons_zero, List.set_cons_succ, List.getElem_toArray, List.getElem_cons_succ, List.getElem_cons_zero])
      refine wpAnyH_take (i := 16) (oi := _) (v := ?_) rfl (by kernel_rfl) (by kernel_rfl) (by kernel_rfl) (fun _ _ _ h => h) (Or.inl ⟨by rfl, ?_⟩) (by assumption) ?_
      rotate_left
      focus (intro w' hSw; (try dsimp only at hSw); go_simp; try with_reducible rfl)
      (try simp only [Act.put, List.setIfInBounds_toArray, List.set_cons_zero, List.set_cons_succ, List.getElem_toArray, List.getElem_cons_succ, List.getElem_cons_zero])
      refine wpAnyH_take (i := 17) (oi := _) (v := ?_) rfl (by kernel_rfl) (by kernel_rfl) (by kernel_rfl) (fun _ _ _ h => h) (Or.inl ⟨by rfl, ?_⟩) (by assumption) ?_
      rotate_left
      focus (intro w' hSw; (try dsimp only at hSw); go_simp; try with_reducible rfl)
      (try simp only [Act.put, List.setIfInBounds_toArray, List.set_cons_zero, List.set_cons_succ, List.getElem_toArray, List.getElem_cons_succ, List.getElem_cons_zero])
      refine wpAnyH_take (i := 18) (oi := _) (v := ?_) rfl (by kernel_rfl) (by kernel_rfl) (by kernel_rfl) (fun _ _ _ h => h) (Or.inl ⟨by rfl, ?_⟩) (by assumption) ?_
      rotate_left
      focus (intro w' hSw; (try dsimp only at hSw); go_simp; try with_reducible rfl)
      (try simp only [Act.put, List.setIfInBounds_toArray, List.set_cons_zero, List.set_cons_succ, List.getElem_toArray, List.getElem_cons_succ, List.getElem_cons_zero])
      refine wpAnyH_ready (rs := [19]) (by kernel_rfl) (by simp) ?_
      refine AllReadyH.cons (o := _) rfl (fun K hK => ?_) AllReadyH.nil
      (go_simp; refine (CA.out _ HB8.out).mono ?_; rintro e W9 ⟨rfl, hb⟩; have HB9 := Lib.hid (HB8.out.trans (hb.mono HB8.out.size)); have k0 := (hb.cell hl8).trans g0; have k1 := (hb.cell hl8).trans g1; have k2 := (hb.cell hl8).trans g2; have k3 := (hb.cell hl8).trans g3; have k4 := (hb.cell hl8).trans g4; have k5 := (hb.cell hl8).trans g5; have k6 := (hb.cell hl8).trans g6; have k7 := (hb.cell hl8).trans g7; have k8 := (hb.cell hl8).trans g8; have k9 := (hb.cell hl8).trans g9; have k10 := (hb.cell hl8).trans g10; have k11 := (hb.cell hl8).trans g11; have k12 := (hb.cell hl8).trans g12; clear hb; try go_simp)
      refine hK.out _ _ ⟨k0, k1, k2, k3, k4, k5, k6, k7, k8, k9, k10, k11, k12⟩ (fun hHeld => ?_)
      clear hK K
      (try simp only [Act.put, List.setIfInBounds_toArray, List.set_cons_zero, List.set_cons_succ, List.getElem_toArray, List.getElem_cons_succ, List.getElem_cons_zero])
      refine wpAnyH_take (i := 20) (oi := _) (v := ?_) rfl (by kernel_rfl) (by kernel_rfl) (by kernel_rfl) (fun _ _ _ h => h) (Or.inl ⟨by rfl, ?_⟩) (by assumption) ?_
      rotate_left
      focus (intro w' hSw; (try dsimp only at hSw); go_simp; try with_reducible rfl)
      (try simp only [Act.put, List.setIfInBounds_toArray, List.set_cons_zero, List.set_cons_succ, List.getElem_toArray, List.getElem_cons_succ, List.getElem_cons_zero])
      refine wpAnyH_take (i := 21) (oi := _) (v := ?_) rfl (by kernel_rfl) (by kernel_rfl) (by kernel_rfl) (fun _ _ _ h => h) (Or.inl ⟨by rfl, ?_⟩) (by assumption) ?_
      rotate_left
      focus (intro w' hSw; (try dsimp only at hSw); go_simp; try with_reducible rfl)
      (try simp only [Act.put, List.setIfInBounds_toArray, List.set_cons_zero, List.set_cons_succ, List.getElem_toArray, List.getElem_cons_succ, List.getElem_cons_zero])
      refine wpAnyH_done (by kernel_rfl) ?_ _
      go_wp2_with fail
      rw [← HPP.out]
      exact ⟨rfl, by first | exact HB9.out | exact below_drew' HB9.out⟩
    refine AllReadyH.cons (o := _) rfl (fun K hK => ?_) AllReadyH.nil
    go_simp
    refine hK.out _ _ ⟨x0, x1, x2, x3, x4, x5, x6, x7, x8, x9, x10, x11, x12⟩ (fun hHeld => ?_)
    clear hK K
    (try simp only [Act.put, List.setIfInBounds_toArray, List.set_cons_zero, List.set_cons_succ, List.getElem_toArray, List.getElem_cons_succ, List.getElem_cons_zero])
    refine wpAnyH_ready (rs := [9]) (by kernel_rfl) (by simp) ?_
    refine AllReadyH.cons (o := _) rfl (fun K hK => ?_) AllReadyH.nil
    (go_simp; refine (CE2.out _ (below_drew' BX7.out) (below_drew' (Below.refl _ _))).mono ?_; rintro e W8 ⟨v8, rfl, hr8, hb⟩; have HB8 := Lib.hid (HBA.out.trans (((below_drew' BX7.out).trans (hb.mono (below_drew' BX7.out).size)).mono HBA.out.size)); obtain ⟨q8, m8, c8, rfl⟩ := row_val hr8; have HR8 := Lib.hid (bs_of_own hr8); have htx8 := HR8.out.text; have htw8 := ((show Bs X7.drew _ _ from HBW.out).below hb).text; have g0 := (hb.cell hl0).trans x0; have g1 := (hb.cell hl0).trans x1; have g2 := (hb.cell hl0).trans x2; have g3 := (hb.cell hl0).trans x3; have g4 := (hb.cell hl0).trans x4; have g5 := (hb.cell hl0).trans x5; have g6 := (hb.cell hl0).trans x6; have g7 := (hb.cell hl0).trans x7; have g8 := (hb.cell hl0).trans x8; have g9 := (hb.cell hl0).trans x9; have g10 := (hb.cell hl0).trans x10; have g11 := (hb.cell hl0).trans x11; have g12 := (hb.cell hl0).trans x12; have hl8 := Nat.lt_of_lt_of_le hl0 hb.size; clear hb hr8; try go_simp)
    refine hK.out _ _ ⟨g0, g1, g2, g3, g4, g5, g6, g7, g8, g9, g10, g11, g12⟩ (fun hHeld => ?_)
    clear hK K
    (try simp only [Act.put, List.setIfInBounds_toArray, List.set_cons_zero, List.set_cons_succ, List.getElem_toArray, List.getElem_cons_succ, List.getElem_cons_zero])
    refine wpAnyH_ready (rs := [10]) (by kernel_rfl) (by simp) ?_
    refine AllReadyH.cons (o := _) rfl (fun K hK => ?_) AllReadyH.nil
    go_simp
    refine hK.out _ _ ⟨g0, g1, g2, g3, g4, g5, g6, g7, g8, g9, g10, g11, g12⟩ (fun hHeld => ?_)
    clear hK K
    (try simp only [Act.put, List.setIfInBounds_toArray, List.set_cons_zero, List.set_cons_succ, List.getElem_toArray, List.getElem_cons_succ, List.getElem_cons_zero])
    refine wpAnyH_take (i := 15) (oi := _) (v := ?_) rfl (by kernel_rfl) (by kernel_rfl) (by kernel_rfl) (fun _ _ _ h => h) (Or.inl ⟨by rfl, ?_⟩) (by assumption) ?_
    rotate_left
    focus (intro w' hSw; (try dsimp only at hSw); go_simp; try with_reducible rfl)
    (try simp only [Act.put, List.setIfInBounds_toArray, List.set_cons_zero, List.set_cons_succ, List.getElem_toArray, List.getElem_cons_succ, List.getElem_cons_zero])
    refine wpAnyH_take (i := 16) (oi := _) (v := ?_) rfl (by kernel_rfl) (by kernel_rfl) (by kernel_rfl) (fun _ _ _ h => h) (Or.inl ⟨by rfl, ?_⟩) (by assumption) ?_
    rotate_left
    focus (intro w' hSw; (try dsimp only at hSw); go_simp; try with_reducible rfl)
    (try simp only [Act.put, List.setIfInBounds_toArray, List.set_cons_zero, List.set_cons_succ, List.getElem_toArray, List.getElem_cons_succ, List.getElem_cons_zero])
    refine wpAnyH_take (i := 17) (oi := _) (v := ?_) rfl (by kernel_rfl) (by kernel_rfl) (by kernel_rfl) (fun _ _ _ h => h) (Or.inl ⟨by rfl, ?_⟩) (by assumption) ?_
    rotate_left
    focus (intro w' hSw; (try dsimp only at hSw); go_simp; try with_reducible rfl)
    (try simp only [Act.put, List.setIfInBounds_toArray, List.set_cons_zero, List.set_cons_succ, List.getElem_toArray, List.getElem_cons_succ, List.getElem_cons_zero])
    refine wpAnyH_take (i := 18) (oi := _) (v := ?_) rfl (by kernel_rfl) (by kernel_rfl) (by kernel_rfl) (fun _ _ _ h => h) (Or.inl ⟨by rfl, ?_⟩) (by assumption) ?_
    rotate_left
    focus (intro w' hSw; (try dsimp only at hSw); go_simp; try with_reducible rfl)
    (try simp only [Act.put, List.setIfInBounds_toArray, List.set_cons_zero, List.set_cons_succ, List.getElem_toArray, List.getElem_cons_succ, List.getElem_cons_zero])
    refine wpAnyH_ready (rs := [19]) (by kernel_rfl) (by simp) ?_
    refine AllReadyH.cons (o := _) rfl (fun K hK => ?_) AllReadyH.nil
    (go_simp; refine (CA.out _ HB8.out).mono ?_; rintro e W9 ⟨rfl, hb⟩; have HB9 := Lib.hid (HB8.out.trans (hb.mono HB8.out.size)); have k0 := (hb.cell hl8).trans g0; have k1 := (hb.cell hl8).trans g1; have k2 := (hb.cell hl8).trans g2; have k3 := (hb.cell hl8).trans g3; have k4 := (hb.cell hl8).trans g4; have k5 := (hb.cell hl8).trans g5; have k6 := (hb.cell hl8).trans g6; have k7 := (hb.cell hl8).trans g7; have k8 := (hb.cell hl8).trans g8; have k9 := (hb.cell hl8).trans g9; have k10 := (hb.cell hl8).trans g10; have k11 := (hb.cell hl8).trans g11; have k12 := (hb.cell hl8).trans g12; clear hb; try go_simp)
    refine hK.out _ _ ⟨k0, k1, k2, k3, k4, k5, k6, k7, k8, k9, k10, k11, k12⟩ (fun hHeld => ?_)
    clear hK K
    (try simp only [Act.put, List.setIfInBounds_toArray, List.set_cons_zero, List.set_cons_succ, List.getElem_toArray, List.getElem_cons_succ, List.getElem_cons_zero])
    refine wpAnyH_take (i := 20) (oi := _) (v := ?_) rfl (by kernel_rfl) (by kernel_rfl) (by kernel_rfl) (fun _ _ _ h => h) (Or.inl ⟨by rfl, ?_⟩) (by assumption) ?_
    rotate_left
    focus (intro w' hSw; (try dsimp only at hSw); go_simp; try with_reducible rfl)
    (try simp only [Act.put, List.setIfInBounds_toArray, List.set_cons_zero, List.set_cons_succ, List.getElem_toArray, List.getElem_cons_succ, List.getElem_cons_zero])
    refine wpAnyH_take (i := 21) (oi := _) (v := ?_) rfl (by kernel_rfl) (by kernel_rfl) (by kernel_rfl) (fun _ _ _ h => h) (Or.inl ⟨by rfl, ?_⟩) (by assumption) ?_
    rotate_left
    focus (intro w' hSw; (try dsimp only at hSw); go_simp; try with_reducible rfl)
    (try simp only [Act.put, List.setIfInBounds_toArray, List.set_cons_zero, List.set_cons_succ, List.getElem_toArray, List.getElem_cons_succ, List.getElem_cons_zero])
    refine wpAnyH_done (by kernel_rfl) ?_ _
    go_wp2_with fail
    rw [← HPP.out]
    exact ⟨rfl, by first | exact HB9.out | exact below_drew' HB9.out⟩
end Go.Proofs.YtmncpbfghabamaaDoor
