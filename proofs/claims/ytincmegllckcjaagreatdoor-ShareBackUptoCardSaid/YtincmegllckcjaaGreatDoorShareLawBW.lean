/- THE LAW ShareBack, walked. -/
import Derived.Deep.DeepCutAuto
import Derived.Test.YtincmegllckcjaaGreatDoorSharePr
namespace Go.Proofs.YtincmegllckcjaaGreatDoor
open Go Go.RowKit
attribute [local go_sem ↓] Go.wp_at_zero Go.wp_at_succ

theorem sum_take {L : List SA} (i : Nat) : ((L.take i).map fun a => a.s.size).sum ≤ (L.map fun a => a.s.size).sum := by
  conv => rhs; rw [← List.take_append_drop i L, List.map_append, List.sum_append]
  exact Nat.le_add_right _ _
theorem sum_succ {L : List SA} {i : Nat} {a : SA} (h : L[i]? = some a) : ((L.take (i + 1)).map fun a => a.s.size).sum = ((L.take i).map fun a => a.s.size).sum + a.s.size := by
  rw [List.take_add_one, h, Option.toList_some, List.map_append, List.sum_append]
  simp
structure BkR (w W : World) (hb gb : Nat) (L : List SA) (i : Nat) (st : HSt) : Prop where
  duo : Duo w W hb st gb st (2 * ((L.take i).map fun a => a.s.size).sum + 4 * i) (2 * i) nilV [] nilV []
  fits : Fits st i
set_option maxRecDepth 100000 in
set_option maxHeartbeats 8000000 in
theorem shareBack_any (w : World) (hT : Tabs w) (v : Value) (L : List SA) (s : ByteArray) (id : Int) (vt : Value) (ts : List ByteArray) (h : Script30 w v L) (hs : s.size ≤ 1048576) (hz : (Lit.int .i64 id).wf = true) (ht : Sl w vt ts) (hts : ∀ x ∈ ts, x.size ≤ 1048576) :
    Calls Tryz.prog 7 #[v, .string s, .int .i64 id, vt] w fun e w' => e = .returned (.bool true) ∧ Below w.heap.size w w' := by
  obtain ⟨PP, hPP⟩ : ∃ PP : Ending → World → Prop, (fun e w' => e = .returned (.bool true) ∧ Below w.heap.size w w') = PP := ⟨_, rfl⟩
  rw [hPP]
  have HPP := Lib.hid hPP
  have HT := Lib.hid hT
  have HSC := Lib.hid h
  have HSL := Lib.hid ht
  have HTS := Lib.hid hts
  have HZ := Lib.hid hz
  have hlen := h.len
  obtain ⟨q, c, rfl⟩ := h.fl.form
  have htl : ts.length ≤ 9223372036854775807 := by obtain ⟨p, cap, -, a1, a2, -⟩ := ht; omega
  obtain ⟨qt, ct, rfl⟩ : ∃ q c, vt = .slice q ts.length c := (Sl_fl ht).form
  clear hPP h hT ht hts hz
  go_enter Tryz.func7, Tryz.ntmps7
  go_wp2_with fail
  refine (hs_new w).mono ?_
  rintro e w1 ⟨hb, rfl, h1, hb1⟩
  have HH1 := Lib.hid h1
  have HB1 := Lib.hid hb1
  clear h1 hb1
  go_wp2_with fail
  refine (hs_new w1).mono ?_
  rintro e w2 ⟨gb, rfl, h2, hb2⟩
  have hduo : BkR w w2 hb gb L 0 ([], []) := by
    refine ⟨⟨⟨_, _, (HH1.out.below hb2).more (by omega) (by omega) (by omega), (h2.lower HB1.out.size).more (by omega) (by omega) (by omega), fun b hp hq => ?_, fun b e => absurd e (nilV_own b), fun b e => absurd e (nilV_own b)⟩, nilV_row _, nilV_row _, HB1.out.trans (hb2.mono HB1.out.size)⟩, ⟨Nat.le_refl _, Nat.le_refl _, fun x hx => (by cases hx)⟩⟩
    have e1 := HH1.out.owns.hi b hp
    rcases hq with hq | hq
    · exact hq
    · omega
  have HD0 := Lib.hid hduo
  clear hduo h2 hb2
  go_wp2_with fail
  go_loopw [11] (fun s11 wr => ∃ (i : Nat) (st : HSt), s11 = .int .i64 (i : Nat) ∧ i ≤ L.length ∧ Hid (BkR w wr hb gb L i st)) (fun s11 _ => L.length - (intOf s11).toNat)
  case atStart => exact ⟨0, ([], []), rfl, Nat.zero_le _, HD0.out⟩
  case round =>
    obtain ⟨i, st, rfl, hi, HD⟩ := hrel
    by_cases hlt : i < L.length
    · obtain ⟨a, ha⟩ : ∃ a, L[i]? = some a := ⟨_, List.getElem?_eq_getElem hlt⟩
      obtain ⟨b, o, rfl, x0, x1, x2, x3, x4, x5, x6, x7, x8, x9, x10, x11, x12, x13, x14, x15⟩ := HSC.out.at_ ha
      have hbw : b < w.heap.size := World.block_lt_of_cell? w _ x0
      have HC : Hid (∀ W, Below w.heap.size w W → W.cell? ⟨b, o + i * 16, none⟩ = w.cell? ⟨b, o + i * 16, none⟩ ∧ W.cell? ⟨b, o + i * 16 + 1, none⟩ = w.cell? ⟨b, o + i * 16 + 1, none⟩ ∧ W.cell? ⟨b, o + i * 16 + 2, none⟩ = w.cell? ⟨b, o + i * 16 + 2, none⟩ ∧ W.cell? ⟨b, o + i * 16 + 3, none⟩ = w.cell? ⟨b, o + i * 16 + 3, none⟩ ∧ W.cell? ⟨b, o + i * 16 + 4, none⟩ = w.cell? ⟨b, o + i * 16 + 4, none⟩ ∧ W.cell? ⟨b, o + i * 16 + 5, none⟩ = w.cell? ⟨b, o + i * 16 + 5, none⟩ ∧ W.cell? ⟨b, o + i * 16 + 6, none⟩ = w.cell? ⟨b, o + i * 16 + 6, none⟩ ∧ W.cell? ⟨b, o + i * 16 + 7, none⟩ = w.cell? ⟨b, o + i * 16 + 7, none⟩ ∧ W.cell? ⟨b, o + i * 16 + 8, none⟩ = w.cell? ⟨b, o + i * 16 + 8, none⟩ ∧ W.cell? ⟨b, o + i * 16 + 9, none⟩ = w.cell? ⟨b, o + i * 16 + 9, none⟩ ∧ W.cell? ⟨b, o + i * 16 + 10, none⟩ = w.cell? ⟨b, o + i * 16 + 10, none⟩ ∧ W.cell? ⟨b, o + i * 16 + 11, none⟩ = w.cell? ⟨b, o + i * 16 + 11, none⟩ ∧ W.cell? ⟨b, o + i * 16 + 12, none⟩ = w.cell? ⟨b, o + i * 16 + 12, none⟩ ∧ W.cell? ⟨b, o + i * 16 + 13, none⟩ = w.cell? ⟨b, o + i * 16 + 13, none⟩ ∧ W.cell? ⟨b, o + i * 16 + 14, none⟩ = w.cell? ⟨b, o + i * 16 + 14, none⟩ ∧ W.cell? ⟨b, o + i * 16 + 15, none⟩ = w.cell? ⟨b, o + i * 16 + 15, none⟩ ∧ b < W.heap.size) := fun W hb => ⟨hb.cell (p := ⟨b, _, none⟩) hbw, hb.cell (p := ⟨b, _, none⟩) hbw, hb.cell (p := ⟨b, _, none⟩) hbw, hb.cell (p := ⟨b, _, none⟩) hbw, hb.cell (p := ⟨b, _, none⟩) hbw, hb.cell (p := ⟨b, _, none⟩) hbw, hb.cell (p := ⟨b, _, none⟩) hbw, hb.cell (p := ⟨b, _, none⟩) hbw, hb.cell (p := ⟨b, _, none⟩) hbw, hb.cell (p := ⟨b, _, none⟩) hbw, hb.cell (p := ⟨b, _, none⟩) hbw, hb.cell (p := ⟨b, _, none⟩) hbw, hb.cell (p := ⟨b, _, none⟩) hbw, hb.cell (p := ⟨b, _, none⟩) hbw, hb.cell (p := ⟨b, _, none⟩) hbw, hb.cell (p := ⟨b, _, none⟩) hbw, by have := hb.size; omega⟩
      obtain ⟨y0, y1, y2, y3, y4, y5, y6, y7, y8, y9, y10, y11, y12, y13, y14, y15, hbl⟩ := HC.out wr HD.out.duo.bel
      rw [x0] at y0; rw [x1] at y1; rw [x2] at y2; rw [x3] at y3; rw [x4] at y4; rw [x5] at y5; rw [x6] at y6; rw [x7] at y7; rw [x8] at y8; rw [x9] at y9; rw [x10] at y10; rw [x11] at y11; rw [x12] at y12; rw [x13] at y13; rw [x14] at y14; rw [x15] at y15
      have HX : Hid (w.cell? ⟨b, o + i * 16, none⟩ = some (.int .i64 a.k) ∧ w.cell? ⟨b, o + i * 16 + 1, none⟩ = some (.string a.s) ∧ w.cell? ⟨b, o + i * 16 + 2, none⟩ = some (.int .i64 a.id) ∧ w.cell? ⟨b, o + i * 16 + 3, none⟩ = some (.int .i64 a.m.id) ∧ w.cell? ⟨b, o + i * 16 + 4, none⟩ = some (.string a.m.tp) ∧ w.cell? ⟨b, o + i * 16 + 5, none⟩ = some (.int .i64 a.m.kd) ∧ w.cell? ⟨b, o + i * 16 + 6, none⟩ = some (.int .i64 a.m.di) ∧ w.cell? ⟨b, o + i * 16 + 7, none⟩ = some (.int .u64 a.m.db) ∧ w.cell? ⟨b, o + i * 16 + 8, none⟩ = some (.string a.m.ds) ∧ w.cell? ⟨b, o + i * 16 + 9, none⟩ = some (.slice a.m.q a.m.n a.m.c) ∧ w.cell? ⟨b, o + i * 16 + 10, none⟩ = some (.int .i64 a.m.at_) ∧ w.cell? ⟨b, o + i * 16 + 11, none⟩ = some (.int .i64 a.m.un) ∧ w.cell? ⟨b, o + i * 16 + 12, none⟩ = some (.string a.m.rp) ∧ w.cell? ⟨b, o + i * 16 + 13, none⟩ = some (.int .i64 a.m.co) ∧ w.cell? ⟨b, o + i * 16 + 14, none⟩ = some (.int .i64 a.m.pr) ∧ w.cell? ⟨b, o + i * 16 + 15, none⟩ = some (.int .i64 a.m.ho)) := ⟨x0, x1, x2, x3, x4, x5, x6, x7, x8, x9, x10, x11, x12, x13, x14, x15⟩
      obtain ⟨has, haz⟩ := HSC.out.each a (List.mem_of_getElem? ha)
      have HAZ := Lib.hid haz
      have HA := Lib.hid ha
      have hltI : (i : Int) < (L.length : Int) := by omega
      have hi0 : (0 : Int) ≤ (i : Int) := by omega
      clear ha haz hbw x0 x1 x2 x3 x4 x5 x6 x7 x8 x9 x10 x11 x12 x13 x14 x15
      by_cases hk : a.k = 1 ∨ a.k = 2 ∨ a.k = 3
      · have hsum := sum_take (L := L) i
        have hsz0 := HSC.out.sz
        have HTR := Lib.hid HD.out.duo.trio
        obtain ⟨WA, hWA⟩ : ∃ WA, wr.alloc (.cells #[.slice none 0 0, .slice none 0 0, .slice none 0 0] 50) = WA := ⟨_, rfl⟩
        rw [hWA] at HTR
        have HWA := Lib.hid hWA
        obtain ⟨A, hA1, hA2⟩ := HTR.out.act
        have CA : Hid (Calls Tryz.prog 19 #[.pointer (some ⟨hb, 0, none⟩), .pointer (some ⟨wr.heap.size, 0, none⟩), .agg #[.int .i64 a.k, .string a.s, .int .i64 a.id, .int .i64 a.m.id, .string a.m.tp, .int .i64 a.m.kd, .int .i64 a.m.di, .int .u64 a.m.db, .string a.m.ds, .slice a.m.q a.m.n a.m.c, .int .i64 a.m.at_, .int .i64 a.m.un, .string a.m.rp, .int .i64 a.m.co, .int .i64 a.m.pr, .int .i64 a.m.ho]] WA fun e w' => ∃ b st' st2', e = .returned (.bool b) ∧ ActR a.k a.s a.id st st' ∧ ActR a.k a.s a.id ([], []) st2' ∧ Both w w WA A w' hb st' [] ((2 * ((L.take i).map fun a => a.s.size).sum + 4 * i) + a.s.size + 2) (2 * i + 1) 0 wr.heap.size st2' []) :=
          act3_any w WA A WA hb st _ _ wr.heap.size ([], []) a hA1 HT.out good_nil hk has HAZ.out (HD.out.fits.more (by omega)) ⟨Nat.zero_le _, Nat.zero_le _, fun x hx => (by cases hx)⟩ (by omega) (by omega)
        have HA2 := Lib.hid hA2
        have HK := Lib.hid hk
        have HBA : Hid (Below wr.heap.size wr WA) := by rw [← hWA]; exact (Below.refl _ _).alloc (Nat.le_refl _) _
        clear hWA hA1 hA2
        have hks : (a.k == 1) = true ∨ ((a.k == 1) = false ∧ (a.k == 2) = true) ∨ ((a.k == 1) = false ∧ (a.k == 2) = false ∧ (a.k == 3) = true) := by simp only [beq_iff_eq, beq_eq_false_iff_ne, ne_eq]; omega
        have hsz1 : 2 * ((L.take i).map fun a => a.s.size).sum + 4 * i ≤ 40000000 := by omega
        have HSS := Lib.hid (sum_succ HA.out)
        obtain ⟨S, hS⟩ : ∃ S, 2 * ((L.take i).map fun a => a.s.size).sum + 4 * i = S := ⟨_, rfl⟩
        rw [hS] at CA HA2 hsz1
        have HSV := Lib.hid hS
        clear hk hsum hsz0 hS
        go_upto_region 6 with fail
        go_cut [43] (fun s43 wx => s43 = .bool true ∧ wx = wr)
        case first =>
          rcases hks with hk1 | ⟨hk1, hk2⟩ | ⟨hk1, hk2, hk3⟩
          · go_wp2_with fail
            go_meet
            exact ⟨rfl, rfl⟩
          · go_wp2_with fail
            go_meet
            exact ⟨rfl, rfl⟩
          · go_wp2_with fail
            go_meet
            exact ⟨rfl, rfl⟩
        case rest =>
          obtain ⟨rfl, hwx⟩ := hcut
          rw [hwx]
          clear hks hwx
          go_wp2_with fail
          rw [HWA.out]
          refine CA.out.mono ?_
          rintro e w4 ⟨b1, st', st3', rfl, ha1, ha2, hb4⟩
          have HTR4 := Lib.hid (HA2.out _ _ _ _ _ hb4 (by omega) (by omega))
          obtain ⟨A2, hB1, hB2⟩ := HTR4.out.swap.act
          have CB := Lib.hid (act3_any w w4 A2 w4 gb st _ _ wr.heap.size st3' a hB1 HT.out (actR_good0 ha2 has) HK.out has HAZ.out (HD.out.fits.more (by omega)) (actR_fits (n := 0) ha2 ⟨Nat.le_refl _, Nat.le_refl _, fun x hx => (by cases hx)⟩ List.nodup_nil HAZ.out |>.more (by omega)) (by omega) (by omega))
          have HB2 := Lib.hid hB2
          have HR1 := Lib.hid ha1
          obtain ⟨x0, x1, x2, x3, x4, x5, x6, x7, x8, x9, x10, x11, x12, x13, x14, x15⟩ := HX.out
          obtain ⟨z0, z1, z2, z3, z4, z5, z6, z7, z8, z9, z10, z11, z12, z13, z14, z15, hbl4⟩ := HC.out w4 HTR4.out.2
          rw [x0] at z0; rw [x1] at z1; rw [x2] at z2; rw [x3] at z3; rw [x4] at z4; rw [x5] at z5; rw [x6] at z6; rw [x7] at z7; rw [x8] at z8; rw [x9] at z9; rw [x10] at z10; rw [x11] at z11; rw [x12] at z12; rw [x13] at z13; rw [x14] at z14; rw [x15] at z15
          clear hb4 hB1 hB2 ha1 ha2 x0 x1 x2 x3 x4 x5 x6 x7 x8 x9 x10 x11 x12 x13 x14 x15 y0 y1 y2 y3 y4 y5 y6 y7 y8 y9 y10 y11 y12 y13 y14 y15 hbl
          go_wp2_with fail
          refine CB.out.mono ?_
          rintro e w5 ⟨b2, st'', st3'', rfl, hc1, hc2, hb5⟩
          obtain rfl : st' = st'' := actR_fun HR1.out hc1
          have HD5 : Hid (BkR w w5 hb gb L (i + 1) st') := ⟨(HB2.out _ _ _ _ _ hb5 (by omega) (by omega)).swap.duo.more (by rw [HSS.out]; have := HSV.out; omega) (by omega), actR_fits HR1.out HD.out.fits (by obtain ⟨P, R, k1, -⟩ := HD.out.duo.ex; exact k1.good.keys) HAZ.out⟩
          clear hc1 hc2 hb5 z0 z1 z2 z3 z4 z5 z6 z7 z8 z9 z10 z11 z12 z13 z14 z15 hbl4
          go_wp2_with fail
          go_roundw
          case rel => exact ⟨i + 1, st', by go_num, by omega, HD5.out⟩
          case measure => simp [intOf]; omega
      · have hk1 : (a.k == 1) = false := beq_eq_false_iff_ne.2 fun e => hk (.inl e)
        have hk2 : (a.k == 2) = false := beq_eq_false_iff_ne.2 fun e => hk (.inr (.inl e))
        have hk3 : (a.k == 3) = false := beq_eq_false_iff_ne.2 fun e => hk (.inr (.inr e))
        have HD2 : Hid (BkR w wr hb gb L (i + 1) st) := ⟨HD.out.duo.more (by rw [sum_succ HA.out]; omega) (by omega), HD.out.fits.more (by omega)⟩
        clear hk
        go_wp2_with fail
        go_roundw
        case rel => exact ⟨i + 1, st, by go_num, by omega, HD2.out⟩
        case measure => simp [intOf]; omega
    · have hltI : ¬ ((i : Int) < (L.length : Int)) := by omega
      obtain rfl : i = L.length := by omega
      have hsz0 := HSC.out.sz
      have hdz := HD.out.duo
      rw [List.take_length] at hdz
      obtain ⟨S, hS⟩ : ∃ S, 2 * (L.map fun a => a.s.size).sum + 4 * L.length + s.size + 2 = S := ⟨_, rfl⟩
      have hS1 : S ≤ 40000000 := by omega
      have HDZ := Lib.hid hdz
      have HFT := Lib.hid (HD.out.fits.more (show L.length ≤ 2000000 by omega))
      have hst1 : st.1.length ≤ 100000000 := by have := HFT.out.subs; omega
      have hjs : (joinA st s id).2.1.length ≤ 100000000 := by have := (fits_join HFT.out s HZ.out).subs; omega
      have HGS : Hid (GoodSt st) := by obtain ⟨P, R, k1, -⟩ := hdz.ex; exact k1.good
      clear hdz
      go_upto_region 10 with fail
      go_cut [70] (fun s70 wx => s70 = .bool false ∧ Hid (Duo w wx hb st gb st S (2 * L.length + 1) nilV [] nilV []))
      case first =>
        go_wp2_with fail
        refine (duo_join HDZ.out HT.out s id hs HZ.out (by omega) hst1 (by omega)).mono ?_
        rintro e w3 ⟨rfl, h3⟩
        cases hok : (joinA st s id).1 with
        | false =>
          have e3 := join_false hok
          rw [e3, hS] at h3
          have H3 := Lib.hid h3
          clear h3 e3 hok
          go_wp2_with fail
          go_meet
          exact ⟨rfl, H3.out⟩
        | true =>
          have e3 := join_leave HGS.out hok
          rw [hS] at h3
          have CL := Lib.hid (duo_leave h3 HT.out s id hs HZ.out (by omega) hjs)
          clear h3 hok
          rw [e3] at CL
          clear e3
          go_wp2_with fail
          refine CL.out.mono ?_
          rintro e w4 ⟨rfl, h4⟩
          have H4 := Lib.hid h4
          clear h4
          go_wp2_with fail
          go_meet
          exact ⟨rfl, H4.out⟩
      case rest =>
        obtain ⟨rfl, HD4⟩ := hcut
        clear hS
        go_wp2_with fail
        go_loopw [13] (fun s13 wr => ∃ (j : Nat) (st : HSt), s13 = .int .i64 (j : Nat) ∧ j ≤ ts.length ∧ Hid (Duo w wr hb st gb st S (2 * L.length + 1) nilV [] nilV []) ∧ Hid (Fits st 2000000)) (fun s13 _ => ts.length - (intOf s13).toNat)
        case atStart => exact ⟨0, st, rfl, Nat.zero_le _, HD4.out, HFT.out⟩
        case round =>
          obtain ⟨j, st, rfl, hj, HDJ, HFJ⟩ := hrel
          by_cases hlt2 : j < ts.length
          · obtain ⟨x, hx⟩ : ∃ x, ts[j]? = some x := ⟨_, List.getElem?_eq_getElem hlt2⟩
            obtain ⟨b, o, rfl, hc0⟩ := Sl_cell HSL.out hx
            have hxs := HTS.out x (List.mem_of_getElem? hx)
            have hbw : b < w.heap.size := World.block_lt_of_cell? w _ hc0
            have HK : Hid (∀ W', Below w.heap.size w W' → W'.cell? ⟨b, o + j, none⟩ = some (.string x)) := fun W' hb => (hb.cell (p := ⟨b, o + j, none⟩) hbw).trans hc0
            have hbr : b < wr.heap.size := by have := HDJ.out.bel.size; omega
            have hltI2 : (j : Int) < (ts.length : Int) := by omega
            have hj0 : (0 : Int) ≤ (j : Int) := by omega
            have HGJ : Hid ((st.2.map (·.key)).Nodup) := by obtain ⟨P, R, k1, -⟩ := HDJ.out.ex; exact k1.good.keys
            have hck := HK.out wr HDJ.out.bel
            clear hx hc0
            go_wp2_with fail
            go_region_held3 (fun W' => W'.cell? ⟨b, o + j, none⟩ = some (.string x)) (first | exact HK.out _ HDJ.out.bel | exact HK.out _ (HDJ.out.below (Below.refl _ _).drew).bel | exact HK.out _ HP1.out.bel | exact HK.out _ HP2.out.bel | exact HK.out _ HPr.out.bel | exact HK.out _ HP3.out.bel) (first
              | (go_at_call 11; (with_reducible refine (duo_send (HDJ.out.below (Below.refl _ _).drew) HT.out x hxs (HFJ.out.more (by omega)) (by omega)).mono ?_); rintro e wh ⟨v1, ids1, out1, st1, rfl, hs1, hh⟩; have HP1 := Lib.hid hh; have HS1 := Lib.hid hs1; clear hh hs1)
              | (go_at_call 11; (with_reducible refine (duo_send2 (HDJ.out.below (Below.refl _ _).drew) HT.out x hxs (HFJ.out.more (by omega)) (by omega)).mono ?_); rintro e wh ⟨v2, ids2, out2, st2, rfl, hs1, hh⟩; have HPr := Lib.hid hh; have HS2 := Lib.hid hs1; clear hh hs1)
              | (go_at_call 11; (with_reducible refine (duo_send2 HP1.out HT.out x hxs (HFJ.out.more (by omega)) (by omega)).mono ?_); rintro e wh ⟨v2, ids2, out2, st2, rfl, hs1, hh⟩; have HP2 := Lib.hid hh; have HS2 := Lib.hid hs1; clear hh hs1)
              | (go_at_call 11; (with_reducible refine (duo_send HPr.out HT.out x hxs (HFJ.out.more (by omega)) (by omega)).mono ?_); rintro e wh ⟨v1, ids1, out1, st1, rfl, hs1, hh⟩; have HP2 := Lib.hid hh; have HS1 := Lib.hid hs1; clear hh hs1)
              | (go_at_call 21; (with_reducible refine (same_any _ _ _ _ _ HP2.out.rP.is HP2.out.rQ.is).mono ?_); rintro e wh ⟨he, hbS⟩; have he' : e = .returned (.bool true) := (by rw [he, (sendA_fun HS1.out HS2.out).1]; simp); subst he'; have HP3 := Lib.hid (HP2.out.below hbS); clear hbS he))
            all_goals
              have HD6 : Hid (Duo w wh hb st1 gb st1 S (2 * L.length + 1) nilV [] nilV []) := by
                have h := HP3.out
                rw [← (sendA_fun HS1.out HS2.out).2] at h
                obtain ⟨P, R, k1, k2, k3, -⟩ := h.ex
                exact ⟨⟨P, R, k1, k2, k3, fun b e => absurd e (nilV_own b), fun b e => absurd e (nilV_own b)⟩, nilV_row _, nilV_row _, h.bel⟩
              have HF6 := Lib.hid (fits_send HFJ.out HGJ.out HS1.out)
              go_simp
              go_wp2_with fail
              go_roundw
              case rel => exact ⟨j + 1, st1, by go_num, by omega, HD6.out, HF6.out⟩
              case measure => simp [intOf]; omega
          · have hltI2 : ¬ ((j : Int) < (ts.length : Int)) := by omega
            go_wp2_with fail
            refine (shAwake_any wr (HT.out.below HDJ.out.bel)).mono ?_
            rintro e w10 ⟨rfl, hb10⟩
            have HB10 := Lib.hid (HDJ.out.bel.trans (hb10.mono HDJ.out.bel.size))
            clear hb10
            go_wp2_with fail
            rw [← HPP.out]
            exact ⟨rfl, HB10.out⟩
end Go.Proofs.YtincmegllckcjaaGreatDoor
