/- STATS: the law StatsPieces, walked. -/
import Derived.Test.YtejehjlegfpgbaaStatsPub
import Derived.Test.YtejehjlegfpgbaaStatsLawA
namespace Go.Proofs.Ytejehjlegfpgbaa
open Go Go.RowKit Go.Maps

theorem Cts.each {w : World} {p : Value} {N : Nat} {c : Nat → Int} (h : Cts w p N c) : ∃ g, p = .slice (some ⟨g, 0, none⟩) N N ∧ ∀ W, Below w.heap.size w W → ∀ r, r < N → ∀ x : Nat → Int, (∀ j, j < 9 → c (r * 9 + j) = x j) →
    W.cell? ⟨g, r * 9, none⟩ = some (.int .i64 (x 0)) ∧ W.cell? ⟨g, r * 9 + 1, none⟩ = some (.int .i64 (x 1)) ∧ W.cell? ⟨g, r * 9 + 2, none⟩ = some (.int .i64 (x 2)) ∧ W.cell? ⟨g, r * 9 + 3, none⟩ = some (.int .i64 (x 3)) ∧ W.cell? ⟨g, r * 9 + 4, none⟩ = some (.int .i64 (x 4)) ∧
    W.cell? ⟨g, r * 9 + 5, none⟩ = some (.int .i64 (x 5)) ∧ W.cell? ⟨g, r * 9 + 6, none⟩ = some (.int .i64 (x 6)) ∧ W.cell? ⟨g, r * 9 + 7, none⟩ = some (.int .i64 (x 7)) ∧ W.cell? ⟨g, r * 9 + 8, none⟩ = some (.int .i64 (x 8)) := by
  obtain ⟨g, rfl, hg, hc⟩ := h
  refine ⟨g, rfl, fun W hb r hr x hx => ?_⟩
  have q := fun j (hj : j < 9) => (hb.cell (p := ⟨g, r * 9 + j, none⟩) hg).trans (hc (r * 9 + j) (by omega))
  exact ⟨(q 0 (by omega)).trans (by rw [hx 0 (by omega)]), (q 1 (by omega)).trans (by rw [hx 1 (by omega)]), (q 2 (by omega)).trans (by rw [hx 2 (by omega)]), (q 3 (by omega)).trans (by rw [hx 3 (by omega)]), (q 4 (by omega)).trans (by rw [hx 4 (by omega)]), (q 5 (by omega)).trans (by rw [hx 5 (by omega)]), (q 6 (by omega)).trans (by rw [hx 6 (by omega)]), (q 7 (by omega)).trans (by rw [hx 7 (by omega)]), (q 8 (by omega)).trans (by rw [hx 8 (by omega)])⟩
/-- the plain law, handler by handler -/
theorem pieces_plain {n : Nat} {l more : List Ev} (hl : FitL l) (hm : FitL more) (hP : PubL more) (hlen : l.length + more.length ≤ 1048576) (r : Nat) :
    (∀ j, j < 9 → (readS n (l ++ more)).c (r * 9 + j) = addC (fun j => (readS n l).c (r * 9 + j)) (fun j => (readS n more).c (r * 9 + j)) j) ∧
    (∀ x ∈ srt ((readS n (l ++ more)).w r), 0 ≤ x ∧ x ≤ 1099511627776) ∧ Adj (srt ((readS n (l ++ more)).w r)) ∧ (srt ((readS n (l ++ more)).w r)).length ≤ 1048576 ∧
    sumI (srt ((readS n (l ++ more)).w r)) = (readS n (l ++ more)).c (r * 9 + 7) ∧ lastI (srt ((readS n (l ++ more)).w r)) = (readS n (l ++ more)).c (r * 9 + 8) ∧
    0 ≤ (readS n (l ++ more)).c (r * 9 + 5) ∧ 0 ≤ (readS n (l ++ more)).c (r * 9 + 6) ∧ (readS n (l ++ more)).c (r * 9 + 5) + (readS n (l ++ more)).c (r * 9 + 6) ≤ (readS n (l ++ more)).c (r * 9 + 4) ∧ (readS n (l ++ more)).c (r * 9 + 4) ≤ 1048576 := by
  have h2 := two_of (n := n) hl hP more.length (Nat.le_refl _)
  rw [List.take_length] at h2
  have hall : FitL (l ++ more) := fun e he => by rcases List.mem_append.1 he with h | h; exact hl e h; exact hm e h
  have hal : (l ++ more).length ≤ 1048576 := by rw [List.length_append]; omega
  have hG := inv_of (n := n) hall (by omega) (l ++ more).length (Nat.le_refl _)
  rw [List.take_length] at hG
  generalize readS n (l ++ more) = S at *
  have hperm : (srt (S.w r)).Perm (S.w r) := List.mergeSort_perm _ _
  have hb : ∀ x ∈ srt (S.w r), 0 ≤ x ∧ x ≤ 1099511627776 := fun x hx => hG.wb r x (hperm.mem_iff.1 hx)
  have h4 := hG.s4 r
  refine ⟨fun j hj => ?_, hb, up_adj (srt_up _), by rw [srt_len]; have := hG.wl r; omega, by rw [sumI_perm hperm, hG.s7], by rw [lastI_max (srt_up _) (fun x hx => (hb x hx).1), maxI_perm hperm, hG.s8], h4.1, h4.2.1, h4.2.2.1, by omega⟩
  rw [h2.c (r * 9 + j)]
  unfold addC
  rw [show (r * 9 + j) % 9 = j by omega]

set_option maxRecDepth 100000 in
set_option maxHeartbeats 16000000 in
theorem statsPieces_any (n : Int) (hn : Wf n) (l : List Ev) (v : Value) (more : List Ev) (v2 : Value) (w : World) (hV : Evs w v l) (hl : l.length ≤ 1048576) (hid : ∀ e ∈ l, Wf e.i) (hV2 : Evs w v2 more) (hl2 : more.length ≤ 1048576) (hid2 : ∀ e ∈ more, Wf e.i) (hlen : l.length + more.length ≤ 1048576) :
    Calls Try.prog 5 #[.int .i64 n, v, v2] w (AwPost w) := by
  obtain ⟨PP, hPP⟩ : ∃ PP, AwPost w = PP := ⟨_, rfl⟩
  rw [hPP]
  have HPP := Lib.hid hPP
  clear hPP
  by_cases hfit : FitL l
  case neg =>
    have CF := Lib.hid (fit_false l hV hl hfit)
    clear hV hid hfit hV2 hid2
    go_enter Try.func5, Try.ntmps5
    go_wp2_with fail
    refine CF.out.mono ?_
    rintro r' W' ⟨rfl, rfl⟩
    go_wp2_with fail
    refine (awake_any _).mono ?_
    rintro r' W' ⟨rfl, hb⟩
    go_wp2
    rw [← HPP.out]
    exact ⟨rfl, hb⟩
  have CF := Lib.hid (fit_true l hV hl hfit)
  by_cases hfit2 : FitL more
  case neg =>
    have CF2 := Lib.hid (fit_false more hV2 hl2 hfit2)
    clear hV hid hfit hV2 hid2 hfit2
    go_enter Try.func5, Try.ntmps5
    go_wp2_with fail
    refine CF.out.mono ?_
    rintro r' W' ⟨rfl, rfl⟩
    go_wp2_with fail
    refine CF2.out.mono ?_
    rintro r' W' ⟨rfl, rfl⟩
    go_wp2_with fail
    refine (awake_any _).mono ?_
    rintro r' W' ⟨rfl, hb⟩
    go_wp2
    rw [← HPP.out]
    exact ⟨rfl, hb⟩
  have CF2 := Lib.hid (fit_true more hV2 hl2 hfit2)
  by_cases hpub : PubL more
  case neg =>
    have CP := Lib.hid (pub_false more hV2 hl2 hpub)
    clear hV hid hfit hV2 hid2 hfit2 hpub
    go_enter Try.func5, Try.ntmps5
    go_wp2_with fail
    refine CF.out.mono ?_
    rintro r' W' ⟨rfl, rfl⟩
    go_wp2_with fail
    refine CF2.out.mono ?_
    rintro r' W' ⟨rfl, rfl⟩
    go_wp2_with fail
    refine CP.out.mono ?_
    rintro r' W' ⟨rfl, q, rfl⟩
    go_wp2_with fail
    refine (awake_any _).mono ?_
    rintro r' W' ⟨rfl, hb⟩
    have HB := Lib.hid hb
    clear hb
    go_wp2
    rw [← HPP.out]
    exact ⟨rfl, (below_drewN (Below.refl _ _) q).trans HB.out⟩
  have CP := Lib.hid (pub_true more hV2 hl2 hpub)
  have HVA : Hid (∀ W, Below w.heap.size w W → Evs W v l) := fun W hb => hV.below hb
  have HVB : Hid (∀ W, Below w.heap.size w W → Evs W v2 more) := fun W hb => hV2.below hb
  have hN64 : many n ≤ 64 := by unfold many; omega
  have hall : FitL (l ++ more) := fun e he => by rcases List.mem_append.1 he with h | h; exact hfit e h; exact hfit2 e h
  have hidall : ∀ e ∈ l ++ more, Wf e.i := fun e he => by rcases List.mem_append.1 he with h | h; exact hid e h; exact hid2 e h
  have hal : (l ++ more).length ≤ 1048576 := by rw [List.length_append]; omega
  have HPL := Lib.hid (fun r => pieces_plain (n := many n) hfit hfit2 hpub hlen r)
  have CA : Hid (∀ W, Below w.heap.size w W → Calls Try.prog 8 #[.int .i64 n, v] W (CountPost W (many n) (readS (many n) l).c)) := fun W hb => count_any n hn l (hV.below hb) hl hfit hid
  have CB : Hid (∀ W, Below w.heap.size w W → Calls Try.prog 8 #[.int .i64 n, v2] W (CountPost W (many n) (readS (many n) more).c)) := fun W hb => count_any n hn more (hV2.below hb) hl2 hfit2 hid2
  have CC : Hid (∀ W va, Evs W va (l ++ more) → Calls Try.prog 8 #[.int .i64 n, va] W (CountPost W (many n) (readS (many n) (l ++ more)).c)) := fun W va hE => count_any n hn (l ++ more) hE hal hall hidall
  have CD : Hid (∀ W va, Evs W va (l ++ more) → Calls Try.prog 10 #[.int .i64 n, va] W (WaitsPost W (many n) (fun h => if h < many n then srt ((readS (many n) (l ++ more)).w h) else (readS (many n) (l ++ more)).w h))) := fun W va hE => waits_any n hn (l ++ more) hE hal hall hidall
  generalize many n = N at *
  generalize readS N l = S1 at *
  generalize readS N more = S2 at *
  generalize readS N (l ++ more) = S3 at *
  clear hV hid hfit hV2 hid2 hfit2 hpub hall hidall
  go_enter Try.func5, Try.ntmps5
  go_wp2_with fail
  refine CF.out.mono ?_
  rintro r' W' ⟨rfl, rfl⟩
  go_wp2_with fail
  refine CF2.out.mono ?_
  rintro r' W' ⟨rfl, rfl⟩
  go_wp2_with fail
  refine CP.out.mono ?_
  rintro r' W' ⟨rfl, q, rfl⟩
  refine k_world (fun W => Below w.heap.size w W) (by exact below_drewN (Below.refl _ _) q) (fun W0 hb0 => ?_)
  have HB0 := Lib.hid hb0
  have hs0 := hb0.size
  clear hb0 CF CF2 CP
  go_wp2_with (first
    | (at_builtin; refine wpList_append_evs _ rfl (.tmp 30) (.tmp 31) rfl W0.heap.size _ [] rfl (World.ownsRow_nil _ _ _ _) _ rfl l (HVA.out _ HB0.out) (by simp; omega) (Nat.le_refl _) ?_; intro va W1 hown1 hg1; rw [List.nil_append] at hown1; have HB1 := Lib.hid ((Below.refl W0.heap.size W0).grown hg1 (Nat.le_refl _) (fun k hk => by cases hk)); have hs1 := HB1.out.size; have HOW := Lib.hid hown1; clear hg1 hown1)
    | (at_builtin; refine wpList_append_evs _ rfl (.tmp 33) (.tmp 34) rfl W0.heap.size _ l rfl HOW.out _ rfl more (HVB.out _ (HB0.out.trans (HB1.out.mono hs0))) (by omega) hs1 ?_; intro vb W2 hown2 hg2; have HB2 := Lib.hid (HB1.out.grown hg2 hs1 (fun k hk => (HOW.out.lt k hk).1)); have HE2 := Lib.hid (evs_of_own hown2); clear hg2 hown2))
  refine (CA.out _ (HB0.out.trans (HB2.out.mono hs0))).mono ?_
  rintro r' W3 ⟨hb3, v3, rfl, hT3⟩
  have HB23 := Lib.hid hb3
  have HT3 := Lib.hid hT3
  have HB3 := Lib.hid ((HB0.out.trans (HB2.out.mono hs0)).trans (hb3.mono (HB0.out.trans (HB2.out.mono hs0)).size))
  clear hb3 hT3
  go_wp2_with fail
  refine (CB.out _ HB3.out).mono ?_
  rintro r' W4 ⟨hb4, v4, rfl, hT4⟩
  have HB34 := Lib.hid hb4
  have HT4 := Lib.hid hT4
  have HB4 := Lib.hid (HB3.out.trans (hb4.mono HB3.out.size))
  have HB24 := Lib.hid (HB23.out.trans (hb4.mono HB23.out.size))
  clear hb4 hT4
  go_wp2_with fail
  refine (CC.out _ _ (HE2.out.below HB24.out)).mono ?_
  rintro r' W5 ⟨hb5, v5, rfl, hT5⟩
  have HB45 := Lib.hid hb5
  have HT5 := Lib.hid hT5
  have HB5 := Lib.hid (HB4.out.trans (hb5.mono HB4.out.size))
  have HB25 := Lib.hid (HB24.out.trans (hb5.mono HB24.out.size))
  have HB35 := Lib.hid (HB34.out.trans (hb5.mono HB34.out.size))
  clear hb5 hT5
  go_wp2_with fail
  refine (CD.out _ _ (HE2.out.below HB25.out)).mono ?_
  rintro r' W6 ⟨hb6, v6, rfl, hT6⟩
  have HB6 := Lib.hid (HB5.out.trans (hb6.mono HB5.out.size))
  have HB36 := Lib.hid (HB35.out.trans (hb6.mono HB35.out.size))
  have HB46 := Lib.hid (HB45.out.trans (hb6.mono HB45.out.size))
  obtain ⟨g1, rfl, hA⟩ := (HT3.out.below HB36.out).each
  obtain ⟨g2, rfl, hB⟩ := (HT4.out.below HB46.out).each
  obtain ⟨g3, rfl, hC⟩ := (HT5.out.below hb6).each
  obtain ⟨g4, V, rfl, hR⟩ := hT6.row
  have HA := Lib.hid hA
  have HBb := Lib.hid hB
  have HC := Lib.hid hC
  have HR : Hid (∀ W, Below W6.heap.size W6 W → ∀ k, k < N → W.cell? ⟨g4, k, none⟩ = some (V k) ∧ Il W (V k) (srt (S3.w k))) := fun W hb k hk => by
    have := hR W hb k hk
    rw [if_pos hk] at this
    exact this
  clear CA CB CC CD HVA HVB hA hB hC hR hT6 hb6 HB0 HB1 HB2 HB3 HB4 HB5 HB23 HB24 HB25 HB34 HB35 HB36 HB45 HB46 HT3 HT4 HT5 HE2 HOW hs0 hs1
  go_wp2
  go_loopw [12] (fun i wr => ∃ k : Nat, i = .int .i64 (k : Nat) ∧ k ≤ N ∧ Below W6.heap.size W6 wr) (fun i _ => N - (intOf i).toNat)
  case atStart => exact ⟨0, rfl, by omega, Below.refl _ _⟩
  case round =>
    obtain ⟨r, rfl, hk, hb⟩ := hrel
    have HB := Lib.hid hb
    obtain ⟨wo, hwo⟩ : ∃ wo : World, wo = wr := ⟨_, rfl⟩
    rw [← hwo] at hb HB ⊢
    clear hwo
    by_cases hlt : r < N
    · obtain ⟨p1, p2, p3, p4, p5, p6, p7, p8, p9, p10⟩ := HPL.out r
      obtain ⟨x, hx⟩ : ∃ x : Nat → Int, (fun j => S1.c (r * 9 + j)) = x := ⟨_, rfl⟩
      obtain ⟨y, hy⟩ : ∃ y : Nat → Int, (fun j => S2.c (r * 9 + j)) = y := ⟨_, rfl⟩
      rw [hx, hy] at p1
      have HX : Hid (∀ j, j < 9 → S1.c (r * 9 + j) = x j) := fun j _ => by rw [← hx]
      have HY : Hid (∀ j, j < 9 → S2.c (r * 9 + j) = y j) := fun j _ => by rw [← hy]
      have HZ : Hid (∀ j, j < 9 → S3.c (r * 9 + j) = addC x y j) := p1
      rw [p1 7 (by omega)] at p5
      rw [p1 8 (by omega)] at p6
      rw [p1 5 (by omega)] at p7 p9
      rw [p1 6 (by omega)] at p8 p9
      rw [p1 4 (by omega)] at p9 p10
      clear hx hy p1
      obtain ⟨cw, hI⟩ := HR.out wo hb r hlt
      obtain ⟨row, hrow⟩ : ∃ row, srt (S3.w r) = row := ⟨_, rfl⟩
      have HIR : Hid (∀ W, Below W6.heap.size W6 W → W.cell? ⟨g4, r, none⟩ = some (V r) ∧ Il W (V r) row) := fun W hb => by have := HR.out W hb r hlt; rw [hrow] at this; exact this
      rw [hrow] at hI p2 p3 p4 p5 p6
      clear hrow
      have HSUM := Lib.hid p5
      have HLAST := Lib.hid p6
      have HADJ := Lib.hid p3
      have HBD := Lib.hid p2
      have ⟨pp, cc, hv, m1, m2, hcell⟩ := hI
      have HVr := Lib.hid hv
      have HQ : Hid (∀ (j : Nat) (z : Int), row[j]? = some z → ∃ b o, pp = some ⟨b, o, none⟩ ∧ wo.cell? ⟨b, o + j, none⟩ = some (.int .i64 z)) := fun j z hj => by
        obtain ⟨b, o, hp, hc⟩ := hcell (by have := (List.getElem?_eq_some_iff.1 hj).1; omega)
        exact ⟨b, o, hp, hc j z hj⟩
      rw [hv] at cw
      have gk : (r : Int) < (N : Int) := by omega
      have g0 : (0 : Int) ≤ (r : Int) := by omega
      clear hb hI hv hcell p2 p3 p5 p6
      go_wp2
      go_loop [13, 14, 15] (fun s t i => ∃ j : Nat, i = .int .i64 (j : Nat) ∧ j ≤ row.length ∧ s = .int .i64 (sumI (row.take j)) ∧ t = .int .i64 (lastI (row.take j))) (fun _ _ i => row.length - (intOf i).toNat)
      case atStart => exact ⟨0, rfl, by omega, rfl, rfl⟩
      case round =>
        obtain ⟨j, rfl, hj, rfl, rfl⟩ := hrel
        by_cases hjl : j < row.length
        · obtain ⟨z, hz⟩ : ∃ z, row[j]? = some z := ⟨_, List.getElem?_eq_getElem hjl⟩
          obtain ⟨b, o, rfl, hc⟩ := HQ.out j z hz
          have hbz := HBD.out z (List.mem_of_getElem? hz)
          have hbs := sumI_bd (l := row.take j) (fun y hy => HBD.out y (List.mem_of_mem_take hy))
          rw [List.length_take] at hbs
          have HS1 := Lib.hid (sumI_snoc row j z hz)
          have HS2 := Lib.hid (lastI_snoc row j z hz)
          obtain ⟨sm, hsm⟩ : ∃ sm, sumI (row.take j) = sm := ⟨_, rfl⟩
          rw [hsm] at hbs HS1 ⊢
          have g5 : (j : Int) < (row.length : Int) := by omega
          have g6 : 0 ≤ sm := hbs.1
          have g7 : sm ≤ 1048576 * 1099511627776 := by have := hbs.2; omega
          clear hz hsm hbs
          go_wp2
          go_round
          case rel => exact ⟨j + 1, by go_num, by omega, by rw [HS1.out], by rw [HS2.out]⟩
          case measure => simp [intOf]; omega
        · obtain rfl : j = row.length := by omega
          rw [List.take_length, HSUM.out, HLAST.out]
          go_wp2_with fail
          have HS : Hid (∀ w', Below wo.heap.size wo w' → w'.cell? ⟨g1, r * 9, none⟩ = some (.int .i64 (x 0)) ∧ w'.cell? ⟨g1, r * 9 + 1, none⟩ = some (.int .i64 (x 1)) ∧ w'.cell? ⟨g1, r * 9 + 2, none⟩ = some (.int .i64 (x 2)) ∧ w'.cell? ⟨g1, r * 9 + 3, none⟩ = some (.int .i64 (x 3)) ∧ w'.cell? ⟨g1, r * 9 + 4, none⟩ = some (.int .i64 (x 4)) ∧ w'.cell? ⟨g1, r * 9 + 5, none⟩ = some (.int .i64 (x 5)) ∧ w'.cell? ⟨g1, r * 9 + 6, none⟩ = some (.int .i64 (x 6)) ∧ w'.cell? ⟨g1, r * 9 + 7, none⟩ = some (.int .i64 (x 7)) ∧ w'.cell? ⟨g1, r * 9 + 8, none⟩ = some (.int .i64 (x 8)) ∧ w'.cell? ⟨g2, r * 9, none⟩ = some (.int .i64 (y 0)) ∧ w'.cell? ⟨g2, r * 9 + 1, none⟩ = some (.int .i64 (y 1)) ∧ w'.cell? ⟨g2, r * 9 + 2, none⟩ = some (.int .i64 (y 2)) ∧ w'.cell? ⟨g2, r * 9 + 3, none⟩ = some (.int .i64 (y 3)) ∧ w'.cell? ⟨g2, r * 9 + 4, none⟩ = some (.int .i64 (y 4)) ∧ w'.cell? ⟨g2, r * 9 + 5, none⟩ = some (.int .i64 (y 5)) ∧ w'.cell? ⟨g2, r * 9 + 6, none⟩ = some (.int .i64 (y 6)) ∧ w'.cell? ⟨g2, r * 9 + 7, none⟩ = some (.int .i64 (y 7)) ∧ w'.cell? ⟨g2, r * 9 + 8, none⟩ = some (.int .i64 (y 8)) ∧ w'.cell? ⟨g3, r * 9, none⟩ = some (.int .i64 (addC x y 0)) ∧ w'.cell? ⟨g3, r * 9 + 1, none⟩ = some (.int .i64 (addC x y 1)) ∧ w'.cell? ⟨g3, r * 9 + 2, none⟩ = some (.int .i64 (addC x y 2)) ∧ w'.cell? ⟨g3, r * 9 + 3, none⟩ = some (.int .i64 (addC x y 3)) ∧ w'.cell? ⟨g3, r * 9 + 4, none⟩ = some (.int .i64 (addC x y 4)) ∧ w'.cell? ⟨g3, r * 9 + 5, none⟩ = some (.int .i64 (addC x y 5)) ∧ w'.cell? ⟨g3, r * 9 + 6, none⟩ = some (.int .i64 (addC x y 6)) ∧ w'.cell? ⟨g3, r * 9 + 7, none⟩ = some (.int .i64 (addC x y 7)) ∧ w'.cell? ⟨g3, r * 9 + 8, none⟩ = some (.int .i64 (addC x y 8)) ∧ w'.cell? ⟨g4, r, none⟩ = some (.slice pp row.length cc)) := fun w' hb => by
            have hb6 := HB.out.trans (hb.mono HB.out.size)
            obtain ⟨a0, a1, a2, a3, a4, a5, a6, a7, a8⟩ := HA.out w' hb6 r hlt x HX.out
            obtain ⟨b0, b1, b2, b3, b4, b5, b6, b7, b8⟩ := HBb.out w' hb6 r hlt y HY.out
            obtain ⟨c0, c1, c2, c3, c4, c5, c6, c7, c8⟩ := HC.out w' hb6 r hlt (addC x y) HZ.out
            have d := (HIR.out w' hb6).1
            rw [HVr.out] at d
            exact ⟨a0, a1, a2, a3, a4, a5, a6, a7, a8, b0, b1, b2, b3, b4, b5, b6, b7, b8, c0, c1, c2, c3, c4, c5, c6, c7, c8, d⟩
          have hne := neq_counts (addC x y)
          have CAd := add_any x y
          unfold AggPost at CAd
          unfold c9 at hne CAd
          have CAd := Lib.hid CAd
          have CRs : Hid (∀ W, Below wo.heap.size wo W → Calls Try.prog 13 #[.slice pp row.length cc] W (QuietTo W (.bool true))) := fun W hb => by
            have h := (HIR.out W (HB.out.trans (hb.mono HB.out.size))).2
            rw [HVr.out] at h
            exact rises_true h (by omega) HADJ.out
          have hd : decide (addC x y 4 < addC x y 5 + addC x y 6) = false := decide_eq_false (by omega)
          have hwr : IntKind.i64.wrap (addC x y 5 + addC x y 6) = addC x y 5 + addC x y 6 := IntWalk.i64_in _ (by omega)
          clear HSUM HLAST HQ HBD p7 p8 p9 p10
          go_region_held3 (fun w' => w'.cell? ⟨g1, r * 9, none⟩ = some (.int .i64 (x 0)) ∧ w'.cell? ⟨g1, r * 9 + 1, none⟩ = some (.int .i64 (x 1)) ∧ w'.cell? ⟨g1, r * 9 + 2, none⟩ = some (.int .i64 (x 2)) ∧ w'.cell? ⟨g1, r * 9 + 3, none⟩ = some (.int .i64 (x 3)) ∧ w'.cell? ⟨g1, r * 9 + 4, none⟩ = some (.int .i64 (x 4)) ∧ w'.cell? ⟨g1, r * 9 + 5, none⟩ = some (.int .i64 (x 5)) ∧ w'.cell? ⟨g1, r * 9 + 6, none⟩ = some (.int .i64 (x 6)) ∧ w'.cell? ⟨g1, r * 9 + 7, none⟩ = some (.int .i64 (x 7)) ∧ w'.cell? ⟨g1, r * 9 + 8, none⟩ = some (.int .i64 (x 8)) ∧ w'.cell? ⟨g2, r * 9, none⟩ = some (.int .i64 (y 0)) ∧ w'.cell? ⟨g2, r * 9 + 1, none⟩ = some (.int .i64 (y 1)) ∧ w'.cell? ⟨g2, r * 9 + 2, none⟩ = some (.int .i64 (y 2)) ∧ w'.cell? ⟨g2, r * 9 + 3, none⟩ = some (.int .i64 (y 3)) ∧ w'.cell? ⟨g2, r * 9 + 4, none⟩ = some (.int .i64 (y 4)) ∧ w'.cell? ⟨g2, r * 9 + 5, none⟩ = some (.int .i64 (y 5)) ∧ w'.cell? ⟨g2, r * 9 + 6, none⟩ = some (.int .i64 (y 6)) ∧ w'.cell? ⟨g2, r * 9 + 7, none⟩ = some (.int .i64 (y 7)) ∧ w'.cell? ⟨g2, r * 9 + 8, none⟩ = some (.int .i64 (y 8)) ∧ w'.cell? ⟨g3, r * 9, none⟩ = some (.int .i64 (addC x y 0)) ∧ w'.cell? ⟨g3, r * 9 + 1, none⟩ = some (.int .i64 (addC x y 1)) ∧ w'.cell? ⟨g3, r * 9 + 2, none⟩ = some (.int .i64 (addC x y 2)) ∧ w'.cell? ⟨g3, r * 9 + 3, none⟩ = some (.int .i64 (addC x y 3)) ∧ w'.cell? ⟨g3, r * 9 + 4, none⟩ = some (.int .i64 (addC x y 4)) ∧ w'.cell? ⟨g3, r * 9 + 5, none⟩ = some (.int .i64 (addC x y 5)) ∧ w'.cell? ⟨g3, r * 9 + 6, none⟩ = some (.int .i64 (addC x y 6)) ∧ w'.cell? ⟨g3, r * 9 + 7, none⟩ = some (.int .i64 (addC x y 7)) ∧ w'.cell? ⟨g3, r * 9 + 8, none⟩ = some (.int .i64 (addC x y 8)) ∧ w'.cell? ⟨g4, r, none⟩ = some (.slice pp row.length cc)) (first | exact HS.out _ (by exact (Below.refl _ _).drew) | exact HS.out _ HBR.out | exact HS.out _ HBA.out) (first
            | (go_at_call 17; refine (CAd.out _).mono ?_; rintro e2 W2 ⟨rfl, hb2⟩; have HBA := Lib.hid ((Below.refl wo.heap.size wo).drew.trans (by exact hb2)); clear hb2)
            | (go_at_call 13; refine (CRs.out _ HBA.out).mono ?_; rintro e3 W3 ⟨rfl, q3, rfl⟩; have HBR := Lib.hid (below_drewN HBA.out q3)))
          go_wp2
          go_roundw
          case rel => exact ⟨r + 1, by go_num, by omega, HB.out.trans (HBR.out.mono HB.out.size)⟩
          case measure => simp [intOf]; omega
    · obtain rfl : r = N := by omega
      clear hb
      go_wp2_with fail
      refine (awake_any _).mono ?_
      rintro r' W' ⟨rfl, hb⟩
      have HB9 := Lib.hid hb
      clear hb
      go_wp2
      rw [← HPP.out]
      have h1 := HB6.out.trans (HB.out.mono HB6.out.size)
      exact ⟨rfl, h1.trans (HB9.out.mono h1.size)⟩
end Go.Proofs.Ytejehjlegfpgbaa
