/- STATS: the reference's Waits, walked. -/
import Derived.Test.YtejehjlegfpgbaaStatsRefE
namespace Go.Proofs.Ytejehjlegfpgbaa
open Go Go.RowKit Go.Maps

theorem cell_one_new (w : World) (u : Value) (t : TypeId) : ∀ j x, [u][j]? = some x → (w.alloc (.cells #[u] t)).cell? ((⟨w.heap.size, 0, none⟩ : Addr).add j) = some x := news_cells w [u] t
theorem insW_map (x : Int) (l : List Int) : (l.take (twl x l)).map (Value.int .i64) ++ [Value.int .i64 x] ++ (l.drop (twl x l)).map (Value.int .i64) = (insW x l).map (Value.int .i64) := by rw [insW_twl]; simp
theorem insW_size (x : Int) (l : List Int) : twl x l + 1 + (l.length - twl x l) = (insW x l).length := by have := (insW_perm x l).length_eq; have := twl_le x l; simp at *; omega

set_option maxRecDepth 100000 in
set_option maxHeartbeats 8000000 in
theorem refWaits_any {w : World} (n : Int) (hn : Wf n) (l : List Ev) {v : Value} (hV : Evs w v l) (hl : l.length ≤ 1048576) (hfit : FitL l) :
    Calls Try.prog 11 #[.int .i64 n, v] w (WaitsPost w (many n) (refWs (many n) l l.length)) := by
  obtain ⟨i0, hi, hz0, hz1, hz2⟩ := info_parts info_int64
  have CM := many_any n hn
  have hN64 : many n ≤ 64 := by unfold many; omega
  generalize many n = N at *
  have CM := Lib.hid CM
  have hmk := mk_rows N hN64
  have HV := Lib.hid hV
  have HF := Lib.hid hfit
  obtain ⟨p, cap, rfl, hc1, hc2, -⟩ := hV
  obtain ⟨PP, hPP⟩ : ∃ PP, WaitsPost w N (refWs N l l.length) = PP := ⟨_, rfl⟩
  rw [hPP]
  have HPP := Lib.hid hPP
  clear hfit hPP
  go_enter Try.func11, Try.ntmps11
  go_wp2_with fail
  refine (CM.out _).mono ?_
  rintro r' W' ⟨rfl, rfl⟩
  go_wp2
  have HO := Lib.hid (wr_made w N)
  go_loopw [6] (fun i wr => ∃ (k : Nat) (V : Nat → Value), i = .int .i64 (k : Nat) ∧ k ≤ l.length ∧ Below w.heap.size w wr ∧ WR wr (w.heap.size + 1) w.heap.size N V (refWs N l k)) (fun i _ => l.length - (intOf i).toNat)
  case atStart => exact ⟨0, _, rfl, by omega, (Below.refl _ _).alloc (Nat.le_refl _) _, HO.out⟩
  case round =>
    obtain ⟨k, V, rfl, hk, hb, hO⟩ := hrel
    clear HO hmk
    have HB := Lib.hid hb
    have HO := Lib.hid hO
    by_cases hlt : k < l.length
    · obtain ⟨b, o, cap', e1, hbl, hcells⟩ := (HV.out.below HB.out).all15 (by omega)
      obtain ⟨e, he⟩ : ∃ e, l[k]? = some e := ⟨_, List.getElem?_eq_getElem hlt⟩
      have HE := Lib.hid he
      have HS := Lib.hid (refWs_snoc N l k e he)
      injection e1 with e1 e2 e3
      subst e1; subst e3
      obtain ⟨d0, -, -, d3, -⟩ := hcells k e he
      have g4 : (k : Int) < (l.length : Int) := by omega
      have hsz := hb.size
      clear hcells he hb
      by_cases h7 : e.k = 7
      case neg =>
        have b7 : (e.k != 7) = true := by simpa using h7
        have H7 := Lib.hid h7
        clear h7 hO
        go_wp2
        go_roundw
        case rel => exact ⟨k + 1, V, by go_num, by omega, HB.out, by rw [HS.out]; unfold refW; rw [if_neg (fun h => H7.out h.1)]; exact HO.out⟩
        case measure => simp [intOf]; omega
      have b7 : (e.k != 7) = false := by simpa using h7
      have H7 := Lib.hid h7
      clear h7
      by_cases hr : InR N e.h
      case neg =>
        have HR := Lib.hid hr
        have hr' : e.h < 0 ∨ (0 ≤ e.h ∧ (N : Int) ≤ e.h) := by unfold InR at hr; omega
        clear hr hO
        rcases hr' with h1 | ⟨h1, h2⟩
        all_goals
          go_wp2
          go_roundw
          case rel => exact ⟨k + 1, V, by go_num, by omega, HB.out, by rw [HS.out]; unfold refW; rw [if_neg (fun h => HR.out h.2)]; exact HO.out⟩
          case measure => simp [intOf]; omega
      have HR := Lib.hid hr
      have hr1 := hr.1
      have hr2 := hr.2
      obtain ⟨r, hre⟩ : ∃ r, e.h.toNat = r := ⟨_, rfl⟩
      have HRE := Lib.hid hre
      obtain ⟨hh, hhe⟩ : ∃ hh, e.h = hh := ⟨_, rfl⟩
      have hhr : hh = (r : Int) := by omega
      rw [hhe, hhr] at d3
      have hrn : r < N := by omega
      have h1 : (0 : Int) ≤ (r : Int) := by omega
      have h2 : (r : Int) < (N : Int) := by omega
      have CW := Lib.hid (wait_any l (HV.out.below HB.out) hl HF.out k e HE.out)
      clear hr hre hhe hhr hr1 hr2 hO
      go_wp2_with fail
      refine CW.out.mono ?_
      rintro r' W' ⟨rfl, q, rfl⟩
      refine k_world (fun W => WR W (w.heap.size + 1) w.heap.size N V (refWs N l k) ∧ Below w.heap.size w W) (by exact ⟨HO.out.below (below_drewN (Below.refl _ _) q), below_drewN HB.out q⟩) (fun W hW => ?_)
      clear d0 d3 HO CW HB
      have HO := Lib.hid hW.1
      have HB := Lib.hid hW.2
      have cw := hW.1.cell hrn
      have own := hW.1.own r hrn
      have hrl := refWs_len N l r k
      have hfr : W.frozen? ⟨w.heap.size, r, none⟩ = false := by
        obtain ⟨c1, q1, -⟩ := hW.1.wt
        simp [World.frozen?, q1]
      obtain ⟨row, hrow⟩ : ∃ row, refWs N l k r = row := ⟨_, rfl⟩
      rw [hrow] at own hrl
      have HROW := Lib.hid hrow
      clear hW hrow hsz hbl
      cases hwt : waitR l k e with
      | none =>
        have HWT := Lib.hid hwt
        clear hwt own
        go_wp2
        go_roundw
        case rel => exact ⟨k + 1, V, by go_num, by omega, HB.out, by rw [HS.out, HWT.out]; unfold refW; split <;> exact HO.out⟩
        case measure => simp [intOf]; omega
      | some x =>
        have HWT := Lib.hid hwt
        clear hwt
        have HI := il_of_own own
        have ⟨p3, cap3, hv, hq1, hq2, hq3⟩ := HI
        have HQ : Hid (∀ W', Below W.heap.size W W' → ∀ j x, row[j]? = some x → ∃ b o, p3 = some ⟨b, o, none⟩ ∧ W'.cell? ⟨b, o + j, none⟩ = some (.int .i64 x)) := fun W' hb j x hj => by
          obtain ⟨b, o, hp, hc⟩ := hq3 (by have := (List.getElem?_eq_some_iff.1 hj).1; omega)
          exact ⟨b, o, hp, (hb.cell (World.block_lt_of_cell? W _ (hc j x hj))).trans (hc j x hj)⟩
        rw [hv] at HI
        have HIr := Lib.hid HI
        rw [hv] at cw
        clear own HI hv hq3
        go_wp2
        have htw := twl_le x row
        have HTL : Hid (∀ j, j < twl x row → ∃ y, row[j]? = some y ∧ y ≤ x) := fun j h => twl_lt h
        have HTS : Hid (twl x row < row.length → ∃ y, row[twl x row]? = some y ∧ ¬ y ≤ x) := fun h => twl_stop h
        have HTM := Lib.hid (insW_map x row)
        have HTZ := Lib.hid (insW_size x row)
        obtain ⟨tw, htwe⟩ : ∃ tw, twl x row = tw := ⟨_, rfl⟩
        rw [htwe] at htw HTL HTS HTM HTZ
        clear htwe
        go_loop [10] (fun i => ∃ j : Nat, i = .int .i64 (j : Nat) ∧ j ≤ tw) (fun i => tw - (intOf i).toNat)
        case atStart => exact ⟨0, rfl, Nat.zero_le _⟩
        case round =>
          obtain ⟨j, rfl, hj⟩ := hrel
          by_cases hjt : j < tw
          · obtain ⟨y, hy, hyx⟩ := HTL.out j hjt
            obtain ⟨b2, o2, hp3, hc⟩ := HQ.out W (Below.refl _ _) j y hy
            subst hp3
            have g5 : (j : Int) < (row.length : Int) := by omega
            have g6 : decide ((j : Nat) < row.length) = true := decide_eq_true (by omega)
            clear hy
            go_wp2
            go_round
            case rel => exact ⟨j + 1, by go_num, by omega⟩
            case measure => simp [intOf]; omega
          · obtain rfl : j = tw := by omega
            by_cases hjl : j < row.length
            case pos =>
              obtain ⟨y, hy, hyx⟩ := HTS.out hjl
              obtain ⟨b2, o2, hp3, hc⟩ := HQ.out W (Below.refl _ _) j y hy
              subst hp3
              have g5 : (j : Int) < (row.length : Int) := by omega
              have g7 : x < y := by omega
              clear hy hyx
              obtain ⟨q1, cq1, hrun1, HI1⟩ := HIr.out.cut htw
              obtain ⟨q2, cq2, hrun2, HI2⟩ := HIr.out.rest htw
              have HI1 := Lib.hid HI1
              have HI2 := Lib.hid HI2
              have hj1 : (row.take j).length = j := by rw [List.length_take]; omega
              have HJ1 := Lib.hid hj1
              have HJ2 := Lib.hid (List.length_drop (i := j) (l := row))
              clear hj1
              go_wp2_with (first
                | (at_builtin; refine wpList_append_il _ rfl (.tmp 70) (.tmp 76) rfl W.heap.size i0 hi hz0 hz1 hz2 _ 0 [] rfl (World.ownsRow_nil _ _ _ _) _ rfl (row.take j) HI1.out (by rw [HJ1.out]; omega) (Nat.le_refl _) ?_; intro v1 W2 hown1 hg1; rw [HJ1.out, Nat.zero_add, List.nil_append] at hown1; have HB1 := Lib.hid ((Below.refl W.heap.size W).grown hg1 (Nat.le_refl _) (fun k hk => by cases hk)); have hs1 := HB1.out.size; clear hg1)
                | (at_builtin; refine wpList_append_own _ rfl (.tmp 78) (.tmp 80) 32 rfl W.heap.size 2 i0 (.int .i64 0) 1 8 Try.underlying32 hi hz0 hz1 hz2 rfl (by decide) _ _ _ rfl (hown1.alloc _) ⟨W2.heap.size, 0, none⟩ 1 1 [.int .i64 x] rfl rfl (cell_one_new _ _ _) (fun x hx => by simp at hx; subst hx; rfl) (by unfold maxLen; omega) (by omega) (by simp; omega) ?_; intro v2 W3 hown2 hg2 hnil2; have HB2 := Lib.hid ((HB1.out.alloc hs1 _).grown hg2 (by simp; omega) (fun k hk => (hown1.lt k hk).1)); have hs2 := HB2.out.size; have cw3 := (HB2.out.cell (p := ⟨w.heap.size, r, none⟩) (by exact HO.out.lt.2)).trans cw; clear hg2 hnil2)
                | (at_builtin; refine wpList_append_il _ rfl (.tmp 84) (.tmp 90) rfl W.heap.size i0 hi hz0 hz1 hz2 _ _ _ rfl hown2 _ rfl (row.drop j) (HI2.out.below HB2.out) (by rw [HJ2.out]; omega) (by omega) ?_; intro v3 W4 hown3 hg3; have HB3 := Lib.hid (HB2.out.grown hg3 hs2 (fun k hk => (hown2.lt k hk).1)); rw [HJ2.out, HTM.out, HTZ.out] at hown3; obtain ⟨p4, cap4, rfl, -⟩ := il_of_own hown3; have HOWN := Lib.hid hown3; have cw4 := (HB3.out.cell (p := ⟨w.heap.size, r, none⟩) (by exact HO.out.lt.2)).trans cw; have fw4 := (HB3.out.frozen (p := ⟨w.heap.size, r, none⟩) (by exact HO.out.lt.2)).trans hfr; clear hg3 hown3))
              go_roundw
              case rel =>
                refine ⟨k + 1, upd V r (.slice p4 (insW x row).length cap4), by go_num, by omega, (HB.out.trans (HB3.out.mono HB.out.size)).setCell (p := ⟨w.heap.size, r, none⟩) (Nat.le_refl _) _, ?_⟩
                rw [HS.out, HWT.out]
                unfold refW
                rw [if_pos ⟨H7.out, HR.out⟩]
                dsimp only
                rw [HRE.out, HROW.out]
                exact HO.out.store hrn HB3.out HOWN.out
              case measure => simp [intOf]; omega
            case neg =>
              have g5 : ¬ (j : Int) < (row.length : Int) := by omega
              obtain ⟨q1, cq1, hrun1, HI1⟩ := HIr.out.cut htw
              obtain ⟨q2, cq2, hrun2, HI2⟩ := HIr.out.rest htw
              have HI1 := Lib.hid HI1
              have HI2 := Lib.hid HI2
              have hj1 : (row.take j).length = j := by rw [List.length_take]; omega
              have HJ1 := Lib.hid hj1
              have HJ2 := Lib.hid (List.length_drop (i := j) (l := row))
              clear hj1
              go_wp2_with (first
                | (at_builtin; refine wpList_append_il _ rfl (.tmp 70) (.tmp 76) rfl W.heap.size i0 hi hz0 hz1 hz2 _ 0 [] rfl (World.ownsRow_nil _ _ _ _) _ rfl (row.take j) HI1.out (by rw [HJ1.out]; omega) (Nat.le_refl _) ?_; intro v1 W2 hown1 hg1; rw [HJ1.out, Nat.zero_add, List.nil_append] at hown1; have HB1 := Lib.hid ((Below.refl W.heap.size W).grown hg1 (Nat.le_refl _) (fun k hk => by cases hk)); have hs1 := HB1.out.size; clear hg1)
                | (at_builtin; refine wpList_append_own _ rfl (.tmp 78) (.tmp 80) 32 rfl W.heap.size 2 i0 (.int .i64 0) 1 8 Try.underlying32 hi hz0 hz1 hz2 rfl (by decide) _ _ _ rfl (hown1.alloc _) ⟨W2.heap.size, 0, none⟩ 1 1 [.int .i64 x] rfl rfl (cell_one_new _ _ _) (fun x hx => by simp at hx; subst hx; rfl) (by unfold maxLen; omega) (by omega) (by simp; omega) ?_; intro v2 W3 hown2 hg2 hnil2; have HB2 := Lib.hid ((HB1.out.alloc hs1 _).grown hg2 (by simp; omega) (fun k hk => (hown1.lt k hk).1)); have hs2 := HB2.out.size; have cw3 := (HB2.out.cell (p := ⟨w.heap.size, r, none⟩) (by exact HO.out.lt.2)).trans cw; clear hg2 hnil2)
                | (at_builtin; refine wpList_append_il _ rfl (.tmp 84) (.tmp 90) rfl W.heap.size i0 hi hz0 hz1 hz2 _ _ _ rfl hown2 _ rfl (row.drop j) (HI2.out.below HB2.out) (by rw [HJ2.out]; omega) (by omega) ?_; intro v3 W4 hown3 hg3; have HB3 := Lib.hid (HB2.out.grown hg3 hs2 (fun k hk => (hown2.lt k hk).1)); rw [HJ2.out, HTM.out, HTZ.out] at hown3; obtain ⟨p4, cap4, rfl, -⟩ := il_of_own hown3; have HOWN := Lib.hid hown3; have cw4 := (HB3.out.cell (p := ⟨w.heap.size, r, none⟩) (by exact HO.out.lt.2)).trans cw; have fw4 := (HB3.out.frozen (p := ⟨w.heap.size, r, none⟩) (by exact HO.out.lt.2)).trans hfr; clear hg3 hown3))
              go_roundw
              case rel =>
                refine ⟨k + 1, upd V r (.slice p4 (insW x row).length cap4), by go_num, by omega, (HB.out.trans (HB3.out.mono HB.out.size)).setCell (p := ⟨w.heap.size, r, none⟩) (Nat.le_refl _) _, ?_⟩
                rw [HS.out, HWT.out]
                unfold refW
                rw [if_pos ⟨H7.out, HR.out⟩]
                dsimp only
                rw [HRE.out, HROW.out]
                exact HO.out.store hrn HB3.out HOWN.out
              case measure => simp [intOf]; omega
    · obtain rfl : k = l.length := by omega
      clear hO hb
      go_wp2
      rw [← HPP.out]
      exact ⟨HB.out, _, rfl, _, w.heap.size, V, rfl, HO.out⟩
end Go.Proofs.Ytejehjlegfpgbaa
