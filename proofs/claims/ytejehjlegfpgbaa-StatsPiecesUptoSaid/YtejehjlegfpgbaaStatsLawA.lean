/- STATS: the law StatsCounts, walked. -/
import Derived.Test.YtejehjlegfpgbaaStatsAwake
namespace Go.Proofs.Ytejehjlegfpgbaa
open Go Go.RowKit Go.Maps

theorem Cts.nine {w : World} {g N : Nat} {c x : Nat → Int} {p : Value} (h : Cts w p N c) (hp : p = .slice (some ⟨g, 0, none⟩) N N) {r : Nat} (hr : r < N) (hx : ∀ j, c (r * 9 + j) = x j) :
    w.cell? ⟨g, r * 9, none⟩ = some (.int .i64 (x 0)) ∧ w.cell? ⟨g, r * 9 + 1, none⟩ = some (.int .i64 (x 1)) ∧ w.cell? ⟨g, r * 9 + 2, none⟩ = some (.int .i64 (x 2)) ∧ w.cell? ⟨g, r * 9 + 3, none⟩ = some (.int .i64 (x 3)) ∧ w.cell? ⟨g, r * 9 + 4, none⟩ = some (.int .i64 (x 4)) ∧
    w.cell? ⟨g, r * 9 + 5, none⟩ = some (.int .i64 (x 5)) ∧ w.cell? ⟨g, r * 9 + 6, none⟩ = some (.int .i64 (x 6)) ∧ w.cell? ⟨g, r * 9 + 7, none⟩ = some (.int .i64 (x 7)) ∧ w.cell? ⟨g, r * 9 + 8, none⟩ = some (.int .i64 (x 8)) := by
  obtain ⟨g', rfl, hg, hc⟩ := h
  injection hp with e1 e2 e3
  injection e1 with e1
  injection e1 with e1
  subst e1
  refine ⟨?_, ?_, ?_, ?_, ?_, ?_, ?_, ?_, ?_⟩ <;> (rw [hc _ (by omega), ← hx])
  rfl
theorem Wts.row {w : World} {v : Value} {N : Nat} {rows : Nat → List Int} (h : Wts w v N rows) : ∃ (g : Nat) (V : Nat → Value), v = .slice (some ⟨g, 0, none⟩) N N ∧ ∀ W, Below w.heap.size w W → ∀ k, k < N → W.cell? ⟨g, k, none⟩ = some (V k) ∧ Il W (V k) (rows k) := by
  obtain ⟨base, g, V, hv, hW⟩ := h
  refine ⟨g, V, hv, fun W hb k hk => ⟨(hb.cell (p := ⟨g, k, none⟩) (by have := hW.lt; show g < _; omega)).trans (hW.cell hk), (il_of_own (hW.own k hk)).below hb⟩⟩

set_option maxRecDepth 100000 in
set_option maxHeartbeats 8000000 in
theorem statsCounts_any (n : Int) (hn : Wf n) (l : List Ev) (v : Value) (w : World) (hV : Evs w v l) (hl : l.length ≤ 1048576) (hid : ∀ e ∈ l, Wf e.i) :
    Calls Try.prog 3 #[.int .i64 n, v] w (AwPost w) := by
  obtain ⟨PP, hPP⟩ : ∃ PP, AwPost w = PP := ⟨_, rfl⟩
  rw [hPP]
  have HPP := Lib.hid hPP
  clear hPP
  by_cases hfit : FitL l
  case neg =>
    have CF := Lib.hid (fit_false l hV hl hfit)
    clear hV hid hfit
    go_enter Try.func3, Try.ntmps3
    go_wp2_with fail
    refine CF.out.mono ?_
    rintro r' W' ⟨rfl, rfl⟩
    go_wp2_with fail
    refine (awake_any _).mono ?_
    rintro r' W' ⟨rfl, hb⟩
    go_wp2
    rw [← HPP.out]
    exact ⟨rfl, hb⟩
  case pos =>
    have CF := Lib.hid (fit_true l hV hl hfit)
    have HV : Hid (∀ W, Below w.heap.size w W → Evs W v l) := fun W hb => hV.below hb
    have HF := Lib.hid hfit
    have HI := Lib.hid hid
    have hN64 : many n ≤ 64 := by unfold many; omega
    have HEQ := Lib.hid (refCs_eq (n := many n) hfit l.length (Nat.le_refl _)).2
    have CA : Hid (∀ W, Below w.heap.size w W → Calls Try.prog 8 #[.int .i64 n, v] W (CountPost W (many n) (readS (many n) l).c)) := fun W hb => count_any n hn l (hV.below hb) hl hfit hid
    have CB : Hid (∀ W, Below w.heap.size w W → Calls Try.prog 9 #[.int .i64 n, v] W (CountPost W (many n) (readS (many n) l).c)) := fun W hb => by
      have := refCount_any n hn l (hV.below hb) hl hfit
      rw [HEQ.out, List.take_length] at this
      exact this
    have CC : Hid (∀ W, Below w.heap.size w W → Calls Try.prog 10 #[.int .i64 n, v] W (WaitsPost W (many n) (fun h => if h < many n then srt ((readS (many n) l).w h) else (readS (many n) l).w h))) := fun W hb => waits_any n hn l (hV.below hb) hl hfit hid
    have CD : Hid (∀ W, Below w.heap.size w W → Calls Try.prog 11 #[.int .i64 n, v] W (WaitsPost W (many n) (fun h => srt ((readS (many n) l).w h)))) := fun W hb => by
      have := refWaits_any n hn l (hV.below hb) hl hfit
      have e : refWs (many n) l l.length = fun h => srt ((readS (many n) l).w h) := funext fun r => refWs_srt _ _ r
      rw [e] at this
      exact this
    generalize many n = N at *
    generalize readS N l = S at *
    clear hV hid hfit HEQ HV HF HI
    go_enter Try.func3, Try.ntmps3
    go_wp2_with fail
    refine CF.out.mono ?_
    rintro r' W' ⟨rfl, rfl⟩
    go_wp2_with fail
    refine (CA.out w (Below.refl _ _)).mono ?_
    rintro r' W1 ⟨hb1, v1, rfl, hT1⟩
    have HB1 := Lib.hid hb1
    have HT1 := Lib.hid hT1
    clear hb1 hT1
    go_wp2_with fail
    refine (CB.out W1 HB1.out).mono ?_
    rintro r' W2 ⟨hb2, v2, rfl, hT2⟩
    have HB12 := Lib.hid hb2
    have HB2 := Lib.hid (HB1.out.trans (hb2.mono HB1.out.size))
    have HT2 := Lib.hid hT2
    clear hb2 hT2
    go_wp2_with fail
    refine (CC.out W2 HB2.out).mono ?_
    rintro r' W3 ⟨hb3, v3, rfl, hT3⟩
    have HB23 := Lib.hid hb3
    have HB3 := Lib.hid (HB2.out.trans (hb3.mono HB2.out.size))
    have HT3 := Lib.hid hT3
    clear hb3 hT3
    go_wp2_with fail
    refine (CD.out W3 HB3.out).mono ?_
    rintro r' W4 ⟨hb4, v4, rfl, hT4⟩
    have HB34 := Lib.hid hb4
    have HB4 := Lib.hid (HB3.out.trans (hb4.mono HB3.out.size))
    have HB24 := Lib.hid (HB23.out.trans (HB34.out.mono HB23.out.size))
    have HB14 := Lib.hid (HB12.out.trans (HB24.out.mono HB12.out.size))
    clear hb4
    have HT1 := Lib.hid (HT1.out.below HB14.out)
    have HT2 := Lib.hid (HT2.out.below HB24.out)
    obtain ⟨g3, V3, rfl, hR3⟩ := HT3.out.row
    obtain ⟨g4, V4, rfl, hR4⟩ := hT4.row
    obtain ⟨g1, hv1, -, -⟩ := HT1.out
    obtain ⟨g2, hv2, -, -⟩ := HT2.out
    subst hv1
    subst hv2
    have HALL : Hid (∀ W, Below W4.heap.size W4 W → ∀ k, k < N → W.cell? ⟨g3, k, none⟩ = some (V3 k) ∧ W.cell? ⟨g4, k, none⟩ = some (V4 k) ∧ Il W (V3 k) (srt (S.w k)) ∧ Il W (V4 k) (srt (S.w k))) := fun W hb k hk => by
      obtain ⟨a1, a2⟩ := hR3 W (HB34.out.trans (hb.mono HB34.out.size)) k hk
      obtain ⟨a3, a4⟩ := hR4 W hb k hk
      rw [if_pos hk] at a2
      exact ⟨a1, a3, a2, a4⟩
    clear CA CB CC CD CF hR3 hR4 hT4 HT3 HB1 HB2 HB3 HB12 HB23 HB34 HB14 HB24
    go_wp2
    go_loopw [9] (fun i wr => ∃ k : Nat, i = .int .i64 (k : Nat) ∧ k ≤ N ∧ Below W4.heap.size W4 wr) (fun i _ => N - (intOf i).toNat)
    case atStart => exact ⟨0, rfl, by omega, Below.refl _ _⟩
    case round =>
      obtain ⟨k, rfl, hk, hb⟩ := hrel
      have HB := Lib.hid hb
      by_cases hlt : k < N
      · obtain ⟨x, hx⟩ : ∃ x : Nat → Int, ∀ j, S.c (k * 9 + j) = x j := ⟨_, fun _ => rfl⟩
        obtain ⟨a0, a1, a2, a3, a4, a5, a6, a7, a8⟩ := (HT1.out.below hb).nine rfl hlt hx
        obtain ⟨b0, b1, b2, b3, b4, b5, b6, b7, b8⟩ := (HT2.out.below hb).nine rfl hlt hx
        obtain ⟨c1, c2, hI1, hI2⟩ := HALL.out wr hb k hlt
        have HI1 := Lib.hid hI1
        have HI2 := Lib.hid hI2
        have gk : (k : Int) < (N : Int) := by omega
        have g0 : (0 : Int) ≤ (k : Int) := by omega
        have hne := neq_counts x
        unfold c9 at hne
        clear hx hb hI1 hI2
        go_wp2
        go_quiet ((go_at_call 12; exact Calls.quiet_of (same_true (HI1.out.below (below_drewN (Below.refl _ _) _)) (HI2.out.below (below_drewN (Below.refl _ _) _)))))
        go_wp2
        go_roundw
        case rel => exact ⟨k + 1, by go_num, by omega, below_drewN HB.out _⟩
        case measure => simp [intOf]; omega
      · obtain rfl : k = N := by omega
        clear hb
        go_wp2_with fail
        refine (awake_any _).mono ?_
        rintro r' W' ⟨rfl, hb⟩
        have HB5 := Lib.hid hb
        clear hb
        go_wp2
        rw [← HPP.out]
        have h1 := HB4.out.trans (HB.out.mono HB4.out.size)
        exact ⟨rfl, h1.trans (HB5.out.mono h1.size)⟩
end Go.Proofs.Ytejehjlegfpgbaa
