/- THE LAW ShareNobody: a Hub that New did not give. -/
import Derived.Deep.DeepCutAuto
import Derived.Test.YtincmegllckcjaaGreatDoorShareNb
import Derived.Test.YtincmegllckcjaaGreatDoorShareFitH
namespace Go.Proofs.YtincmegllckcjaaGreatDoor
open Go Go.RowKit
attribute [local go_sem ↓] Go.wp_at_zero Go.wp_at_succ

structure NbS (w : World) (b0 : Nat) (p : Option Addr) (a : SA) (W : World) : Prop where
  cells : W.cell? ⟨b0, 0, none⟩ = some (.int .i64 a.k) ∧ W.cell? ⟨b0, 1, none⟩ = some (.string a.s) ∧ W.cell? ⟨b0, 2, none⟩ = some (.int .i64 a.id) ∧ W.cell? ⟨b0, 3, none⟩ = some (.int .i64 a.m.id) ∧ W.cell? ⟨b0, 4, none⟩ = some (.string a.m.tp) ∧ W.cell? ⟨b0, 5, none⟩ = some (.int .i64 a.m.kd) ∧ W.cell? ⟨b0, 6, none⟩ = some (.int .i64 a.m.di) ∧ W.cell? ⟨b0, 7, none⟩ = some (.int .u64 a.m.db) ∧ W.cell? ⟨b0, 8, none⟩ = some (.string a.m.ds) ∧ W.cell? ⟨b0, 9, none⟩ = some (.slice a.m.q a.m.n a.m.c) ∧ W.cell? ⟨b0, 10, none⟩ = some (.int .i64 a.m.at_) ∧ W.cell? ⟨b0, 11, none⟩ = some (.int .i64 a.m.un) ∧ W.cell? ⟨b0, 12, none⟩ = some (.string a.m.rp) ∧ W.cell? ⟨b0, 13, none⟩ = some (.int .i64 a.m.co) ∧ W.cell? ⟨b0, 14, none⟩ = some (.int .i64 a.m.pr) ∧ W.cell? ⟨b0, 15, none⟩ = some (.int .i64 a.m.ho)
  hub : NoHub W p
  bel : Below w.heap.size w W
theorem NbS.below {w : World} {b0 : Nat} {p : Option Addr} {a : SA} {W W' : World} (h : NbS w b0 p a W) (hb : Below W.heap.size W W') : NbS w b0 p a W' := by
  obtain ⟨y0, y1, y2, y3, y4, y5, y6, y7, y8, y9, y10, y11, y12, y13, y14, y15⟩ := h.cells
  have hl : b0 < W.heap.size := World.block_lt_of_cell? W _ y0
  exact ⟨⟨(hb.cell (p := ⟨b0, 0, none⟩) hl).trans y0, (hb.cell (p := ⟨b0, 1, none⟩) hl).trans y1, (hb.cell (p := ⟨b0, 2, none⟩) hl).trans y2, (hb.cell (p := ⟨b0, 3, none⟩) hl).trans y3, (hb.cell (p := ⟨b0, 4, none⟩) hl).trans y4, (hb.cell (p := ⟨b0, 5, none⟩) hl).trans y5, (hb.cell (p := ⟨b0, 6, none⟩) hl).trans y6, (hb.cell (p := ⟨b0, 7, none⟩) hl).trans y7, (hb.cell (p := ⟨b0, 8, none⟩) hl).trans y8, (hb.cell (p := ⟨b0, 9, none⟩) hl).trans y9, (hb.cell (p := ⟨b0, 10, none⟩) hl).trans y10, (hb.cell (p := ⟨b0, 11, none⟩) hl).trans y11, (hb.cell (p := ⟨b0, 12, none⟩) hl).trans y12, (hb.cell (p := ⟨b0, 13, none⟩) hl).trans y13, (hb.cell (p := ⟨b0, 14, none⟩) hl).trans y14, (hb.cell (p := ⟨b0, 15, none⟩) hl).trans y15⟩, h.hub.below hb, h.bel.trans (hb.mono h.bel.size)⟩
set_option maxRecDepth 100000 in
set_option maxHeartbeats 8000000 in
theorem shareNobody_any (w : World) (hT : Tabs w) (b : Bool) (a : SA) (has : a.s.size ≤ 1048576) (hM : MgOk w a.m) :
    Calls Tryz.prog 8 #[.bool b, .agg #[.int .i64 a.k, .string a.s, .int .i64 a.id, .int .i64 a.m.id, .string a.m.tp, .int .i64 a.m.kd, .int .i64 a.m.di, .int .u64 a.m.db, .string a.m.ds, .slice a.m.q a.m.n a.m.c, .int .i64 a.m.at_, .int .i64 a.m.un, .string a.m.rp, .int .i64 a.m.co, .int .i64 a.m.pr, .int .i64 a.m.ho]] w fun e w' => e = .returned (.bool true) ∧ Below w.heap.size w w' := by
  obtain ⟨PP, hPP⟩ : ∃ PP : Ending → World → Prop, (fun e w' => e = .returned (.bool true) ∧ Below w.heap.size w w') = PP := ⟨_, rfl⟩
  rw [hPP]
  have HPP := Lib.hid hPP
  have HT := Lib.hid hT
  obtain ⟨WB, hWB⟩ : ∃ WB, w.alloc (.cells #[.int .i64 a.k, .string a.s, .int .i64 a.id, .int .i64 a.m.id, .string a.m.tp, .int .i64 a.m.kd, .int .i64 a.m.di, .int .u64 a.m.db, .string a.m.ds, .slice a.m.q a.m.n a.m.c, .int .i64 a.m.at_, .int .i64 a.m.un, .string a.m.rp, .int .i64 a.m.co, .int .i64 a.m.pr, .int .i64 a.m.ho] 53) = WB := ⟨_, rfl⟩
  have hbx : WB.heap[w.heap.size]? = some (.cells #[.int .i64 a.k, .string a.s, .int .i64 a.id, .int .i64 a.m.id, .string a.m.tp, .int .i64 a.m.kd, .int .i64 a.m.di, .int .u64 a.m.db, .string a.m.ds, .slice a.m.q a.m.n a.m.c, .int .i64 a.m.at_, .int .i64 a.m.un, .string a.m.rp, .int .i64 a.m.co, .int .i64 a.m.pr, .int .i64 a.m.ho] 53 (0, 0)) := by rw [← hWB]; exact heap_alloc_new w _
  have hBB : Below w.heap.size w WB := by rw [← hWB]; exact (Below.refl _ _).alloc (Nat.le_refl _) _
  obtain ⟨b0, hb0⟩ : ∃ b0, w.heap.size = b0 := ⟨_, rfl⟩
  have HNB : Hid (NbS w b0 none a WB) := by
    refine ⟨?_, .inl rfl, hBB⟩
    rw [← hb0]
    exact ⟨by rw [cell_of_row WB _ 0 _ _ _ hbx]; rfl, by rw [cell_of_row WB _ 1 _ _ _ hbx]; rfl, by rw [cell_of_row WB _ 2 _ _ _ hbx]; rfl, by rw [cell_of_row WB _ 3 _ _ _ hbx]; rfl, by rw [cell_of_row WB _ 4 _ _ _ hbx]; rfl, by rw [cell_of_row WB _ 5 _ _ _ hbx]; rfl, by rw [cell_of_row WB _ 6 _ _ _ hbx]; rfl, by rw [cell_of_row WB _ 7 _ _ _ hbx]; rfl, by rw [cell_of_row WB _ 8 _ _ _ hbx]; rfl, by rw [cell_of_row WB _ 9 _ _ _ hbx]; rfl, by rw [cell_of_row WB _ 10 _ _ _ hbx]; rfl, by rw [cell_of_row WB _ 11 _ _ _ hbx]; rfl, by rw [cell_of_row WB _ 12 _ _ _ hbx]; rfl, by rw [cell_of_row WB _ 13 _ _ _ hbx]; rfl, by rw [cell_of_row WB _ 14 _ _ _ hbx]; rfl, by rw [cell_of_row WB _ 15 _ _ _ hbx]; rfl⟩
  have HBS : Hid (WB.heap.size = b0 + 1) := by show _ = _; rw [← hWB, ← hb0]; simp
  have HWB := Lib.hid hWB
  clear hPP hT hBB hbx hWB
  cases b with
  | true =>
    obtain ⟨WH, hWH⟩ : ∃ WH, WB.alloc (.cells #[.pointer none, .map none, .map none] 62) = WH := ⟨_, rfl⟩
    have HN0 : Hid (NbS w b0 (some ⟨b0 + 1, 0, none⟩) a WH) := by
      have hb := HNB.out.below (show Below WB.heap.size WB WH by rw [← hWH]; exact (Below.refl _ _).alloc (Nat.le_refl _) _)
      refine ⟨hb.cells, .inr ⟨b0 + 1, .map none, .map none, rfl, ?_⟩, hb.bel⟩
      rw [← hWH, ← HBS.out]
      exact heap_alloc_new WB _
    have HWH := Lib.hid hWH
    clear hWH
    have HFM : Hid (∀ W, Below w.heap.size w W → Calls Tryz.prog 13 #[.agg #[.int .i64 a.m.id, .string a.m.tp, .int .i64 a.m.kd, .int .i64 a.m.di, .int .u64 a.m.db, .string a.m.ds, .slice a.m.q a.m.n a.m.c, .int .i64 a.m.at_, .int .i64 a.m.un, .string a.m.rp, .int .i64 a.m.co, .int .i64 a.m.pr, .int .i64 a.m.ho]] W fun e w' => ∃ b : Bool, e = .returned (.bool b) ∧ Below W.heap.size W w') := fun W hb => by
      have hd := hM.dv.below hb
      obtain ⟨ps, hps⟩ := DvIs.mk hd
      rw [hps] at hd
      refine (fitMsg_any a.m.f W a.m.id a.m.at_ a.m.un a.m.co a.m.pr a.m.ho a.m.tp a.m.rp a.m.kd a.m.di a.m.db a.m.ds a.m.q a.m.n a.m.c ps hd (by have := hM.wt; omega) (by have := hM.wt; omega) (HT.out.below hb)).mono ?_
      rintro e w' ⟨b, rfl, -, h⟩
      exact ⟨b, rfl, h⟩
    obtain ⟨y0, y1, y2, y3, y4, y5, y6, y7, y8, y9, y10, y11, y12, y13, y14, y15⟩ := HN0.out.cells
    have kl0 : b0 < WH.heap.size := World.block_lt_of_cell? WH _ y1
    clear hM
    go_enter Tryz.func8, Tryz.ntmps8
    go_upto_region 4 with fail
    rw [HWB.out, HWH.out]
    go_wp2_with fail
    refine (HFM.out WH HN0.out.bel).mono ?_
    rintro e w4 ⟨fb, rfl, hb4⟩
    have HN4 := Lib.hid (HN0.out.below hb4)
    clear hb4 y0 y1 y2 y3 y4 y5 y6 y7 y8 y9 y10 y11 y12 y13 y14 y15 kl0
    cases fb with
    | false =>
      go_wp2_with fail
      refine (shAwake_any w4 (HT.out.below HN4.out.bel)).mono ?_
      rintro e w10 ⟨rfl, hb10⟩
      have HB10 := Lib.hid (HN4.out.bel.trans (hb10.mono HN4.out.bel.size))
      clear hb10
      go_wp2_with fail
      rw [← HPP.out]
      exact ⟨rfl, HB10.out⟩
    | true =>
      go_wp2_with fail
      go_loopw [6] (fun s6 wr => ∃ i : Nat, s6 = .int .i64 (i : Nat) ∧ i ≤ 2 ∧ Hid (NbS w b0 (some ⟨b0 + 1, 0, none⟩) a wr)) (fun s6 _ => 2 - (intOf s6).toNat)
      case atStart => exact ⟨0, rfl, by omega, HN4.out⟩
      case round =>
        obtain ⟨i, rfl, hi, hS⟩ := hrel
        by_cases hlt : i < 2
        · have hltI : (i : Int) < 2 := by omega
          obtain ⟨y0, y1, y2, y3, y4, y5, y6, y7, y8, y9, y10, y11, y12, y13, y14, y15⟩ := hS.out.cells
          have kl : b0 < wr.heap.size := World.block_lt_of_cell? wr _ y1
          go_wp2_with fail
          with_reducible refine (nob_join hS.out.hub a.s a.id (HT.out.below hS.out.bel) has).mono ?_
          rintro e wx ⟨rfl, hbx⟩
          have hS1 := Lib.hid (hS.out.below hbx)
          obtain ⟨z0, z1, z2, z3, z4, z5, z6, z7, z8, z9, z10, z11, z12, z13, z14, z15⟩ := hS1.out.cells
          have kl1 : b0 < wx.heap.size := World.block_lt_of_cell? wx _ z1
          clear hbx y0 y1 y2 y3 y4 y5 y6 y7 y8 y9 y10 y11 y12 y13 y14 y15 kl
          go_wp2_with fail
          with_reducible refine (nob_leave hS1.out.hub a.s a.id (HT.out.below hS1.out.bel) has).mono ?_
          rintro e wy ⟨rfl, hbx⟩
          have hS2 := Lib.hid (hS1.out.below hbx)
          obtain ⟨y0, y1, y2, y3, y4, y5, y6, y7, y8, y9, y10, y11, y12, y13, y14, y15⟩ := hS2.out.cells
          have kl2 : b0 < wy.heap.size := World.block_lt_of_cell? wy _ y1
          clear hbx z0 z1 z2 z3 z4 z5 z6 z7 z8 z9 z10 z11 z12 z13 z14 z15 kl1
          go_wp2_with fail
          with_reducible refine (nob_send hS2.out.hub a.s).mono ?_
          rintro e wz ⟨rfl, hw⟩
          subst wz
          go_wp2_with fail
          with_reducible refine (nob_keep hS2.out.hub a.m).mono ?_
          rintro e wz ⟨rfl, hbx⟩
          have hS3 := Lib.hid (hS2.out.below hbx)
          obtain ⟨z0, z1, z2, z3, z4, z5, z6, z7, z8, z9, z10, z11, z12, z13, z14, z15⟩ := hS3.out.cells
          have kl3 : b0 < wz.heap.size := World.block_lt_of_cell? wz _ z1
          clear hbx y0 y1 y2 y3 y4 y5 y6 y7 y8 y9 y10 y11 y12 y13 y14 y15 kl2
          go_wp2_with fail
          with_reducible refine (nob_kept hS3.out.hub a.s (HT.out.below hS3.out.bel) has).mono ?_
          rintro e wv ⟨rfl, hbx⟩
          have hS4 := Lib.hid (hS3.out.below hbx)
          clear hbx z0 z1 z2 z3 z4 z5 z6 z7 z8 z9 z10 z11 z12 z13 z14 z15 kl3
          go_wp2_with fail
          go_roundw
          case rel => exact ⟨i + 1, by go_num, by omega, hS4.out⟩
          case measure => simp [intOf]; omega
        · have hltI : ¬ ((i : Int) < 2) := by omega
          go_wp2_with fail
          refine (shAwake_any wr (HT.out.below hS.out.bel)).mono ?_
          rintro e w10 ⟨rfl, hb10⟩
          have HB10 := Lib.hid (hS.out.bel.trans (hb10.mono hS.out.bel.size))
          clear hb10
          go_wp2_with fail
          rw [← HPP.out]
          exact ⟨rfl, HB10.out⟩
  | false =>
    have HN0 := HNB
    have HFM : Hid (∀ W, Below w.heap.size w W → Calls Tryz.prog 13 #[.agg #[.int .i64 a.m.id, .string a.m.tp, .int .i64 a.m.kd, .int .i64 a.m.di, .int .u64 a.m.db, .string a.m.ds, .slice a.m.q a.m.n a.m.c, .int .i64 a.m.at_, .int .i64 a.m.un, .string a.m.rp, .int .i64 a.m.co, .int .i64 a.m.pr, .int .i64 a.m.ho]] W fun e w' => ∃ b : Bool, e = .returned (.bool b) ∧ Below W.heap.size W w') := fun W hb => by
      have hd := hM.dv.below hb
      obtain ⟨ps, hps⟩ := DvIs.mk hd
      rw [hps] at hd
      refine (fitMsg_any a.m.f W a.m.id a.m.at_ a.m.un a.m.co a.m.pr a.m.ho a.m.tp a.m.rp a.m.kd a.m.di a.m.db a.m.ds a.m.q a.m.n a.m.c ps hd (by have := hM.wt; omega) (by have := hM.wt; omega) (HT.out.below hb)).mono ?_
      rintro e w' ⟨b, rfl, -, h⟩
      exact ⟨b, rfl, h⟩
    obtain ⟨y0, y1, y2, y3, y4, y5, y6, y7, y8, y9, y10, y11, y12, y13, y14, y15⟩ := HN0.out.cells
    have kl0 : b0 < WB.heap.size := World.block_lt_of_cell? WB _ y1
    clear hM
    go_enter Tryz.func8, Tryz.ntmps8
    go_upto_region 4 with fail
    rw [HWB.out]
    go_wp2_with fail
    refine (HFM.out WB HN0.out.bel).mono ?_
    rintro e w4 ⟨fb, rfl, hb4⟩
    have HN4 := Lib.hid (HN0.out.below hb4)
    clear hb4 y0 y1 y2 y3 y4 y5 y6 y7 y8 y9 y10 y11 y12 y13 y14 y15 kl0
    cases fb with
    | false =>
      go_wp2_with fail
      refine (shAwake_any w4 (HT.out.below HN4.out.bel)).mono ?_
      rintro e w10 ⟨rfl, hb10⟩
      have HB10 := Lib.hid (HN4.out.bel.trans (hb10.mono HN4.out.bel.size))
      clear hb10
      go_wp2_with fail
      rw [← HPP.out]
      exact ⟨rfl, HB10.out⟩
    | true =>
      go_wp2_with fail
      go_loopw [6] (fun s6 wr => ∃ i : Nat, s6 = .int .i64 (i : Nat) ∧ i ≤ 2 ∧ Hid (NbS w b0 none a wr)) (fun s6 _ => 2 - (intOf s6).toNat)
      case atStart => exact ⟨0, rfl, by omega, HN4.out⟩
      case round =>
        obtain ⟨i, rfl, hi, hS⟩ := hrel
        by_cases hlt : i < 2
        · have hltI : (i : Int) < 2 := by omega
          obtain ⟨y0, y1, y2, y3, y4, y5, y6, y7, y8, y9, y10, y11, y12, y13, y14, y15⟩ := hS.out.cells
          have kl : b0 < wr.heap.size := World.block_lt_of_cell? wr _ y1
          go_wp2_with fail
          with_reducible refine (nob_join hS.out.hub a.s a.id (HT.out.below hS.out.bel) has).mono ?_
          rintro e wx ⟨rfl, hbx⟩
          have hS1 := Lib.hid (hS.out.below hbx)
          obtain ⟨z0, z1, z2, z3, z4, z5, z6, z7, z8, z9, z10, z11, z12, z13, z14, z15⟩ := hS1.out.cells
          have kl1 : b0 < wx.heap.size := World.block_lt_of_cell? wx _ z1
          clear hbx y0 y1 y2 y3 y4 y5 y6 y7 y8 y9 y10 y11 y12 y13 y14 y15 kl
          go_wp2_with fail
          with_reducible refine (nob_leave hS1.out.hub a.s a.id (HT.out.below hS1.out.bel) has).mono ?_
          rintro e wy ⟨rfl, hbx⟩
          have hS2 := Lib.hid (hS1.out.below hbx)
          obtain ⟨y0, y1, y2, y3, y4, y5, y6, y7, y8, y9, y10, y11, y12, y13, y14, y15⟩ := hS2.out.cells
          have kl2 : b0 < wy.heap.size := World.block_lt_of_cell? wy _ y1
          clear hbx z0 z1 z2 z3 z4 z5 z6 z7 z8 z9 z10 z11 z12 z13 z14 z15 kl1
          go_wp2_with fail
          with_reducible refine (nob_send hS2.out.hub a.s).mono ?_
          rintro e wz ⟨rfl, hw⟩
          subst wz
          go_wp2_with fail
          with_reducible refine (nob_keep hS2.out.hub a.m).mono ?_
          rintro e wz ⟨rfl, hbx⟩
          have hS3 := Lib.hid (hS2.out.below hbx)
          obtain ⟨z0, z1, z2, z3, z4, z5, z6, z7, z8, z9, z10, z11, z12, z13, z14, z15⟩ := hS3.out.cells
          have kl3 : b0 < wz.heap.size := World.block_lt_of_cell? wz _ z1
          clear hbx y0 y1 y2 y3 y4 y5 y6 y7 y8 y9 y10 y11 y12 y13 y14 y15 kl2
          go_wp2_with fail
          with_reducible refine (nob_kept hS3.out.hub a.s (HT.out.below hS3.out.bel) has).mono ?_
          rintro e wv ⟨rfl, hbx⟩
          have hS4 := Lib.hid (hS3.out.below hbx)
          clear hbx z0 z1 z2 z3 z4 z5 z6 z7 z8 z9 z10 z11 z12 z13 z14 z15 kl3
          go_wp2_with fail
          go_roundw
          case rel => exact ⟨i + 1, by go_num, by omega, hS4.out⟩
          case measure => simp [intOf]; omega
        · have hltI : ¬ ((i : Int) < 2) := by omega
          go_wp2_with fail
          refine (shAwake_any wr (HT.out.below hS.out.bel)).mono ?_
          rintro e w10 ⟨rfl, hb10⟩
          have HB10 := Lib.hid (hS.out.bel.trans (hb10.mono hS.out.bel.size))
          clear hb10
          go_wp2_with fail
          rw [← HPP.out]
          exact ⟨rfl, HB10.out⟩
end Go.Proofs.YtincmegllckcjaaGreatDoor
