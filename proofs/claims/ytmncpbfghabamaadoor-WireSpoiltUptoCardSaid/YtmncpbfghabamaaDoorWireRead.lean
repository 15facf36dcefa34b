/- WIRE: the program's ReadDatum. -/
import Derived.Test.YtmncpbfghabamaaDoorWireRDat
namespace Go.Proofs.YtmncpbfghabamaaDoor
open Go Go.RowKit
attribute [local go_sem ↓] Go.wp_at_zero Go.wp_at_succ

/-- what ReadDatum answers, by the reading -/
def RdOut (q : Rd (Dv × Nat)) (w : World) (W' : World) (r : Ending) : Prop :=
  ∃ (kd di db : Int) (ds : ByteArray) (p : Option Addr) (n c : Nat) (k : Int) (e : Int), r = .returned (.tuple #[.agg #[.int .i64 kd, .int .i64 di, .int .u64 db, .string ds, .slice p n c], .int .i64 k, .int .i64 e]) ∧ Below w.heap.size w W' ∧
    match q with
    | .done t u => k = (u : Nat) ∧ e = 0 ∧ DvIn (fun b => w.heap.size ≤ b) W' 16 [.int .i64 kd, .int .i64 di, .int .u64 db, .string ds, .slice p n c] t.1
    | .short => k = 0 ∧ e = 260 ∧ kd = 0 ∧ di = 0 ∧ db = 0 ∧ ds = ⟨#[]⟩ ∧ n = 0
    | .bad => k = 0 ∧ e = 262 ∧ kd = 0 ∧ di = 0 ∧ db = 0 ∧ ds = ⟨#[]⟩ ∧ n = 0
def RdPost (q : Rd (Dv × Nat)) (w : World) (r : Ending) (W' : World) : Prop := RdOut q w W' r

theorem below_set5 {n B : Nat} {w W : World} (h : Below n w W) (hB : n ≤ B) (a0 a1 a2 a3 a4 : Value) : Below n w (((((W.setCell ⟨B, 0, none⟩ a0).setCell ⟨B, 1, none⟩ a1).setCell ⟨B, 2, none⟩ a2).setCell ⟨B, 3, none⟩ a3).setCell ⟨B, 4, none⟩ a4) :=
  ((((h.setCell (show n ≤ (⟨B, 0, none⟩ : Addr).block from hB) a0).setCell (show n ≤ (⟨B, 1, none⟩ : Addr).block from hB) a1).setCell (show n ≤ (⟨B, 2, none⟩ : Addr).block from hB) a2).setCell (show n ≤ (⟨B, 3, none⟩ : Addr).block from hB) a3).setCell (show n ≤ (⟨B, 4, none⟩ : Addr).block from hB) a4
theorem below_drew {n : Nat} {w W : World} (h : Below n w W) : Below n w W.drew := ⟨h.os, h.tape, h.output, h.size, h.block⟩
theorem res_read {W : World} {B : Nat} {cs : Array Value} (h : W.heap[B]? = some (.cells cs 25 (0, 0))) (hs : cs.size = 5) (tmps : Array Value) (h2 : tmps.getD 2 undef = .pointer (some ⟨B, 0, none⟩)) {k e : Int} (h3 : tmps.getD 3 undef = .int .i64 k) (h4 : tmps.getD 4 undef = .int .i64 e) :
    (results Tryd.f14 tmps).run Tryd.prog W = .ok (.tuple #[.agg cs, .int .i64 k, .int .i64 e]) W := by
  have h2' : tmps[2]?.getD undef = .pointer (some ⟨B, 0, none⟩) := by simpa using h2
  have h3' : tmps[3]?.getD undef = .int .i64 k := by simpa using h3
  have h4' : tmps[4]?.getD undef = .int .i64 e := by simpa using h4
  have hl := run_loadVar_row (P := Tryd.prog) W B 25 25 cs (0, 0) _ h Tryd.underlying25 rfl (by rw [hs]; kernel_rfl)
  simp [results, Tryd.results14, h2', h3', h4', asAddr, hl]
set_option maxRecDepth 100000 in
set_option maxHeartbeats 4000000 in
theorem readDatum_any (l : List UInt8) (v : Value) (w : World) (hv : Bs w v l) (hl : l.length ≤ 100000000) :
    Calls Tryd.prog 14 #[v] w (RdPost (valD 16 1 4095 l) w) := by
  obtain ⟨PP, hPP⟩ : ∃ PP, RdPost (valD 16 1 4095 l) w = PP := ⟨_, rfl⟩
  rw [hPP]
  have HPP := Lib.hid hPP
  have HV := Lib.hid hv
  obtain ⟨p, cap, rfl, -⟩ := id hv
  clear hPP hv
  go_enter Tryd.func14, Tryd.ntmps14
  go_wp2_with fail
  refine (fields_any _).mono ?_
  rintro e W1 ⟨rfl, rfl⟩
  go_wp2_with fail
  have hB0 : ∀ o, Below w.heap.size w (w.alloc o) := fun o => (Below.refl _ _).alloc (Nat.le_refl _) _
  have HW2 : Hid (RB (((w.alloc (.cells #[.int .i64 0, .int .i64 0, .int .u64 0, .string ⟨#[]⟩, .slice none 0 0] 25)).alloc (.cells #[.slice p l.length cap, .int .i64 0, .int .i64 0, .int .i64 4096, .int .i64 0] 74)).alloc (.map (tabN 14) 14)) (w.heap.size + 1) (.slice p l.length cap) ⟨0, 0, 4096, 0⟩) := by
    have h := heap_alloc_new (w.alloc (.cells #[.int .i64 0, .int .i64 0, .int .u64 0, .string ⟨#[]⟩, .slice none 0 0] 25)) (.cells #[.slice p l.length cap, .int .i64 0, .int .i64 0, .int .i64 4096, .int .i64 0] 74)
    rw [World.size_alloc] at h
    exact RB.alloc (s := ⟨0, 0, 4096, 0⟩) h _
  have HB2 : Hid (Below w.heap.size w (((w.alloc (.cells #[.int .i64 0, .int .i64 0, .int .u64 0, .string ⟨#[]⟩, .slice none 0 0] 25)).alloc (.cells #[.slice p l.length cap, .int .i64 0, .int .i64 0, .int .i64 4096, .int .i64 0] 74)).alloc (.map (tabN 14) 14))) := (((Below.refl _ _).alloc (Nat.le_refl _) _).alloc (by simp) _).alloc (by simp; omega) _
  have HD2 : Hid (DB (((w.alloc (.cells #[.int .i64 0, .int .i64 0, .int .u64 0, .string ⟨#[]⟩, .slice none 0 0] 25)).alloc (.cells #[.slice p l.length cap, .int .i64 0, .int .i64 0, .int .i64 4096, .int .i64 0] 74)).alloc (.map (tabN 14) 14)) w.heap.size 0 0 0 ⟨#[]⟩ (.slice none 0 0)) := ((show DB (w.alloc _) w.heap.size 0 0 0 ⟨#[]⟩ (.slice none 0 0) from heap_alloc_new w _).alloc _).alloc _
  have HT2 : Hid (Tab (((w.alloc (.cells #[.int .i64 0, .int .i64 0, .int .u64 0, .string ⟨#[]⟩, .slice none 0 0] 25)).alloc (.cells #[.slice p l.length cap, .int .i64 0, .int .i64 0, .int .i64 4096, .int .i64 0] 74)).alloc (.map (tabN 14) 14)) (w.heap.size + 1 + 1)) := by
    have h := heap_alloc_new ((w.alloc (.cells #[.int .i64 0, .int .i64 0, .int .u64 0, .string ⟨#[]⟩, .slice none 0 0] 25)).alloc (.cells #[.slice p l.length cap, .int .i64 0, .int .i64 0, .int .i64 4096, .int .i64 0] 74)) (.map (tabN 14) 14)
    rw [World.size_alloc, World.size_alloc] at h
    exact h
  clear hB0
  refine (rdatum_any l (w.heap.size + 1) (w.heap.size + 1 + 1) (.slice p l.length cap) hl 15 1 4095 ⟨0, 0, 4096, 0⟩ _ HW2.out (HV.out.below HB2.out) HT2.out rfl (Nat.zero_le _) rfl (by omega) rfl (Nat.le_refl _)).mono ?_
  rintro e W3 ⟨kd, di, db, ds, q, n, c, s', rfl, g1, g2, g3, g4⟩
  rw [show l.drop (⟨0, 0, 4096, 0⟩ : Cs).pos = l from List.drop_zero] at g4
  have hsz := g2.size
  simp only [World.size_alloc] at hsz
  have G3 := Lib.hid (HD2.out.but g2 (by omega))
  have G2 := Lib.hid (g2.below HB2.out (by omega) (by simp; omega))
  have G1 := Lib.hid g1
  have G4 := Lib.hid g4
  obtain ⟨c0, c1, c2, c3, c4, hltc⟩ := g1.cells
  obtain ⟨e0, e1, e2, e3, e4, hlte⟩ := G3.out.cells
  have r0 := G3.out.free 0
  have r1 := G3.out.free 1
  have r2 := G3.out.free 2
  have r3 := G3.out.free 3
  have r4 := G3.out.free 4
  clear g1 g2 g4 HW2 HB2 HD2 HT2
  by_cases herr : s'.err = 0
  · rw [herr] at c2
    have HER := Lib.hid herr
    clear herr
    go_upto_region 5 with fail
    refine wp_world (fun Wx => RB Wx (w.heap.size + 1) (.slice p l.length cap) s' ∧ DB Wx w.heap.size 0 0 0 ⟨#[]⟩ (.slice none 0 0) ∧ DB Wx W3.heap.size kd di db ds (.slice q n c) ∧ Below W3.heap.size W3 Wx) (by exact ⟨G1.out.alloc _, G3.out.alloc _, heap_alloc_new W3 _, (Below.refl _ _).alloc (Nat.le_refl _) _⟩) (fun Wx hx => ?_)
    obtain ⟨k1, k2, k3, k4⟩ := hx
    have K1 := Lib.hid k1
    have K2 := Lib.hid k2
    have K4 := Lib.hid k4
    have HW3 : ∃ D, D = W3.heap.size := ⟨_, rfl⟩
    obtain ⟨D, hD⟩ := HW3
    rw [← hD] at k3 ⊢
    have hn1 : ¬ D = w.heap.size := by omega
    have hn2 : ¬ D = w.heap.size + 1 := by omega
    have hn3 : ¬ w.heap.size = D := by omega
    have hn4 : ¬ w.heap.size + 1 = D := by omega
    clear c0 c1 c2 c3 c4 hltc e0 e1 e2 e3 e4 hlte r0 r1 r2 r3 r4
    obtain ⟨c0, c1, c2, c3, c4, hltc⟩ := k1.cells
    obtain ⟨e0, e1, e2, e3, e4, hlte⟩ := k2.cells
    obtain ⟨d0, d1, d2, d3, d4, hltd⟩ := k3.cells
    have r0 := k2.free 0
    have r1 := k2.free 1
    have r2 := k2.free 2
    have r3 := k2.free 3
    have r4 := k2.free 4
    have HD := Lib.hid hD
    clear k1 k2 k3 k4 hD
    go_region_held3 (fun w' => w'.cell? ⟨w.heap.size + 1, 1, none⟩ = some (.int .i64 (s'.pos : Nat)) ∧ w'.cell? ⟨D, 0, none⟩ = some (.int .i64 kd) ∧ w'.cell? ⟨D, 1, none⟩ = some (.int .i64 di) ∧ w'.cell? ⟨D, 2, none⟩ = some (.int .u64 db) ∧ w'.cell? ⟨D, 3, none⟩ = some (.string ds) ∧ w'.cell? ⟨D, 4, none⟩ = some (.slice q n c)) (go_keep) (fail)
    go_wp2_with fail
    refine bodyPost_ret (res_read (B := w.heap.size) (cs := #[.int .i64 kd, .int .i64 di, .int .u64 db, .string ds, .slice q n c]) (k := (s'.pos : Nat)) (e := 0) (by exact DB.drew (K2.out.set5 kd di db ds (.slice q n c))) rfl _ rfl rfl rfl) rfl ?_
    rw [← HPP.out]
    have hg := G4.out
    unfold RdAt at hg
    refine ⟨kd, di, db, ds, q, n, c, (s'.pos : Nat), 0, rfl, ?_, ?_⟩
    · exact below_drew (below_set5 (G2.out.trans (K4.out.mono (by omega))) (Nat.le_refl _) _ _ _ _ _)
    · cases hq : valD (15 + 1) 1 4095 l with
      | done t u =>
        rw [hq] at hg
        obtain ⟨z1, z2, z3, z4⟩ := hg
        refine ⟨by rw [z1]; simp, rfl, z4.kept fun b hb hlt => ⟨?_, ?_⟩⟩
        · simp only [World.size_alloc] at hb
          exact (heap_set5_other (by omega) _ _ _ _ _).trans (K4.out.block b (by omega))
        · simp only [World.size_alloc] at hb
          omega
      | short => rw [hq] at hg; rw [HER.out] at hg; cases hg
      | bad => rw [hq] at hg; rw [HER.out] at hg; cases hg
  · have hb : (s'.err == 0) = false := by simpa using herr
    have hb2 : (s'.err != 0) = true := by simpa using herr
    have HER := Lib.hid herr
    clear herr
    go_wp2_with fail
    go_region_held3 (fun w' => w'.cell? ⟨w.heap.size + 1, 2, none⟩ = some (.int .i64 s'.err)) (go_keep) (fail)
    go_wp2_with fail
    refine bodyPost_ret (res_read (B := w.heap.size) (cs := #[.int .i64 0, .int .i64 0, .int .u64 0, .string ⟨#[]⟩, .slice none 0 0]) (k := 0) (e := s'.err) (by first | exact DB.alloc (G3.out.set5 0 0 0 ⟨#[]⟩ (.slice none 0 0)) _ | exact (DB.alloc (G3.out.set5 0 0 0 ⟨#[]⟩ (.slice none 0 0)) _).drew | exact DB.alloc (DB.drew (G3.out.set5 0 0 0 ⟨#[]⟩ (.slice none 0 0))) _ | trace_state) rfl _ rfl rfl rfl) rfl ?_
    rw [← HPP.out]
    have hg := G4.out
    refine ⟨0, 0, 0, ⟨#[]⟩, none, 0, 0, 0, s'.err, rfl, ?_, ?_⟩
    · first | exact (below_set5 G2.out (Nat.le_refl _) _ _ _ _ _).alloc (by simp [World.setCell]; omega) _ | exact below_drew ((below_set5 G2.out (Nat.le_refl _) _ _ _ _ _).alloc (by simp [World.setCell]; omega) _) | exact (below_drew (below_set5 G2.out (Nat.le_refl _) _ _ _ _ _)).alloc (by simp [World.setCell]; omega) _
    · unfold RdAt at hg
      cases hq : valD (15 + 1) 1 4095 l with
      | done t u => rw [hq] at hg; exact absurd hg.2.1 HER.out
      | short => rw [hq] at hg; exact ⟨rfl, hg, rfl, rfl, rfl, rfl, rfl⟩
      | bad => rw [hq] at hg; exact ⟨rfl, hg, rfl, rfl, rfl, rfl, rfl⟩
end Go.Proofs.YtmncpbfghabamaaDoor
