/- WIRE: conduitref01.Same of two that are the same. -/
import Derived.Test.YtmncpbfghabamaaDoorWireLook
namespace Go.Proofs.YtmncpbfghabamaaDoor
open Go Go.RowKit

theorem below_of_drew {n : Nat} {w W : World} (h : Below n w.drew W) : Below n w W := ⟨h.os, h.tape, h.output, h.size, h.block⟩
theorem below_drew' {n : Nat} {w W : World} (h : Below n w W) : Below n w W.drew := ⟨h.os, h.tape, h.output, h.size, h.block⟩
set_option maxRecDepth 100000 in
set_option maxHeartbeats 8000000 in
theorem same_any : ∀ (k : Nat) (w : World) (k2 : Nat) (kd di db : Int) (ds : ByteArray) (p : Option Addr) (n cap : Nat) (p2 : Option Addr) (cap2 : Nat) (ps : List Dv), DvIs w k [.int .i64 kd, .int .i64 di, .int .u64 db, .string ds, .slice p n cap] (.mk kd di db ds ps) → DvIs w k2 [.int .i64 kd, .int .i64 di, .int .u64 db, .string ds, .slice p2 n cap2] (.mk kd di db ds ps) →
    Calls Tryd.prog 16 #[.agg #[.int .i64 kd, .int .i64 di, .int .u64 db, .string ds, .slice p n cap], .agg #[.int .i64 kd, .int .i64 di, .int .u64 db, .string ds, .slice p2 n cap2]] w (FtPost w) := by
  intro k
  induction k with
  | zero => intro w k2 kd di db ds p n cap p2 cap2 ps h; exact h.elim
  | succ k ih =>
    intro w k2 kd di db ds p n cap p2 cap2 ps hD hD2
    have IH := Lib.hid ih
    clear ih
    obtain ⟨hn, -, -, -, k1, k2'⟩ := hD.top
    obtain ⟨-, -, -, -, k3, k4⟩ := hD2.top
    have HN : Hid (ps.length = n) := hn.symm
    obtain ⟨k2, rfl⟩ := hD2.form
    have HD := Lib.hid hD
    have HD2 := Lib.hid hD2
    obtain ⟨PP, hPP⟩ : ∃ PP, FtPost w = PP := ⟨_, rfl⟩
    rw [hPP]
    have HPP := Lib.hid hPP
    clear hPP hD hD2 hn
    have HB0 : Hid (Below w.heap.size w ((w.alloc (.cells #[.int .i64 kd, .int .i64 di, .int .u64 db, .string ds, .slice p n cap] 25)).alloc (.cells #[.int .i64 kd, .int .i64 di, .int .u64 db, .string ds, .slice p2 n cap2] 25))) := ((Below.refl _ _).alloc (Nat.le_refl _) _).alloc (by simp) _
    have HC : Hid (∀ W, Below (w.heap.size + 2) ((w.alloc (.cells #[.int .i64 kd, .int .i64 di, .int .u64 db, .string ds, .slice p n cap] 25)).alloc (.cells #[.int .i64 kd, .int .i64 di, .int .u64 db, .string ds, .slice p2 n cap2] 25)) W → W.cell? ⟨w.heap.size, 4, none⟩ = some (.slice p n cap) ∧ W.cell? ⟨w.heap.size + 1, 4, none⟩ = some (.slice p2 n cap2) ∧ w.heap.size + 1 < W.heap.size) := fun W hb => by
      have hs := hb.size
      simp only [World.size_alloc] at hs
      have h1 : ((w.alloc (.cells #[.int .i64 kd, .int .i64 di, .int .u64 db, .string ds, .slice p n cap] 25)).alloc (.cells #[.int .i64 kd, .int .i64 di, .int .u64 db, .string ds, .slice p2 n cap2] 25)).heap[w.heap.size]? = some (.cells #[.int .i64 kd, .int .i64 di, .int .u64 db, .string ds, .slice p n cap] 25 (0, 0)) := (Below.heap_alloc _ _ _ (by simp)).trans (heap_alloc_new w _)
      have h2 := heap_alloc_new (w.alloc (.cells #[.int .i64 kd, .int .i64 di, .int .u64 db, .string ds, .slice p n cap] 25)) (.cells #[.int .i64 kd, .int .i64 di, .int .u64 db, .string ds, .slice p2 n cap2] 25)
      rw [World.size_alloc] at h2
      refine ⟨?_, ?_, by omega⟩
      · rw [hb.cell (show w.heap.size < w.heap.size + 2 by omega), cell_of_row _ _ _ _ _ _ h1]; rfl
      · rw [hb.cell (show w.heap.size + 1 < w.heap.size + 2 by omega), cell_of_row _ _ _ _ _ _ h2]; rfl
    go_enter Tryd.func16, Tryd.ntmps16
    go_wp2_with fail
    go_loopw [5, 44] (fun s5 s44 wr => ∃ (j : Nat), s44 = .int .i64 (j : Nat) ∧ j ≤ n ∧ Hid (Below (w.heap.size + 2) ((w.alloc (.cells #[.int .i64 kd, .int .i64 di, .int .u64 db, .string ds, .slice p n cap] 25)).alloc (.cells #[.int .i64 kd, .int .i64 di, .int .u64 db, .string ds, .slice p2 n cap2] 25)) wr)) (fun _ s44 _ => n - (intOf s44).toNat)
    case atStart => exact ⟨0, rfl, by omega, Below.refl _ _⟩
    case round =>
      obtain ⟨j, rfl, hj, HB⟩ := hrel
      have HBw : Hid (Below w.heap.size w wr) := HB0.out.trans (HB.out.mono (by omega))
      obtain ⟨f1, f2, f4⟩ := HC.out wr HB.out
      have f3 : w.heap.size < wr.heap.size := by omega
      by_cases hlt : j < n
      · obtain ⟨t, ht⟩ : ∃ t, ps[j]? = some t := ⟨_, List.getElem?_eq_getElem (by rw [HN.out]; exact hlt)⟩
        obtain ⟨b, o, kd', di', db', ds', q, m, c, ps', rfl, hb0, hbl, rfl, d0, d1, d2, d3, d4, hP⟩ := HD.out.partIn HBw.out ht
        obtain ⟨b2, o2, kd2, di2, db2, ds2, q2, m2, c2, ps2, rfl, hb02, hbl2, ht2, e0, e1, e2, e3, e4, hP2⟩ := HD2.out.partIn HBw.out ht
        injection ht2 with y0 y1 y2 y3 y4
        subst y0; subst y1; subst y2; subst y3; subst y4
        obtain rfl : m2 = m := by rw [hP.top.1, hP2.top.1]
        have HSW : Hid (w.heap.size + 2 ≤ wr.heap.size) := by show _ ≤ _; omega
        have CX : Hid (∀ W, Below wr.heap.size wr W → Calls Tryd.prog 16 #[.agg #[.int .i64 kd', .int .i64 di', .int .u64 db', .string ds', .slice q m2 c], .agg #[.int .i64 kd', .int .i64 di', .int .u64 db', .string ds', .slice q2 m2 c2]] W (FtPost W)) := fun W hb => IH.out W k2 kd' di' db' ds' q m2 c q2 c2 ps' ((hP.below HBw.out).below hb) ((hP2.below HBw.out).below hb)
        have g0 : (j : Int) < (n : Int) := by omega
        have g00 : (0 : Int) ≤ (j : Int) := by omega
        clear ht hP hP2 hb0 hb02
        go_wp2_with fail
        go_region_held3 (fun w' => w'.cell? ⟨w.heap.size, 4, none⟩ = some (.slice (some ⟨b, o, none⟩) n cap) ∧ w'.cell? ⟨w.heap.size + 1, 4, none⟩ = some (.slice (some ⟨b2, o2, none⟩) n cap2) ∧ w'.cell? ⟨b, o + j * 5, none⟩ = some (.int .i64 kd') ∧ w'.cell? ⟨b, o + j * 5 + 1, none⟩ = some (.int .i64 di') ∧ w'.cell? ⟨b, o + j * 5 + 2, none⟩ = some (.int .u64 db') ∧ w'.cell? ⟨b, o + j * 5 + 3, none⟩ = some (.string ds') ∧ w'.cell? ⟨b, o + j * 5 + 4, none⟩ = some (.slice q m2 c) ∧ w'.cell? ⟨b2, o2 + j * 5, none⟩ = some (.int .i64 kd') ∧ w'.cell? ⟨b2, o2 + j * 5 + 1, none⟩ = some (.int .i64 di') ∧ w'.cell? ⟨b2, o2 + j * 5 + 2, none⟩ = some (.int .u64 db') ∧ w'.cell? ⟨b2, o2 + j * 5 + 3, none⟩ = some (.string ds') ∧ w'.cell? ⟨b2, o2 + j * 5 + 4, none⟩ = some (.slice q2 m2 c2)) (first | go_keep) (first | (go_at_call 16; refine (CX.out _ (by first | exact below_drew' (Below.refl _ _) | exact Below.refl _ _)).mono ?_; rintro e W ⟨rfl, hb⟩; have BW := Lib.hid (HB.out.trans (below_of_drew (hb.mono HSW.out))); have g1 := (hb.cell f3).trans f1; have g2 := (hb.cell f4).trans f2; have k0 := (hb.cell hbl).trans d0; have k1 := (hb.cell hbl).trans d1; have k2 := (hb.cell hbl).trans d2; have k3 := (hb.cell hbl).trans d3; have k4 := (hb.cell hbl).trans d4; have l0 := (hb.cell hbl2).trans e0; have l1 := (hb.cell hbl2).trans e1; have l2 := (hb.cell hbl2).trans e2; have l3 := (hb.cell hbl2).trans e3; have l4 := (hb.cell hbl2).trans e4; clear hb))
        go_wp2_with fail
        go_roundw
        case rel => exact ⟨j + 1, by go_num, by omega, by first | exact BW.out | exact below_drew' BW.out⟩
        case measure => simp [intOf]; omega
      · obtain rfl : j = n := by omega
        have hjj : ¬ (j : Int) < (j : Int) := by omega
        go_wp2_with fail
        rw [← HPP.out]
        exact ⟨rfl, HBw.out⟩
end Go.Proofs.YtmncpbfghabamaaDoor
