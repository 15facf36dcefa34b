/- ROUTE: conduitref01.right, Valid. -/
import Derived.Test.YtpgdiekpeceicaaDoorRouteCount
namespace Go.Proofs.YtpgdiekpeceicaaDoor
open Go Go.RowKit

def ValidPost (w : World) (kd : Int) (r : Ending) (w' : World) : Prop := ∃ b : Bool, r = .returned (.bool b) ∧ (b = true → 0 ≤ kd ∧ kd < 14) ∧ Below w.heap.size w w'

set_option maxRecDepth 100000 in
set_option maxHeartbeats 16000000 in
theorem right_any : ∀ (k : Nat) (w : World) (kd di db : Int) (ds : ByteArray) (p : Option Addr) (n cap : Nat), DtIs w k [.int .i64 kd, .int .i64 di, .int .u64 db, .string ds, .slice p n cap] →
    Calls Tryd.prog 32 #[.agg #[.int .i64 kd, .int .i64 di, .int .u64 db, .string ds, .slice p n cap]] w (ValidPost w kd) := by
  intro k
  induction k with
  | zero => intro w kd di db ds p n cap h; exact h.elim
  | succ k ih =>
    intro w kd di db ds p n cap hD
    have IH := Lib.hid ih
    clear ih
    obtain ⟨k1, k2⟩ := hD.bound
    have HD := Lib.hid hD
    obtain ⟨PP, hPP⟩ : ∃ PP, ValidPost w kd = PP := ⟨_, rfl⟩
    rw [hPP]
    have HPP := Lib.hid hPP
    clear hPP hD
    have HB0 : Hid (Below w.heap.size w (w.alloc (.cells #[.int .i64 kd, .int .i64 di, .int .u64 db, .string ds, .slice p n cap] 26))) := (Below.refl _ _).alloc (Nat.le_refl _) _
    have HC : Hid (∀ W, Below (w.heap.size + 1) (w.alloc (.cells #[.int .i64 kd, .int .i64 di, .int .u64 db, .string ds, .slice p n cap] 26)) W → W.cell? ⟨w.heap.size, 4, none⟩ = some (.slice p n cap) ∧ w.heap.size < W.heap.size) := fun W hb =>
      ⟨by rw [hb.cell (Nat.lt_succ_self _)]; go_simp, by have := hb.size; simp at this; omega⟩
    by_cases h0 : kd = 0
    · subst h0
      go_enter Tryd.func32, Tryd.ntmps32
      go_wp2_with fail
      all_goals first
        | (rw [← HPP.out]; exact ⟨false, rfl, fun h => (by simp at h), (Below.refl _ _).alloc (Nat.le_refl _) _⟩)
        | (have hn : n = 0 := by omega
           go_loopw [7, 89] (fun u1 i wr => ∃ (j : Nat), i = .int .i64 (j : Nat) ∧ j ≤ n ∧ Below w.heap.size w wr ∧ w.heap.size < wr.heap.size ∧ wr.cell? ⟨w.heap.size, 4, none⟩ = some (.slice p 0 cap)) (fun _ i _ => n - (intOf i).toNat)
           case atStart => exact ⟨0, rfl, by omega, (Below.refl _ _).alloc (Nat.le_refl _) _, by simp, by go_simp⟩
           case round =>
             obtain ⟨j, rfl, hj, hb, f3, f2⟩ := hrel
             have HBw := Lib.hid hb
             obtain rfl : j = 0 := by omega
             clear hb
             go_wp2_with fail
             rw [← HPP.out]
             exact ⟨true, rfl, fun _ => ⟨by omega, by omega⟩, HBw.out⟩)
    by_cases h1 : kd = 1
    · subst h1
      go_enter Tryd.func32, Tryd.ntmps32
      go_wp2_with fail
      all_goals first
        | (rw [← HPP.out]; exact ⟨false, rfl, fun h => (by simp at h), (Below.refl _ _).alloc (Nat.le_refl _) _⟩)
        | (have hn : n = 0 := by omega
           go_loopw [7, 89] (fun u1 i wr => ∃ (j : Nat), i = .int .i64 (j : Nat) ∧ j ≤ n ∧ Below w.heap.size w wr ∧ w.heap.size < wr.heap.size ∧ wr.cell? ⟨w.heap.size, 4, none⟩ = some (.slice p 0 cap)) (fun _ i _ => n - (intOf i).toNat)
           case atStart => exact ⟨0, rfl, by omega, (Below.refl _ _).alloc (Nat.le_refl _) _, by simp, by go_simp⟩
           case round =>
             obtain ⟨j, rfl, hj, hb, f3, f2⟩ := hrel
             have HBw := Lib.hid hb
             obtain rfl : j = 0 := by omega
             clear hb
             go_wp2_with fail
             rw [← HPP.out]
             exact ⟨true, rfl, fun _ => ⟨by omega, by omega⟩, HBw.out⟩)
    by_cases h2 : kd = 2
    · subst h2
      go_enter Tryd.func32, Tryd.ntmps32
      go_wp2_with fail
      all_goals first
        | (rw [← HPP.out]; exact ⟨false, rfl, fun h => (by simp at h), (Below.refl _ _).alloc (Nat.le_refl _) _⟩)
        | (have hn : n = 0 := by omega
           go_loopw [7, 89] (fun u1 i wr => ∃ (j : Nat), i = .int .i64 (j : Nat) ∧ j ≤ n ∧ Below w.heap.size w wr ∧ w.heap.size < wr.heap.size ∧ wr.cell? ⟨w.heap.size, 4, none⟩ = some (.slice p 0 cap)) (fun _ i _ => n - (intOf i).toNat)
           case atStart => exact ⟨0, rfl, by omega, (Below.refl _ _).alloc (Nat.le_refl _) _, by simp, by go_simp⟩
           case round =>
             obtain ⟨j, rfl, hj, hb, f3, f2⟩ := hrel
             have HBw := Lib.hid hb
             obtain rfl : j = 0 := by omega
             clear hb
             go_wp2_with fail
             rw [← HPP.out]
             exact ⟨true, rfl, fun _ => ⟨by omega, by omega⟩, HBw.out⟩)
    by_cases h3 : kd = 3
    · subst h3
      go_enter Tryd.func32, Tryd.ntmps32
      go_wp2_with fail
      all_goals first
        | (rw [← HPP.out]; exact ⟨false, rfl, fun h => (by simp at h), (Below.refl _ _).alloc (Nat.le_refl _) _⟩)
        | (have hn : n = 0 := by omega
           go_loopw [7, 89] (fun u1 i wr => ∃ (j : Nat), i = .int .i64 (j : Nat) ∧ j ≤ n ∧ Below w.heap.size w wr ∧ w.heap.size < wr.heap.size ∧ wr.cell? ⟨w.heap.size, 4, none⟩ = some (.slice p 0 cap)) (fun _ i _ => n - (intOf i).toNat)
           case atStart => exact ⟨0, rfl, by omega, (Below.refl _ _).alloc (Nat.le_refl _) _, by simp, by go_simp⟩
           case round =>
             obtain ⟨j, rfl, hj, hb, f3, f2⟩ := hrel
             have HBw := Lib.hid hb
             obtain rfl : j = 0 := by omega
             clear hb
             go_wp2_with fail
             rw [← HPP.out]
             exact ⟨true, rfl, fun _ => ⟨by omega, by omega⟩, HBw.out⟩)
    by_cases h4 : kd = 4
    · subst h4
      go_enter Tryd.func32, Tryd.ntmps32
      go_wp2_with fail
      all_goals first
        | (rw [← HPP.out]; exact ⟨false, rfl, fun h => (by simp at h), (Below.refl _ _).alloc (Nat.le_refl _) _⟩)
        | (have hn : n = 0 := by omega
           go_loopw [7, 89] (fun u1 i wr => ∃ (j : Nat), i = .int .i64 (j : Nat) ∧ j ≤ n ∧ Below w.heap.size w wr ∧ w.heap.size < wr.heap.size ∧ wr.cell? ⟨w.heap.size, 4, none⟩ = some (.slice p 0 cap)) (fun _ i _ => n - (intOf i).toNat)
           case atStart => exact ⟨0, rfl, by omega, (Below.refl _ _).alloc (Nat.le_refl _) _, by simp, by go_simp⟩
           case round =>
             obtain ⟨j, rfl, hj, hb, f3, f2⟩ := hrel
             have HBw := Lib.hid hb
             obtain rfl : j = 0 := by omega
             clear hb
             go_wp2_with fail
             rw [← HPP.out]
             exact ⟨true, rfl, fun _ => ⟨by omega, by omega⟩, HBw.out⟩)
    by_cases h5 : kd = 5
    · subst h5
      go_enter Tryd.func32, Tryd.ntmps32
      go_wp2_with fail
      all_goals first
        | (rw [← HPP.out]; exact ⟨false, rfl, fun h => (by simp at h), (Below.refl _ _).alloc (Nat.le_refl _) _⟩)
        | (have hn : n = 0 := by omega
           go_loopw [7, 89] (fun u1 i wr => ∃ (j : Nat), i = .int .i64 (j : Nat) ∧ j ≤ n ∧ Below w.heap.size w wr ∧ w.heap.size < wr.heap.size ∧ wr.cell? ⟨w.heap.size, 4, none⟩ = some (.slice p 0 cap)) (fun _ i _ => n - (intOf i).toNat)
           case atStart => exact ⟨0, rfl, by omega, (Below.refl _ _).alloc (Nat.le_refl _) _, by simp, by go_simp⟩
           case round =>
             obtain ⟨j, rfl, hj, hb, f3, f2⟩ := hrel
             have HBw := Lib.hid hb
             obtain rfl : j = 0 := by omega
             clear hb
             go_wp2_with fail
             rw [← HPP.out]
             exact ⟨true, rfl, fun _ => ⟨by omega, by omega⟩, HBw.out⟩)
    by_cases h6 : kd = 6
    · subst h6
      go_enter Tryd.func32, Tryd.ntmps32
      go_wp2_with fail
      all_goals first
        | (rw [← HPP.out]; exact ⟨false, rfl, fun h => (by simp at h), (Below.refl _ _).alloc (Nat.le_refl _) _⟩)
        | (have hn : n = 0 := by omega
           go_loopw [7, 89] (fun u1 i wr => ∃ (j : Nat), i = .int .i64 (j : Nat) ∧ j ≤ n ∧ Below w.heap.size w wr ∧ w.heap.size < wr.heap.size ∧ wr.cell? ⟨w.heap.size, 4, none⟩ = some (.slice p 0 cap)) (fun _ i _ => n - (intOf i).toNat)
           case atStart => exact ⟨0, rfl, by omega, (Below.refl _ _).alloc (Nat.le_refl _) _, by simp, by go_simp⟩
           case round =>
             obtain ⟨j, rfl, hj, hb, f3, f2⟩ := hrel
             have HBw := Lib.hid hb
             obtain rfl : j = 0 := by omega
             clear hb
             go_wp2_with fail
             rw [← HPP.out]
             exact ⟨true, rfl, fun _ => ⟨by omega, by omega⟩, HBw.out⟩)
    by_cases h7 : kd = 7
    · subst h7
      go_enter Tryd.func32, Tryd.ntmps32
      go_wp2_with fail
      all_goals first
        | (rw [← HPP.out]; exact ⟨false, rfl, fun h => (by simp at h), (Below.refl _ _).alloc (Nat.le_refl _) _⟩)
        | (have hn : n = 0 := by omega
           go_loopw [7, 89] (fun u1 i wr => ∃ (j : Nat), i = .int .i64 (j : Nat) ∧ j ≤ n ∧ Below w.heap.size w wr ∧ w.heap.size < wr.heap.size ∧ wr.cell? ⟨w.heap.size, 4, none⟩ = some (.slice p 0 cap)) (fun _ i _ => n - (intOf i).toNat)
           case atStart => exact ⟨0, rfl, by omega, (Below.refl _ _).alloc (Nat.le_refl _) _, by simp, by go_simp⟩
           case round =>
             obtain ⟨j, rfl, hj, hb, f3, f2⟩ := hrel
             have HBw := Lib.hid hb
             obtain rfl : j = 0 := by omega
             clear hb
             go_wp2_with fail
             rw [← HPP.out]
             exact ⟨true, rfl, fun _ => ⟨by omega, by omega⟩, HBw.out⟩)
    by_cases h8 : kd = 8
    · subst h8
      go_enter Tryd.func32, Tryd.ntmps32
      go_wp2_with fail
      all_goals first
        | (rw [← HPP.out]; exact ⟨false, rfl, fun h => (by simp at h), (Below.refl _ _).alloc (Nat.le_refl _) _⟩)
        | (go_loopw [7, 89] (fun u1 i wr => ∃ (j : Nat), i = .int .i64 (j : Nat) ∧ j ≤ n ∧ Below w.heap.size w wr ∧ w.heap.size < wr.heap.size ∧ wr.cell? ⟨w.heap.size, 4, none⟩ = some (.slice p n cap)) (fun _ i _ => n - (intOf i).toNat)
           case atStart => exact ⟨0, rfl, by omega, (Below.refl _ _).alloc (Nat.le_refl _) _, by simp, by go_simp⟩
           case round =>
             obtain ⟨j, rfl, hj, hb, f3, f2⟩ := hrel
             have HBw := Lib.hid hb
             by_cases hlt : j < n
             · obtain ⟨b, o, kd', di', db', ds', q, m, c, rfl, hbl, d0, d1, d2, d3, d4, hP⟩ := (HD.out.below HBw.out).part hlt
               have CX : Hid (∀ W, Below wr.heap.size wr W → Calls Tryd.prog 32 #[.agg #[.int .i64 kd', .int .i64 di', .int .u64 db', .string ds', .slice q m c]] W (ValidPost W kd')) := fun W hb => IH.out W kd' di' db' ds' q m c (hP.below hb)
               have HLT := Lib.hid hlt
               have HJ := Lib.hid hj
               have g1 : (j : Int) < ((n : Nat) : Int) := by omega
               have hcap := k1
               clear hP hb hlt hj
               go_wp2_with fail
               refine (CX.out _ (Below.refl _ _)).mono ?_
               rintro r' W ⟨bb, rfl, hbb, hb2⟩
               have HBw2 := Lib.hid (HBw.out.trans (hb2.mono (Nat.le_of_lt f3)))
               have hs2 := hb2.size
               have f4 := (hb2.cell f3).trans f2
               clear hb2 hbb d0 d1 d2 d3 d4 f2
               cases bb
               · go_wp2_with fail
                 rw [← HPP.out]; exact ⟨false, rfl, fun h => (by simp at h), HBw2.out⟩
               · go_wp2_with fail
                 go_roundw
                 case rel => exact ⟨j + 1, by go_num, by have := HLT.out; omega, HBw2.out, by omega, f4⟩
                 case measure => have := HLT.out; simp [intOf]; omega
             · obtain rfl : j = n := by omega
               clear hb
               go_wp2_with fail
               rw [← HPP.out]
               exact ⟨true, rfl, fun _ => ⟨by omega, by omega⟩, HBw.out⟩)
    by_cases h9 : kd = 9
    · subst h9
      go_enter Tryd.func32, Tryd.ntmps32
      go_wp2_with fail
      all_goals first
        | (rw [← HPP.out]; exact ⟨false, rfl, fun h => (by simp at h), (Below.refl _ _).alloc (Nat.le_refl _) _⟩)
        | (have hn : n = 2 := by omega
           go_loopw [7, 89] (fun u1 i wr => ∃ (j : Nat), i = .int .i64 (j : Nat) ∧ j ≤ n ∧ Below w.heap.size w wr ∧ w.heap.size < wr.heap.size ∧ wr.cell? ⟨w.heap.size, 4, none⟩ = some (.slice p 2 cap)) (fun _ i _ => n - (intOf i).toNat)
           case atStart => exact ⟨0, rfl, by omega, (Below.refl _ _).alloc (Nat.le_refl _) _, by simp, by go_simp⟩
           case round =>
             obtain ⟨j, rfl, hj, hb, f3, f2⟩ := hrel
             have HBw := Lib.hid hb
             by_cases hlt : j < n
             · obtain ⟨b, o, kd', di', db', ds', q, m, c, rfl, hbl, d0, d1, d2, d3, d4, hP⟩ := (HD.out.below HBw.out).part hlt
               have CX : Hid (∀ W, Below wr.heap.size wr W → Calls Tryd.prog 32 #[.agg #[.int .i64 kd', .int .i64 di', .int .u64 db', .string ds', .slice q m c]] W (ValidPost W kd')) := fun W hb => IH.out W kd' di' db' ds' q m c (hP.below hb)
               have HLT := Lib.hid hlt
               have HJ := Lib.hid hj
               have HN := Lib.hid hn
               have g1 : (j : Int) < (2 : Int) := by omega
               have g2 : j < 2 := by omega
               have hcap := k1
               clear hP hb hlt hj hn
               go_wp2_with fail
               refine (CX.out _ (Below.refl _ _)).mono ?_
               rintro r' W ⟨bb, rfl, hbb, hb2⟩
               have HBw2 := Lib.hid (HBw.out.trans (hb2.mono (Nat.le_of_lt f3)))
               have hs2 := hb2.size
               have f4 := (hb2.cell f3).trans f2
               clear hb2 hbb d0 d1 d2 d3 d4 f2
               cases bb
               · go_wp2_with fail
                 rw [← HPP.out]; exact ⟨false, rfl, fun h => (by simp at h), HBw2.out⟩
               · go_wp2_with fail
                 go_roundw
                 case rel => exact ⟨j + 1, by go_num, by have := HLT.out; omega, HBw2.out, by omega, f4⟩
                 case measure => have := HLT.out; simp [intOf]; omega
             · obtain rfl : j = 2 := by omega
               clear hb
               go_wp2_with fail
               rw [← HPP.out]
               exact ⟨true, rfl, fun _ => ⟨by omega, by omega⟩, HBw.out⟩)
    by_cases h10 : kd = 10
    · subst h10
      go_enter Tryd.func32, Tryd.ntmps32
      go_wp2_with fail
      all_goals first
        | (rw [← HPP.out]; exact ⟨false, rfl, fun h => (by simp at h), (Below.refl _ _).alloc (Nat.le_refl _) _⟩)
        | (have hn : n = 0 := by omega
           go_loopw [7, 89] (fun u1 i wr => ∃ (j : Nat), i = .int .i64 (j : Nat) ∧ j ≤ n ∧ Below w.heap.size w wr ∧ w.heap.size < wr.heap.size ∧ wr.cell? ⟨w.heap.size, 4, none⟩ = some (.slice p 0 cap)) (fun _ i _ => n - (intOf i).toNat)
           case atStart => exact ⟨0, rfl, by omega, (Below.refl _ _).alloc (Nat.le_refl _) _, by simp, by go_simp⟩
           case round =>
             obtain ⟨j, rfl, hj, hb, f3, f2⟩ := hrel
             have HBw := Lib.hid hb
             obtain rfl : j = 0 := by omega
             clear hb
             go_wp2_with fail
             rw [← HPP.out]
             exact ⟨true, rfl, fun _ => ⟨by omega, by omega⟩, HBw.out⟩)
    by_cases h11 : kd = 11
    · subst h11
      go_enter Tryd.func32, Tryd.ntmps32
      go_wp2_with fail
      all_goals first
        | (rw [← HPP.out]; exact ⟨false, rfl, fun h => (by simp at h), (Below.refl _ _).alloc (Nat.le_refl _) _⟩)
        | (have hn : n = 1 := by omega
           go_loopw [7, 89] (fun u1 i wr => ∃ (j : Nat), i = .int .i64 (j : Nat) ∧ j ≤ n ∧ Below w.heap.size w wr ∧ w.heap.size < wr.heap.size ∧ wr.cell? ⟨w.heap.size, 4, none⟩ = some (.slice p 1 cap)) (fun _ i _ => n - (intOf i).toNat)
           case atStart => exact ⟨0, rfl, by omega, (Below.refl _ _).alloc (Nat.le_refl _) _, by simp, by go_simp⟩
           case round =>
             obtain ⟨j, rfl, hj, hb, f3, f2⟩ := hrel
             have HBw := Lib.hid hb
             by_cases hlt : j < n
             · obtain ⟨b, o, kd', di', db', ds', q, m, c, rfl, hbl, d0, d1, d2, d3, d4, hP⟩ := (HD.out.below HBw.out).part hlt
               have CX : Hid (∀ W, Below wr.heap.size wr W → Calls Tryd.prog 32 #[.agg #[.int .i64 kd', .int .i64 di', .int .u64 db', .string ds', .slice q m c]] W (ValidPost W kd')) := fun W hb => IH.out W kd' di' db' ds' q m c (hP.below hb)
               have HLT := Lib.hid hlt
               have HJ := Lib.hid hj
               have HN := Lib.hid hn
               have g1 : (j : Int) < (1 : Int) := by omega
               have g2 : j < 1 := by omega
               have hcap := k1
               clear hP hb hlt hj hn
               go_wp2_with fail
               refine (CX.out _ (Below.refl _ _)).mono ?_
               rintro r' W ⟨bb, rfl, hbb, hb2⟩
               have HBw2 := Lib.hid (HBw.out.trans (hb2.mono (Nat.le_of_lt f3)))
               have hs2 := hb2.size
               have f4 := (hb2.cell f3).trans f2
               clear hb2 hbb d0 d1 d2 d3 d4 f2
               cases bb
               · go_wp2_with fail
                 rw [← HPP.out]; exact ⟨false, rfl, fun h => (by simp at h), HBw2.out⟩
               · go_wp2_with fail
                 go_roundw
                 case rel => exact ⟨j + 1, by go_num, by have := HLT.out; omega, HBw2.out, by omega, f4⟩
                 case measure => have := HLT.out; simp [intOf]; omega
             · obtain rfl : j = 1 := by omega
               clear hb
               go_wp2_with fail
               rw [← HPP.out]
               exact ⟨true, rfl, fun _ => ⟨by omega, by omega⟩, HBw.out⟩)
    by_cases h12 : kd = 12
    · subst h12
      go_enter Tryd.func32, Tryd.ntmps32
      go_wp2_with fail
      all_goals first
        | (rw [← HPP.out]; exact ⟨false, rfl, fun h => (by simp at h), (Below.refl _ _).alloc (Nat.le_refl _) _⟩)
        | (have hn : n = 0 := by omega
           go_loopw [7, 89] (fun u1 i wr => ∃ (j : Nat), i = .int .i64 (j : Nat) ∧ j ≤ n ∧ Below w.heap.size w wr ∧ w.heap.size < wr.heap.size ∧ wr.cell? ⟨w.heap.size, 4, none⟩ = some (.slice p 0 cap)) (fun _ i _ => n - (intOf i).toNat)
           case atStart => exact ⟨0, rfl, by omega, (Below.refl _ _).alloc (Nat.le_refl _) _, by simp, by go_simp⟩
           case round =>
             obtain ⟨j, rfl, hj, hb, f3, f2⟩ := hrel
             have HBw := Lib.hid hb
             obtain rfl : j = 0 := by omega
             clear hb
             go_wp2_with fail
             rw [← HPP.out]
             exact ⟨true, rfl, fun _ => ⟨by omega, by omega⟩, HBw.out⟩)
    by_cases h13 : kd = 13
    · subst h13
      go_enter Tryd.func32, Tryd.ntmps32
      go_wp2_with fail
      all_goals first
        | (rw [← HPP.out]; exact ⟨false, rfl, fun h => (by simp at h), (Below.refl _ _).alloc (Nat.le_refl _) _⟩)
        | (have hn : n = 0 := by omega
           go_loopw [7, 89] (fun u1 i wr => ∃ (j : Nat), i = .int .i64 (j : Nat) ∧ j ≤ n ∧ Below w.heap.size w wr ∧ w.heap.size < wr.heap.size ∧ wr.cell? ⟨w.heap.size, 4, none⟩ = some (.slice p 0 cap)) (fun _ i _ => n - (intOf i).toNat)
           case atStart => exact ⟨0, rfl, by omega, (Below.refl _ _).alloc (Nat.le_refl _) _, by simp, by go_simp⟩
           case round =>
             obtain ⟨j, rfl, hj, hb, f3, f2⟩ := hrel
             have HBw := Lib.hid hb
             obtain rfl : j = 0 := by omega
             clear hb
             go_wp2_with fail
             rw [← HPP.out]
             exact ⟨true, rfl, fun _ => ⟨by omega, by omega⟩, HBw.out⟩)
    go_enter Tryd.func32, Tryd.ntmps32
    go_wp2_with fail
    rw [← HPP.out]; exact ⟨false, rfl, fun h => (by simp at h), HB0.out⟩

theorem valid_any (k : Nat) (w : World) (kd di db : Int) (ds : ByteArray) (p : Option Addr) (n cap : Nat) (hD : DtIs w k [.int .i64 kd, .int .i64 di, .int .u64 db, .string ds, .slice p n cap]) :
    Calls Tryd.prog 18 #[.agg #[.int .i64 kd, .int .i64 di, .int .u64 db, .string ds, .slice p n cap]] w (ValidPost w kd) := by
  have CC : Hid (∀ W, Below w.heap.size w W → Calls Tryd.prog 31 #[.agg #[.int .i64 kd, .int .i64 di, .int .u64 db, .string ds, .slice p n cap], .int .i64 1, .int .i64 4096] W (CountPost W)) := fun W hb => count_any k W kd di db ds p n cap 1 4096 (hD.below hb)
  have CR : Hid (∀ W, Below w.heap.size w W → Calls Tryd.prog 32 #[.agg #[.int .i64 kd, .int .i64 di, .int .u64 db, .string ds, .slice p n cap]] W (ValidPost W kd)) := fun W hb => right_any k W kd di db ds p n cap (hD.below hb)
  obtain ⟨PP, hPP⟩ : ∃ PP, ValidPost w kd = PP := ⟨_, rfl⟩
  rw [hPP]
  have HPP := Lib.hid hPP
  clear hPP hD
  have HB0 : Hid (Below w.heap.size w (w.alloc (.cells #[.int .i64 kd, .int .i64 di, .int .u64 db, .string ds, .slice p n cap] 26))) := (Below.refl _ _).alloc (Nat.le_refl _) _
  go_enter Tryd.func18, Tryd.ntmps18
  go_wp2_with fail
  refine (CC.out _ HB0.out).mono ?_
  rintro r' W ⟨a1, a2, rfl, hb2⟩
  have HB2 := Lib.hid (HB0.out.trans (hb2.mono HB0.out.size))
  have d0 : W.cell? ⟨w.heap.size, 0, none⟩ = some (.int .i64 kd) ∧ W.cell? ⟨w.heap.size, 1, none⟩ = some (.int .i64 di) ∧ W.cell? ⟨w.heap.size, 2, none⟩ = some (.int .u64 db) ∧ W.cell? ⟨w.heap.size, 3, none⟩ = some (.string ds) ∧ W.cell? ⟨w.heap.size, 4, none⟩ = some (.slice p n cap) :=
      ⟨by rw [hb2.cell (by simp)]; go_simp, by rw [hb2.cell (by simp)]; go_simp, by rw [hb2.cell (by simp)]; go_simp, by rw [hb2.cell (by simp)]; go_simp, by rw [hb2.cell (by simp)]; go_simp⟩
  obtain ⟨d0, d1, d2, d3, d4⟩ := d0
  clear hb2
  have ha1 : a1 ≤ 4096 ∨ ¬ a1 ≤ 4096 := by omega
  have ha2 : a2 ≤ 16 ∨ ¬ a2 ≤ 16 := by omega
  rcases ha1 with ha1 | ha1
  · rcases ha2 with ha2 | ha2
    · go_wp2_with fail
      refine (CR.out _ HB2.out).mono ?_
      rintro r' W3 ⟨bb, rfl, hbb, hb3⟩
      have HB3 := Lib.hid (HB2.out.trans (hb3.mono HB2.out.size))
      have HK := Lib.hid hbb
      clear hb3 hbb
      go_wp2_with fail
      rw [← HPP.out]; exact ⟨bb, rfl, HK.out, HB3.out⟩
    · go_wp2_with fail
      rw [← HPP.out]; exact ⟨false, rfl, fun h => (by simp at h), HB2.out⟩
  · go_wp2_with fail
    rw [← HPP.out]; exact ⟨false, rfl, fun h => (by simp at h), HB2.out⟩
end Go.Proofs.YtpgdiekpeceicaaDoor
