/- SHARE: Valid (out of the wire chapter) SHARE: tick, FitMsg (out of the wire chapter) -/
import Derived.Test.YtincmegllckcjaaGreatDoorShareFRA
import Derived.Test.YtincmegllckcjaaGreatDoorShareFitG
import Derived.Test.YtincmegllckcjaaGreatDoorShareFRC
import Derived.Test.YtincmegllckcjaaGreatDoorMShareWays
namespace Go.Proofs.YtincmegllckcjaaGreatDoor
section
open Go Go.RowKit

set_option maxRecDepth 100000 in
set_option maxHeartbeats 8000000 in
theorem right_all : ∀ k, RC k := by
  intro k
  induction k with
  | zero => intro w kd di db ds p n cap ps h; exact h.elim
  | succ k ih =>
    intro w kd di db ds p n cap ps hD
    by_cases h0 : kd = 0
    · subst h0; exact right_k0 k ih w di db ds p n cap ps hD
    by_cases h1 : kd = 1
    · subst h1; exact right_k1 k ih w di db ds p n cap ps hD
    by_cases h2 : kd = 2
    · subst h2; exact right_k2 k ih w di db ds p n cap ps hD
    by_cases h3 : kd = 3
    · subst h3; exact right_k3 k ih w di db ds p n cap ps hD
    by_cases h4 : kd = 4
    · subst h4; exact right_k4 k ih w di db ds p n cap ps hD
    by_cases h5 : kd = 5
    · subst h5; exact right_k5 k ih w di db ds p n cap ps hD
    by_cases h6 : kd = 6
    · subst h6; exact right_k6 k ih w di db ds p n cap ps hD
    by_cases h7 : kd = 7
    · subst h7; exact right_k7 k ih w di db ds p n cap ps hD
    by_cases h8 : kd = 8
    · subst h8; exact right_k8 k ih w di db ds p n cap ps hD
    by_cases h9 : kd = 9
    · subst h9; exact right_k9 k ih w di db ds p n cap ps hD
    by_cases h10 : kd = 10
    · subst h10; exact right_k10 k ih w di db ds p n cap ps hD
    by_cases h11 : kd = 11
    · subst h11; exact right_k11 k ih w di db ds p n cap ps hD
    by_cases h12 : kd = 12
    · subst h12; exact right_k12 k ih w di db ds p n cap ps hD
    by_cases h13 : kd = 13
    · subst h13; exact right_k13 k ih w di db ds p n cap ps hD
    · obtain ⟨PP, hPP⟩ : ∃ PP, FairPost (.mk kd di db ds ps) w = PP := ⟨_, rfl⟩
      rw [hPP]
      have HPP := Lib.hid hPP
      have HNF : Hid (¬ FairV kd di db ds ps.length) := fun h => by have h1 := h.1; have h2 := h.2.1; omega
      have b0 : (kd == 0) = false := by simpa using (show kd ≠ 0 by omega)
      have b1 : (kd == 1) = false := by simpa using (show kd ≠ 1 by omega)
      have b2 : (kd == 2) = false := by simpa using (show kd ≠ 2 by omega)
      have b3 : (kd == 3) = false := by simpa using (show kd ≠ 3 by omega)
      have b4 : (kd == 4) = false := by simpa using (show kd ≠ 4 by omega)
      have b5 : (kd == 5) = false := by simpa using (show kd ≠ 5 by omega)
      have b6 : (kd == 6) = false := by simpa using (show kd ≠ 6 by omega)
      have b7 : (kd == 7) = false := by simpa using (show kd ≠ 7 by omega)
      have b8 : (kd == 8) = false := by simpa using (show kd ≠ 8 by omega)
      have b9 : (kd == 9) = false := by simpa using (show kd ≠ 9 by omega)
      have b10 : (kd == 10) = false := by simpa using (show kd ≠ 10 by omega)
      have b11 : (kd == 11) = false := by simpa using (show kd ≠ 11 by omega)
      have b12 : (kd == 12) = false := by simpa using (show kd ≠ 12 by omega)
      have b13 : (kd == 13) = false := by simpa using (show kd ≠ 13 by omega)
      clear hPP hD h0 h1 h2 h3 h4 h5 h6 h7 h8 h9 h10 h11 h12 h13
      go_enter Tryz.func66, Tryz.ntmps66
      go_wp2_with fail
      rw [← HPP.out]
      exact ⟨false, rfl, ⟨fun h => (by cases h), fun h => absurd h.1 HNF.out⟩, (Below.refl _ _).alloc (Nat.le_refl _) _⟩
def VB (t : Dv) : Prop := (t.size ≤ 4096 ∧ t.deep ≤ 16) ∧ t.Fair
def ValPost (t : Dv) (w : World) (r : Ending) (w' : World) : Prop := ∃ b : Bool, r = .returned (.bool b) ∧ (b = true ↔ VB t) ∧ Below w.heap.size w w'
set_option maxRecDepth 100000 in
set_option maxHeartbeats 4000000 in
theorem refValid01_any (k : Nat) (w : World) (kd di db : Int) (ds : ByteArray) (p : Option Addr) (n cap : Nat) (ps : List Dv) (hD : DvIs w k [.int .i64 kd, .int .i64 di, .int .u64 db, .string ds, .slice p n cap] (.mk kd di db ds ps)) :
    Calls Tryz.prog 31 #[.agg #[.int .i64 kd, .int .i64 di, .int .u64 db, .string ds, .slice p n cap]] w (ValPost (.mk kd di db ds ps) w) := by
  have CC : Hid (∀ W, Below w.heap.size w W → Calls Tryz.prog 65 #[.agg #[.int .i64 kd, .int .i64 di, .int .u64 db, .string ds, .slice p n cap], .int .i64 ((1 : Nat) : Int), .int .i64 ((4096 : Nat) : Int)] W (CntPost (.mk kd di db ds ps) 1 4096 W)) := fun W hb => cnt_any k W kd di db ds p n cap ps 1 4096 (hD.below hb) (by omega) (by omega)
  have CR : Hid (∀ W, Below w.heap.size w W → Calls Tryz.prog 66 #[.agg #[.int .i64 kd, .int .i64 di, .int .u64 db, .string ds, .slice p n cap]] W (FairPost (.mk kd di db ds ps) W)) := fun W hb => right_all k W kd di db ds p n cap ps (hD.below hb)
  obtain ⟨PP, hPP⟩ : ∃ PP, ValPost (.mk kd di db ds ps) w = PP := ⟨_, rfl⟩
  rw [hPP]
  have HPP := Lib.hid hPP
  have HB0 : Hid (Below w.heap.size w (w.alloc (.cells #[.int .i64 kd, .int .i64 di, .int .u64 db, .string ds, .slice p n cap] 34))) := (Below.refl _ _).alloc (Nat.le_refl _) _
  have HK : Hid (∀ W, Below (w.alloc (.cells #[.int .i64 kd, .int .i64 di, .int .u64 db, .string ds, .slice p n cap] 34)).heap.size (w.alloc (.cells #[.int .i64 kd, .int .i64 di, .int .u64 db, .string ds, .slice p n cap] 34)) W → W.heap[w.heap.size]? = some (.cells #[.int .i64 kd, .int .i64 di, .int .u64 db, .string ds, .slice p n cap] 34 (0, 0))) := fun W hb => by
    have h := hb.block w.heap.size (by simp)
    rw [h]
    exact heap_alloc_new w _
  clear hPP hD
  go_enter Tryz.func31, Tryz.ntmps31
  go_wp2_with fail
  refine (CC.out _ HB0.out).mono ?_
  rintro e W1 ⟨a, b, rfl, hb, hres⟩
  have H1 := Lib.hid (HB0.out.trans (hb.mono (by simp)))
  obtain ⟨c0, c1, c2, c3, c4, hlt⟩ := cells5 (HK.out W1 hb)
  clear hb
  rcases hres with ⟨hg, rfl, hb⟩ | ⟨hg, rfl⟩
  · have HG := Lib.hid hg
    obtain ⟨g1, g2⟩ := hg
    obtain ⟨T, hT⟩ : ∃ T, (Dv.mk kd di db ds ps).size = T := ⟨_, rfl⟩
    obtain ⟨D, hD⟩ : ∃ D, (Dv.mk kd di db ds ps).deep = D := ⟨_, rfl⟩
    rw [hT] at g1
    rw [hD] at g2 hb
    have hbD : b = (D : Int) := by omega
    subst hbD
    rw [hT]
    have hT2 : (T : Int) ≤ 4096 := by omega
    have hD2 : (D : Int) ≤ 16 := by omega
    clear g1 g2 hb hT hD
    go_wp2_with fail
    refine (CR.out W1 H1.out).mono ?_
    rintro e W2 ⟨b2, rfl, hiff, hb2⟩
    have H2 := Lib.hid (H1.out.trans (hb2.mono H1.out.size))
    have HI := Lib.hid hiff
    clear hb2 hiff c0 c1 c2 c3 c4
    go_wp2_with fail
    rw [← HPP.out]
    exact ⟨b2, rfl, ⟨fun h => ⟨⟨HG.out.1, by have := HG.out.2; omega⟩, HI.out.1 h⟩, fun h => HI.out.2 h.2⟩, H2.out⟩
  · have HG := Lib.hid hg
    clear hg
    go_wp2_with fail
    rw [← HPP.out]
    exact ⟨false, rfl, ⟨fun h => (by cases h), fun h => absurd ⟨h.1.1, by have := h.1.2; omega⟩ HG.out⟩, H1.out⟩
end
section
open Go Go.RowKit
def tickB (x : Int) : Bool := decide (0 ≤ x) && decide (x ≤ 1099511627776)
theorem mcells13 {W : World} {b : Nat} {t : TypeId} {c0 c1 c2 c3 c4 c5 c6 c7 c8 c9 c10 c11 c12 : Value} (h : W.heap[b]? = some (.cells #[c0, c1, c2, c3, c4, c5, c6, c7, c8, c9, c10, c11, c12] t (0, 0))) :
    W.cell? ⟨b, 0, none⟩ = some c0 ∧ W.cell? ⟨b, 1, none⟩ = some c1 ∧ W.cell? ⟨b, 2, none⟩ = some c2 ∧ W.cell? ⟨b, 3, none⟩ = some c3 ∧ W.cell? ⟨b, 4, none⟩ = some c4 ∧ W.cell? ⟨b, 5, none⟩ = some c5 ∧ W.cell? ⟨b, 6, none⟩ = some c6 ∧ W.cell? ⟨b, 7, none⟩ = some c7 ∧ W.cell? ⟨b, 8, none⟩ = some c8 ∧ W.cell? ⟨b, 9, none⟩ = some c9 ∧ W.cell? ⟨b, 10, none⟩ = some c10 ∧ W.cell? ⟨b, 11, none⟩ = some c11 ∧ W.cell? ⟨b, 12, none⟩ = some c12 ∧ b < W.heap.size := by
  refine ⟨?_, ?_, ?_, ?_, ?_, ?_, ?_, ?_, ?_, ?_, ?_, ?_, ?_, (Array.getElem?_eq_some_iff.1 h).1⟩ <;> simp [World.cell?, h]
theorem tick16_any (x : Int) (W : World) : Calls Tryz.prog 33 #[.int .i64 x] W fun e w' => e = .returned (.bool (tickB x)) ∧ w' = W := by
  obtain ⟨PP, hPP⟩ : ∃ PP, (fun (e : Ending) (w' : World) => e = .returned (.bool (tickB x)) ∧ w' = W) = PP := ⟨_, rfl⟩
  rw [hPP]
  have HPP := Lib.hid hPP
  clear hPP
  by_cases h0 : 0 ≤ x
  · by_cases h1 : x ≤ 1099511627776
    · have HT : Hid (tickB x = true) := by show _ = _; unfold tickB; simp [h0, h1]
      go_enter Tryz.func33, Tryz.ntmps33
      go_wp2_with fail
      rw [← HPP.out]
      exact ⟨by first | (rw [HT.out]; done) | (rw [HT.out]; rfl), rfl⟩
    · have HT : Hid (tickB x = false) := by show _ = _; unfold tickB; simp [h1]
      have h1' : 1099511627776 < x := by omega
      go_enter Tryz.func33, Tryz.ntmps33
      go_wp2_with fail
      rw [← HPP.out]
      exact ⟨by first | (rw [HT.out]; done) | (rw [HT.out]; rfl), rfl⟩
  · have HT : Hid (tickB x = false) := by show _ = _; unfold tickB; simp [h0]
    have h1' : x < 0 := by omega
    go_enter Tryz.func33, Tryz.ntmps33
    go_wp2_with fail
    rw [← HPP.out]
    exact ⟨by first | (rw [HT.out]; done) | (rw [HT.out]; rfl), rfl⟩
def FmPost (X : Prop) (w : World) (r : Ending) (w' : World) : Prop := ∃ b : Bool, r = .returned (.bool b) ∧ (b = true ↔ X) ∧ Below w.heap.size w w'
set_option maxRecDepth 100000 in
set_option maxHeartbeats 4000000 in
theorem fitMsg_any (k : Nat) (w : World) (id at_ un co pr hp : Int) (tp rp : ByteArray) (kd di db : Int) (ds : ByteArray) (p : Option Addr) (n cap : Nat) (ps : List Dv) (hD : DvIs w k [.int .i64 kd, .int .i64 di, .int .u64 db, .string ds, .slice p n cap] (.mk kd di db ds ps)) (htp : tp.size ≤ 9223372036854775807) (hrp : rp.size ≤ 9223372036854775807) (hT : Tabs w) :
    Calls Tryz.prog 13 #[.agg #[.int .i64 id, .string tp, .int .i64 kd, .int .i64 di, .int .u64 db, .string ds, .slice p n cap, .int .i64 at_, .int .i64 un, .string rp, .int .i64 co, .int .i64 pr, .int .i64 hp]] w (FmPost (VB (.mk kd di db ds ps) ∧ nameB tp.data.toList = true ∧ (rp = ⟨#[]⟩ ∨ nameB rp.data.toList = true) ∧ tickB at_ = true ∧ tickB un = true ∧ 0 ≤ hp ∧ hp ≤ 8) w) := by
  obtain ⟨PP, hPP⟩ : ∃ PP, FmPost (VB (.mk kd di db ds ps) ∧ nameB tp.data.toList = true ∧ (rp = ⟨#[]⟩ ∨ nameB rp.data.toList = true) ∧ tickB at_ = true ∧ tickB un = true ∧ 0 ≤ hp ∧ hp ≤ 8) w = PP := ⟨_, rfl⟩
  rw [hPP]
  have HPP := Lib.hid hPP
  have HB0 : Hid (Below w.heap.size w (w.alloc (.cells #[.int .i64 id, .string tp, .int .i64 kd, .int .i64 di, .int .u64 db, .string ds, .slice p n cap, .int .i64 at_, .int .i64 un, .string rp, .int .i64 co, .int .i64 pr, .int .i64 hp] 36))) := (Below.refl _ _).alloc (Nat.le_refl _) _
  have HK : Hid (∀ W, Below (w.alloc (.cells #[.int .i64 id, .string tp, .int .i64 kd, .int .i64 di, .int .u64 db, .string ds, .slice p n cap, .int .i64 at_, .int .i64 un, .string rp, .int .i64 co, .int .i64 pr, .int .i64 hp] 36)).heap.size (w.alloc (.cells #[.int .i64 id, .string tp, .int .i64 kd, .int .i64 di, .int .u64 db, .string ds, .slice p n cap, .int .i64 at_, .int .i64 un, .string rp, .int .i64 co, .int .i64 pr, .int .i64 hp] 36)) W → W.heap[w.heap.size]? = some (.cells #[.int .i64 id, .string tp, .int .i64 kd, .int .i64 di, .int .u64 db, .string ds, .slice p n cap, .int .i64 at_, .int .i64 un, .string rp, .int .i64 co, .int .i64 pr, .int .i64 hp] 36 (0, 0))) := fun W hb => by
    rw [hb.block w.heap.size (by simp)]
    exact heap_alloc_new w _
  have HW1 : Hid (Below (w.alloc (.cells #[.int .i64 id, .string tp, .int .i64 kd, .int .i64 di, .int .u64 db, .string ds, .slice p n cap, .int .i64 at_, .int .i64 un, .string rp, .int .i64 co, .int .i64 pr, .int .i64 hp] 36)).heap.size (w.alloc (.cells #[.int .i64 id, .string tp, .int .i64 kd, .int .i64 di, .int .u64 db, .string ds, .slice p n cap, .int .i64 at_, .int .i64 un, .string rp, .int .i64 co, .int .i64 pr, .int .i64 hp] 36)) (w.alloc (.cells #[.int .i64 id, .string tp, .int .i64 kd, .int .i64 di, .int .u64 db, .string ds, .slice p n cap, .int .i64 at_, .int .i64 un, .string rp, .int .i64 co, .int .i64 pr, .int .i64 hp] 36))) := Below.refl _ _
  have CV : Hid (Calls Tryz.prog 31 #[.agg #[.int .i64 kd, .int .i64 di, .int .u64 db, .string ds, .slice p n cap]] (w.alloc (.cells #[.int .i64 id, .string tp, .int .i64 kd, .int .i64 di, .int .u64 db, .string ds, .slice p n cap, .int .i64 at_, .int .i64 un, .string rp, .int .i64 co, .int .i64 pr, .int .i64 hp] 36)) (ValPost (.mk kd di db ds ps) (w.alloc (.cells #[.int .i64 id, .string tp, .int .i64 kd, .int .i64 di, .int .u64 db, .string ds, .slice p n cap, .int .i64 at_, .int .i64 un, .string rp, .int .i64 co, .int .i64 pr, .int .i64 hp] 36)))) := refValid01_any k _ kd di db ds p n cap ps (hD.below HB0.out)
  have CN1 : Hid (∀ W, Below (w.alloc (.cells #[.int .i64 id, .string tp, .int .i64 kd, .int .i64 di, .int .u64 db, .string ds, .slice p n cap, .int .i64 at_, .int .i64 un, .string rp, .int .i64 co, .int .i64 pr, .int .i64 hp] 36)).heap.size (w.alloc (.cells #[.int .i64 id, .string tp, .int .i64 kd, .int .i64 di, .int .u64 db, .string ds, .slice p n cap, .int .i64 at_, .int .i64 un, .string rp, .int .i64 co, .int .i64 pr, .int .i64 hp] 36)) W → Calls Tryz.prog 32 #[.string tp] W fun e w' => e = .returned (.bool (nameB tp.data.toList)) ∧ Below W.heap.size W w') := fun W hb => refName_any valid_said tp W htp (hT.below (HB0.out.trans (hb.mono (by simp))))
  have CN2 : Hid (∀ W, Below (w.alloc (.cells #[.int .i64 id, .string tp, .int .i64 kd, .int .i64 di, .int .u64 db, .string ds, .slice p n cap, .int .i64 at_, .int .i64 un, .string rp, .int .i64 co, .int .i64 pr, .int .i64 hp] 36)).heap.size (w.alloc (.cells #[.int .i64 id, .string tp, .int .i64 kd, .int .i64 di, .int .u64 db, .string ds, .slice p n cap, .int .i64 at_, .int .i64 un, .string rp, .int .i64 co, .int .i64 pr, .int .i64 hp] 36)) W → Calls Tryz.prog 32 #[.string rp] W fun e w' => e = .returned (.bool (nameB rp.data.toList)) ∧ Below W.heap.size W w') := fun W hb => refName_any valid_said rp W hrp (hT.below (HB0.out.trans (hb.mono (by simp))))
  have CT : Hid (∀ x W, Calls Tryz.prog 33 #[.int .i64 x] W fun e w' => e = .returned (.bool (tickB x)) ∧ w' = W) := fun x W => tick16_any x W
  clear hPP hD hT htp hrp
  go_enter Tryz.func13, Tryz.ntmps13
  go_wp2_with fail
  refine CV.out.mono ?_
  rintro e W2 ⟨b, rfl, hiff, hb⟩
  have HW2 : Hid (Below (w.alloc (.cells #[.int .i64 id, .string tp, .int .i64 kd, .int .i64 di, .int .u64 db, .string ds, .slice p n cap, .int .i64 at_, .int .i64 un, .string rp, .int .i64 co, .int .i64 pr, .int .i64 hp] 36)).heap.size (w.alloc (.cells #[.int .i64 id, .string tp, .int .i64 kd, .int .i64 di, .int .u64 db, .string ds, .slice p n cap, .int .i64 at_, .int .i64 un, .string rp, .int .i64 co, .int .i64 pr, .int .i64 hp] 36)) W2) := hb
  have HI := Lib.hid hiff
  clear hb hiff
  obtain ⟨c0, c1, c2, c3, c4, c5, c6, c7, c8, c9, c10, c11, c12, hcl⟩ := mcells13 (HK.out W2 HW2.out)
  cases b with
  | false =>
    have HNV : Hid (¬ VB (.mk kd di db ds ps)) := fun h => by have := HI.out.2 h; cases this
    go_wp2_with fail
    rw [← HPP.out]
    exact ⟨false, rfl, ⟨fun h => (by cases h), fun h => absurd h.1 HNV.out⟩, HB0.out.trans (HW2.out.mono (by simp))⟩
  | true =>
    have HVB := Lib.hid (HI.out.1 rfl)
    obtain ⟨nt, hnt⟩ : ∃ b, nameB tp.data.toList = b := ⟨_, rfl⟩
    have HNT := Lib.hid hnt
    have CNX := CN1.out W2 HW2.out
    rw [hnt] at CNX
    have CNX := Lib.hid CNX
    clear hnt
    go_wp2_with fail
    refine (CNX.out).mono ?_
    rintro e W3 ⟨rfl, hb⟩
    have HW3 : Hid (Below (w.alloc (.cells #[.int .i64 id, .string tp, .int .i64 kd, .int .i64 di, .int .u64 db, .string ds, .slice p n cap, .int .i64 at_, .int .i64 un, .string rp, .int .i64 co, .int .i64 pr, .int .i64 hp] 36)).heap.size (w.alloc (.cells #[.int .i64 id, .string tp, .int .i64 kd, .int .i64 di, .int .u64 db, .string ds, .slice p n cap, .int .i64 at_, .int .i64 un, .string rp, .int .i64 co, .int .i64 pr, .int .i64 hp] 36)) W3) := HW2.out.trans (hb.mono HW2.out.size)
    clear hb c0 c1 c2 c3 c4 c5 c6 c7 c8 c9 c10 c11 c12 hcl
    obtain ⟨c0, c1, c2, c3, c4, c5, c6, c7, c8, c9, c10, c11, c12, hcl⟩ := mcells13 (HK.out W3 HW3.out)
    cases nt with
    | false =>
      go_wp2_with fail
      rw [← HPP.out]
      exact ⟨false, rfl, ⟨fun h => (by cases h), fun h => by have h4 := h.2.1; rw [HNT.out] at h4; cases h4⟩, HB0.out.trans (HW3.out.mono (by simp))⟩
    | true =>
      by_cases hr0 : rp = ⟨#[]⟩
      · have HR0 := Lib.hid hr0
        rw [hr0] at c9
        clear hr0
        have HRP : Hid (rp = ⟨#[]⟩ ∨ nameB rp.data.toList = true) := .inl HR0.out
        obtain ⟨ta, hta⟩ : ∃ b, tickB at_ = b := ⟨_, rfl⟩
        obtain ⟨tu, htu⟩ : ∃ b, tickB un = b := ⟨_, rfl⟩
        have CT1 : Hid (∀ W, Calls Tryz.prog 33 #[.int .i64 at_] W fun e w' => e = .returned (.bool ta) ∧ w' = W) := fun W => by have h := CT.out at_ W; rw [hta] at h; exact h
        have CT2 : Hid (∀ W, Calls Tryz.prog 33 #[.int .i64 un] W fun e w' => e = .returned (.bool tu) ∧ w' = W) := fun W => by have h := CT.out un W; rw [htu] at h; exact h
        have HTA := Lib.hid hta
        have HTU := Lib.hid htu
        clear hta htu
        go_wp2_with fail
        refine (CT1.out _).mono ?_
        rintro e w1 ⟨rfl, rfl⟩
        cases ta with
        | false =>
          go_wp2_with fail
          rw [← HPP.out]
          exact ⟨false, rfl, ⟨fun h => (by cases h), fun h => by have h4 := h.2.2.2.1; rw [HTA.out] at h4; cases h4⟩, HB0.out.trans (HW3.out.mono (by simp))⟩
        | true =>
          go_wp2_with fail
          refine (CT2.out _).mono ?_
          rintro e w2 ⟨rfl, rfl⟩
          cases tu with
          | false =>
            go_wp2_with fail
            rw [← HPP.out]
            exact ⟨false, rfl, ⟨fun h => (by cases h), fun h => by have h4 := h.2.2.2.2.1; rw [HTU.out] at h4; cases h4⟩, HB0.out.trans (HW3.out.mono (by simp))⟩
          | true =>
            by_cases h5 : 0 ≤ hp
            · by_cases h8 : hp ≤ 8
              · have HH : Hid (0 ≤ hp ∧ hp ≤ 8) := ⟨h5, h8⟩
                go_wp2_with fail
                rw [← HPP.out]
                exact ⟨true, rfl, ⟨fun _ => ⟨HVB.out, HNT.out, HRP.out, HTA.out, HTU.out, HH.out.1, HH.out.2⟩, fun _ => rfl⟩, HB0.out.trans (HW3.out.mono (by simp))⟩
              · have h8' : ¬ hp ≤ 8 := h8
                have HH := Lib.hid h8'
                have h8d : decide (hp ≤ 8) = false := by simpa using h8
                go_wp2_with fail
                rw [← HPP.out]
                exact ⟨false, by first | rfl | (rw [h8d]; done), ⟨fun h => (by cases h), fun h => by have h9 := HH.out; have h8 := h.2.2.2.2.2.2; omega⟩, HB0.out.trans (HW3.out.mono (by simp))⟩
            · have HH := Lib.hid h5
              have h5d : decide (0 ≤ hp) = false := by simpa using h5
              go_wp2_with fail
              rw [← HPP.out]
              exact ⟨false, by first | rfl | (rw [h5d]; done), ⟨fun h => (by cases h), fun h => by have h9 := HH.out; have h8 := h.2.2.2.2.2.1; omega⟩, HB0.out.trans (HW3.out.mono (by simp))⟩
      · obtain ⟨hb1, hb2, hb3⟩ := ds_ne hr0
        have HR0 : Hid (¬ rp = ⟨#[]⟩) := hr0
        have hb4 : rp.toList.isEmpty = false := by cases h : rp.toList with | nil => exact absurd h hb3 | cons a b => rfl
        obtain ⟨nr, hnr⟩ : ∃ b, nameB rp.data.toList = b := ⟨_, rfl⟩
        have HNR := Lib.hid hnr
        have CNY := CN2.out W3 HW3.out
        rw [hnr] at CNY
        have CNY := Lib.hid CNY
        clear hnr hr0
        go_wp2_with fail
        refine (CNY.out).mono ?_
        rintro e W4 ⟨rfl, hb⟩
        have HW4 : Hid (Below (w.alloc (.cells #[.int .i64 id, .string tp, .int .i64 kd, .int .i64 di, .int .u64 db, .string ds, .slice p n cap, .int .i64 at_, .int .i64 un, .string rp, .int .i64 co, .int .i64 pr, .int .i64 hp] 36)).heap.size (w.alloc (.cells #[.int .i64 id, .string tp, .int .i64 kd, .int .i64 di, .int .u64 db, .string ds, .slice p n cap, .int .i64 at_, .int .i64 un, .string rp, .int .i64 co, .int .i64 pr, .int .i64 hp] 36)) W4) := HW3.out.trans (hb.mono HW3.out.size)
        clear hb c0 c1 c2 c3 c4 c5 c6 c7 c8 c9 c10 c11 c12 hcl
        obtain ⟨c0, c1, c2, c3, c4, c5, c6, c7, c8, c9, c10, c11, c12, hcl⟩ := mcells13 (HK.out W4 HW4.out)
        cases nr with
        | false =>
          go_wp2_with fail
          rw [← HPP.out]
          exact ⟨false, rfl, ⟨fun h => (by cases h), fun h => by rcases h.2.2.1 with h4 | h4; exact absurd h4 HR0.out; rw [HNR.out] at h4; cases h4⟩, HB0.out.trans (HW4.out.mono (by simp))⟩
        | true =>
          have HRP : Hid (rp = ⟨#[]⟩ ∨ nameB rp.data.toList = true) := .inr HNR.out
          obtain ⟨ta, hta⟩ : ∃ b, tickB at_ = b := ⟨_, rfl⟩
          obtain ⟨tu, htu⟩ : ∃ b, tickB un = b := ⟨_, rfl⟩
          have CT1 : Hid (∀ W, Calls Tryz.prog 33 #[.int .i64 at_] W fun e w' => e = .returned (.bool ta) ∧ w' = W) := fun W => by have h := CT.out at_ W; rw [hta] at h; exact h
          have CT2 : Hid (∀ W, Calls Tryz.prog 33 #[.int .i64 un] W fun e w' => e = .returned (.bool tu) ∧ w' = W) := fun W => by have h := CT.out un W; rw [htu] at h; exact h
          have HTA := Lib.hid hta
          have HTU := Lib.hid htu
          clear hta htu
          go_wp2_with fail
          refine (CT1.out _).mono ?_
          rintro e w1 ⟨rfl, rfl⟩
          cases ta with
          | false =>
            go_wp2_with fail
            rw [← HPP.out]
            exact ⟨false, rfl, ⟨fun h => (by cases h), fun h => by have h4 := h.2.2.2.1; rw [HTA.out] at h4; cases h4⟩, HB0.out.trans (HW4.out.mono (by simp))⟩
          | true =>
            go_wp2_with fail
            refine (CT2.out _).mono ?_
            rintro e w2 ⟨rfl, rfl⟩
            cases tu with
            | false =>
              go_wp2_with fail
              rw [← HPP.out]
              exact ⟨false, rfl, ⟨fun h => (by cases h), fun h => by have h4 := h.2.2.2.2.1; rw [HTU.out] at h4; cases h4⟩, HB0.out.trans (HW4.out.mono (by simp))⟩
            | true =>
              by_cases h5 : 0 ≤ hp
              · by_cases h8 : hp ≤ 8
                · have HH : Hid (0 ≤ hp ∧ hp ≤ 8) := ⟨h5, h8⟩
                  go_wp2_with fail
                  rw [← HPP.out]
                  exact ⟨true, rfl, ⟨fun _ => ⟨HVB.out, HNT.out, HRP.out, HTA.out, HTU.out, HH.out.1, HH.out.2⟩, fun _ => rfl⟩, HB0.out.trans (HW4.out.mono (by simp))⟩
                · have h8' : ¬ hp ≤ 8 := h8
                  have HH := Lib.hid h8'
                  have h8d : decide (hp ≤ 8) = false := by simpa using h8
                  go_wp2_with fail
                  rw [← HPP.out]
                  exact ⟨false, by first | rfl | (rw [h8d]; done), ⟨fun h => (by cases h), fun h => by have h9 := HH.out; have h8 := h.2.2.2.2.2.2; omega⟩, HB0.out.trans (HW4.out.mono (by simp))⟩
              · have HH := Lib.hid h5
                have h5d : decide (0 ≤ hp) = false := by simpa using h5
                go_wp2_with fail
                rw [← HPP.out]
                exact ⟨false, by first | rfl | (rw [h5d]; done), ⟨fun h => (by cases h), fun h => by have h9 := HH.out; have h8 := h.2.2.2.2.2.1; omega⟩, HB0.out.trans (HW4.out.mono (by simp))⟩
end
end Go.Proofs.YtincmegllckcjaaGreatDoor
