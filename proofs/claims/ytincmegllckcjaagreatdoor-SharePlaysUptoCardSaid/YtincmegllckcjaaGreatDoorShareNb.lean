/- SHARE: Valid (out of the wire chapter) SHARE: tick, FitMsg (out of the wire chapter) SHARE: what the arguments are: a row of calls, texts. SHARE: what is kept after a row of messages, in plain Lean. SHARE: conduitref01.Same of any two values; conduitref16.SameMsg of any two messages. SHARE: conduitref16.SameMsg of any two messages. -/
import Derived.Test.YtincmegllckcjaaGreatDoorShareFRA
import Derived.Test.YtincmegllckcjaaGreatDoorShareFitG
import Derived.Test.YtincmegllckcjaaGreatDoorShareFRC
import Derived.Test.YtincmegllckcjaaGreatDoorMShareWays
import Derived.Test.YtincmegllckcjaaGreatDoorMReadFlat
import Derived.Test.YtincmegllckcjaaGreatDoorSharePr
import Derived.JoinedCond
import Derived.Deep.Slices
import Derived.Carry
import Derived.Test.YtincmegllckcjaaGreatDoorMTrieAwake
import Derived.Deep.RegionHeld3
import Derived.Test.YtincmegllckcjaaGreatDoorShareOwn
namespace Go.Proofs.YtincmegllckcjaaGreatDoor
section
open Go Go.RowKit

set_option maxRecDepth 100000 in
set_option maxHeartbeats 8000000 in
theorem right_all : ∀ k, RC k := by
  intro k
  induction k with
  | zero => intro w kd di db ds p n cap ps h; exact h.elim
  | succ k ih =>
    intro w kd di db ds p n cap ps hD
    by_cases h0 : kd = 0
    · subst h0; exact right_k0 k ih w di db ds p n cap ps hD
    by_cases h1 : kd = 1
    · subst h1; exact right_k1 k ih w di db ds p n cap ps hD
    by_cases h2 : kd = 2
    · subst h2; exact right_k2 k ih w di db ds p n cap ps hD
    by_cases h3 : kd = 3
    · subst h3; exact right_k3 k ih w di db ds p n cap ps hD
    by_cases h4 : kd = 4
    · subst h4; exact right_k4 k ih w di db ds p n cap ps hD
    by_cases h5 : kd = 5
    · subst h5; exact right_k5 k ih w di db ds p n cap ps hD
    by_cases h6 : kd = 6
    · subst h6; exact right_k6 k ih w di db ds p n cap ps hD
    by_cases h7 : kd = 7
    · subst h7; exact right_k7 k ih w di db ds p n cap ps hD
    by_cases h8 : kd = 8
    · subst h8; exact right_k8 k ih w di db ds p n cap ps hD
    by_cases h9 : kd = 9
    · subst h9; exact right_k9 k ih w di db ds p n cap ps hD
    by_cases h10 : kd = 10
    · subst h10; exact right_k10 k ih w di db ds p n cap ps hD
    by_cases h11 : kd = 11
    · subst h11; exact right_k11 k ih w di db ds p n cap ps hD
    by_cases h12 : kd = 12
    · subst h12; exact right_k12 k ih w di db ds p n cap ps hD
    by_cases h13 : kd = 13
    · subst h13; exact right_k13 k ih w di db ds p n cap ps hD
    · obtain ⟨PP, hPP⟩ : ∃ PP, FairPost (.mk kd di db ds ps) w = PP := ⟨_, rfl⟩
      rw [hPP]
      have HPP := Lib.hid hPP
      have HNF : Hid (¬ FairV kd di db ds ps.length) := fun h => by have h1 := h.1; have h2 := h.2.1; omega
      have b0 : (kd == 0) = false := by simpa using (show kd ≠ 0 by omega)
      have b1 : (kd == 1) = false := by simpa using (show kd ≠ 1 by omega)
      have b2 : (kd == 2) = false := by simpa using (show kd ≠ 2 by omega)
      have b3 : (kd == 3) = false := by simpa using (show kd ≠ 3 by omega)
      have b4 : (kd == 4) = false := by simpa using (show kd ≠ 4 by omega)
      have b5 : (kd == 5) = false := by simpa using (show kd ≠ 5 by omega)
      have b6 : (kd == 6) = false := by simpa using (show kd ≠ 6 by omega)
      have b7 : (kd == 7) = false := by simpa using (show kd ≠ 7 by omega)
      have b8 : (kd == 8) = false := by simpa using (show kd ≠ 8 by omega)
      have b9 : (kd == 9) = false := by simpa using (show kd ≠ 9 by omega)
      have b10 : (kd == 10) = false := by simpa using (show kd ≠ 10 by omega)
      have b11 : (kd == 11) = false := by simpa using (show kd ≠ 11 by omega)
      have b12 : (kd == 12) = false := by simpa using (show kd ≠ 12 by omega)
      have b13 : (kd == 13) = false := by simpa using (show kd ≠ 13 by omega)
      clear hPP hD h0 h1 h2 h3 h4 h5 h6 h7 h8 h9 h10 h11 h12 h13
      go_enter Tryz.func66, Tryz.ntmps66
      go_wp2_with fail
      rw [← HPP.out]
      exact ⟨false, rfl, ⟨fun h => (by cases h), fun h => absurd h.1 HNF.out⟩, (Below.refl _ _).alloc (Nat.le_refl _) _⟩
def VB (t : Dv) : Prop := (t.size ≤ 4096 ∧ t.deep ≤ 16) ∧ t.Fair
def ValPost (t : Dv) (w : World) (r : Ending) (w' : World) : Prop := ∃ b : Bool, r = .returned (.bool b) ∧ (b = true ↔ VB t) ∧ Below w.heap.size w w'
set_option maxRecDepth 100000 in
set_option maxHeartbeats 4000000 in
theorem refValid01_any (k : Nat) (w : World) (kd di db : Int) (ds : ByteArray) (p : Option Addr) (n cap : Nat) (ps : List Dv) (hD : DvIs w k [.int .i64 kd, .int .i64 di, .int .u64 db, .string ds, .slice p n cap] (.mk kd di db ds ps)) :
    Calls Tryz.prog 31 #[.agg #[.int .i64 kd, .int .i64 di, .int .u64 db, .string ds, .slice p n cap]] w (ValPost (.mk kd di db ds ps) w) := by
  have CC : Hid (∀ W, Below w.heap.size w W → Calls Tryz.prog 65 #[.agg #[.int .i64 kd, .int .i64 di, .int .u64 db, .string ds, .slice p n cap], .int .i64 ((1 : Nat) : Int), .int .i64 ((4096 : Nat) : Int)] W (CntPost (.mk kd di db ds ps) 1 4096 W)) := fun W hb => cnt_any k W kd di db ds p n cap ps 1 4096 (hD.below hb) (by omega) (by omega)
  have CR : Hid (∀ W, Below w.heap.size w W → Calls Tryz.prog 66 #[.agg #[.int .i64 kd, .int .i64 di, .int .u64 db, .string ds, .slice p n cap]] W (FairPost (.mk kd di db ds ps) W)) := fun W hb => right_all k W kd di db ds p n cap ps (hD.below hb)
  obtain ⟨PP, hPP⟩ : ∃ PP, ValPost (.mk kd di db ds ps) w = PP := ⟨_, rfl⟩
  rw [hPP]
  have HPP := Lib.hid hPP
  have HB0 : Hid (Below w.heap.size w (w.alloc (.cells #[.int .i64 kd, .int .i64 di, .int .u64 db, .string ds, .slice p n cap] 34))) := (Below.refl _ _).alloc (Nat.le_refl _) _
  have HK : Hid (∀ W, Below (w.alloc (.cells #[.int .i64 kd, .int .i64 di, .int .u64 db, .string ds, .slice p n cap] 34)).heap.size (w.alloc (.cells #[.int .i64 kd, .int .i64 di, .int .u64 db, .string ds, .slice p n cap] 34)) W → W.heap[w.heap.size]? = some (.cells #[.int .i64 kd, .int .i64 di, .int .u64 db, .string ds, .slice p n cap] 34 (0, 0))) := fun W hb => by
    have h := hb.block w.heap.size (by simp)
    rw [h]
    exact heap_alloc_new w _
  clear hPP hD
  go_enter Tryz.func31, Tryz.ntmps31
  go_wp2_with fail
  refine (CC.out _ HB0.out).mono ?_
  rintro e W1 ⟨a, b, rfl, hb, hres⟩
  have H1 := Lib.hid (HB0.out.trans (hb.mono (by simp)))
  obtain ⟨c0, c1, c2, c3, c4, hlt⟩ := cells5 (HK.out W1 hb)
  clear hb
  rcases hres with ⟨hg, rfl, hb⟩ | ⟨hg, rfl⟩
  · have HG := Lib.hid hg
    obtain ⟨g1, g2⟩ := hg
    obtain ⟨T, hT⟩ : ∃ T, (Dv.mk kd di db ds ps).size = T := ⟨_, rfl⟩
    obtain ⟨D, hD⟩ : ∃ D, (Dv.mk kd di db ds ps).deep = D := ⟨_, rfl⟩
    rw [hT] at g1
    rw [hD] at g2 hb
    have hbD : b = (D : Int) := by omega
    subst hbD
    rw [hT]
    have hT2 : (T : Int) ≤ 4096 := by omega
    have hD2 : (D : Int) ≤ 16 := by omega
    clear g1 g2 hb hT hD
    go_wp2_with fail
    refine (CR.out W1 H1.out).mono ?_
    rintro e W2 ⟨b2, rfl, hiff, hb2⟩
    have H2 := Lib.hid (H1.out.trans (hb2.mono H1.out.size))
    have HI := Lib.hid hiff
    clear hb2 hiff c0 c1 c2 c3 c4
    go_wp2_with fail
    rw [← HPP.out]
    exact ⟨b2, rfl, ⟨fun h => ⟨⟨HG.out.1, by have := HG.out.2; omega⟩, HI.out.1 h⟩, fun h => HI.out.2 h.2⟩, H2.out⟩
  · have HG := Lib.hid hg
    clear hg
    go_wp2_with fail
    rw [← HPP.out]
    exact ⟨false, rfl, ⟨fun h => (by cases h), fun h => absurd ⟨h.1.1, by have := h.1.2; omega⟩ HG.out⟩, H1.out⟩
end
section
open Go Go.RowKit
def tickB (x : Int) : Bool := decide (0 ≤ x) && decide (x ≤ 1099511627776)
theorem mcells13 {W : World} {b : Nat} {t : TypeId} {c0 c1 c2 c3 c4 c5 c6 c7 c8 c9 c10 c11 c12 : Value} (h : W.heap[b]? = some (.cells #[c0, c1, c2, c3, c4, c5, c6, c7, c8, c9, c10, c11, c12] t (0, 0))) :
    W.cell? ⟨b, 0, none⟩ = some c0 ∧ W.cell? ⟨b, 1, none⟩ = some c1 ∧ W.cell? ⟨b, 2, none⟩ = some c2 ∧ W.cell? ⟨b, 3, none⟩ = some c3 ∧ W.cell? ⟨b, 4, none⟩ = some c4 ∧ W.cell? ⟨b, 5, none⟩ = some c5 ∧ W.cell? ⟨b, 6, none⟩ = some c6 ∧ W.cell? ⟨b, 7, none⟩ = some c7 ∧ W.cell? ⟨b, 8, none⟩ = some c8 ∧ W.cell? ⟨b, 9, none⟩ = some c9 ∧ W.cell? ⟨b, 10, none⟩ = some c10 ∧ W.cell? ⟨b, 11, none⟩ = some c11 ∧ W.cell? ⟨b, 12, none⟩ = some c12 ∧ b < W.heap.size := by
  refine ⟨?_, ?_, ?_, ?_, ?_, ?_, ?_, ?_, ?_, ?_, ?_, ?_, ?_, (Array.getElem?_eq_some_iff.1 h).1⟩ <;> simp [World.cell?, h]
theorem tick16_any (x : Int) (W : World) : Calls Tryz.prog 33 #[.int .i64 x] W fun e w' => e = .returned (.bool (tickB x)) ∧ w' = W := by
  obtain ⟨PP, hPP⟩ : ∃ PP, (fun (e : Ending) (w' : World) => e = .returned (.bool (tickB x)) ∧ w' = W) = PP := ⟨_, rfl⟩
  rw [hPP]
  have HPP := Lib.hid hPP
  clear hPP
  by_cases h0 : 0 ≤ x
  · by_cases h1 : x ≤ 1099511627776
    · have HT : Hid (tickB x = true) := by show _ = _; unfold tickB; simp [h0, h1]
      go_enter Tryz.func33, Tryz.ntmps33
      go_wp2_with fail
      rw [← HPP.out]
      exact ⟨by first | (rw [HT.out]; done) | (rw [HT.out]; rfl), rfl⟩
    · have HT : Hid (tickB x = false) := by show _ = _; unfold tickB; simp [h1]
      have h1' : 1099511627776 < x := by omega
      go_enter Tryz.func33, Tryz.ntmps33
      go_wp2_with fail
      rw [← HPP.out]
      exact ⟨by first | (rw [HT.out]; done) | (rw [HT.out]; rfl), rfl⟩
  · have HT : Hid (tickB x = false) := by show _ = _; unfold tickB; simp [h0]
    have h1' : x < 0 := by omega
    go_enter Tryz.func33, Tryz.ntmps33
    go_wp2_with fail
    rw [← HPP.out]
    exact ⟨by first | (rw [HT.out]; done) | (rw [HT.out]; rfl), rfl⟩
def FmPost (X : Prop) (w : World) (r : Ending) (w' : World) : Prop := ∃ b : Bool, r = .returned (.bool b) ∧ (b = true ↔ X) ∧ Below w.heap.size w w'
set_option maxRecDepth 100000 in
set_option maxHeartbeats 4000000 in
theorem fitMsg_any (k : Nat) (w : World) (id at_ un co pr hp : Int) (tp rp : ByteArray) (kd di db : Int) (ds : ByteArray) (p : Option Addr) (n cap : Nat) (ps : List Dv) (hD : DvIs w k [.int .i64 kd, .int .i64 di, .int .u64 db, .string ds, .slice p n cap] (.mk kd di db ds ps)) (htp : tp.size ≤ 9223372036854775807) (hrp : rp.size ≤ 9223372036854775807) (hT : Tabs w) :
    Calls Tryz.prog 13 #[.agg #[.int .i64 id, .string tp, .int .i64 kd, .int .i64 di, .int .u64 db, .string ds, .slice p n cap, .int .i64 at_, .int .i64 un, .string rp, .int .i64 co, .int .i64 pr, .int .i64 hp]] w (FmPost (VB (.mk kd di db ds ps) ∧ nameB tp.data.toList = true ∧ (rp = ⟨#[]⟩ ∨ nameB rp.data.toList = true) ∧ tickB at_ = true ∧ tickB un = true ∧ 0 ≤ hp ∧ hp ≤ 8) w) := by
  obtain ⟨PP, hPP⟩ : ∃ PP, FmPost (VB (.mk kd di db ds ps) ∧ nameB tp.data.toList = true ∧ (rp = ⟨#[]⟩ ∨ nameB rp.data.toList = true) ∧ tickB at_ = true ∧ tickB un = true ∧ 0 ≤ hp ∧ hp ≤ 8) w = PP := ⟨_, rfl⟩
  rw [hPP]
  have HPP := Lib.hid hPP
  have HB0 : Hid (Below w.heap.size w (w.alloc (.cells #[.int .i64 id, .string tp, .int .i64 kd, .int .i64 di, .int .u64 db, .string ds, .slice p n cap, .int .i64 at_, .int .i64 un, .string rp, .int .i64 co, .int .i64 pr, .int .i64 hp] 36))) := (Below.refl _ _).alloc (Nat.le_refl _) _
  have HK : Hid (∀ W, Below (w.alloc (.cells #[.int .i64 id, .string tp, .int .i64 kd, .int .i64 di, .int .u64 db, .string ds, .slice p n cap, .int .i64 at_, .int .i64 un, .string rp, .int .i64 co, .int .i64 pr, .int .i64 hp] 36)).heap.size (w.alloc (.cells #[.int .i64 id, .string tp, .int .i64 kd, .int .i64 di, .int .u64 db, .string ds, .slice p n cap, .int .i64 at_, .int .i64 un, .string rp, .int .i64 co, .int .i64 pr, .int .i64 hp] 36)) W → W.heap[w.heap.size]? = some (.cells #[.int .i64 id, .string tp, .int .i64 kd, .int .i64 di, .int .u64 db, .string ds, .slice p n cap, .int .i64 at_, .int .i64 un, .string rp, .int .i64 co, .int .i64 pr, .int .i64 hp] 36 (0, 0))) := fun W hb => by
    rw [hb.block w.heap.size (by simp)]
    exact heap_alloc_new w _
  have HW1 : Hid (Below (w.alloc (.cells #[.int .i64 id, .string tp, .int .i64 kd, .int .i64 di, .int .u64 db, .string ds, .slice p n cap, .int .i64 at_, .int .i64 un, .string rp, .int .i64 co, .int .i64 pr, .int .i64 hp] 36)).heap.size (w.alloc (.cells #[.int .i64 id, .string tp, .int .i64 kd, .int .i64 di, .int .u64 db, .string ds, .slice p n cap, .int .i64 at_, .int .i64 un, .string rp, .int .i64 co, .int .i64 pr, .int .i64 hp] 36)) (w.alloc (.cells #[.int .i64 id, .string tp, .int .i64 kd, .int .i64 di, .int .u64 db, .string ds, .slice p n cap, .int .i64 at_, .int .i64 un, .string rp, .int .i64 co, .int .i64 pr, .int .i64 hp] 36))) := Below.refl _ _
  have CV : Hid (Calls Tryz.prog 31 #[.agg #[.int .i64 kd, .int .i64 di, .int .u64 db, .string ds, .slice p n cap]] (w.alloc (.cells #[.int .i64 id, .string tp, .int .i64 kd, .int .i64 di, .int .u64 db, .string ds, .slice p n cap, .int .i64 at_, .int .i64 un, .string rp, .int .i64 co, .int .i64 pr, .int .i64 hp] 36)) (ValPost (.mk kd di db ds ps) (w.alloc (.cells #[.int .i64 id, .string tp, .int .i64 kd, .int .i64 di, .int .u64 db, .string ds, .slice p n cap, .int .i64 at_, .int .i64 un, .string rp, .int .i64 co, .int .i64 pr, .int .i64 hp] 36)))) := refValid01_any k _ kd di db ds p n cap ps (hD.below HB0.out)
  have CN1 : Hid (∀ W, Below (w.alloc (.cells #[.int .i64 id, .string tp, .int .i64 kd, .int .i64 di, .int .u64 db, .string ds, .slice p n cap, .int .i64 at_, .int .i64 un, .string rp, .int .i64 co, .int .i64 pr, .int .i64 hp] 36)).heap.size (w.alloc (.cells #[.int .i64 id, .string tp, .int .i64 kd, .int .i64 di, .int .u64 db, .string ds, .slice p n cap, .int .i64 at_, .int .i64 un, .string rp, .int .i64 co, .int .i64 pr, .int .i64 hp] 36)) W → Calls Tryz.prog 32 #[.string tp] W fun e w' => e = .returned (.bool (nameB tp.data.toList)) ∧ Below W.heap.size W w') := fun W hb => refName_any valid_said tp W htp (hT.below (HB0.out.trans (hb.mono (by simp))))
  have CN2 : Hid (∀ W, Below (w.alloc (.cells #[.int .i64 id, .string tp, .int .i64 kd, .int .i64 di, .int .u64 db, .string ds, .slice p n cap, .int .i64 at_, .int .i64 un, .string rp, .int .i64 co, .int .i64 pr, .int .i64 hp] 36)).heap.size (w.alloc (.cells #[.int .i64 id, .string tp, .int .i64 kd, .int .i64 di, .int .u64 db, .string ds, .slice p n cap, .int .i64 at_, .int .i64 un, .string rp, .int .i64 co, .int .i64 pr, .int .i64 hp] 36)) W → Calls Tryz.prog 32 #[.string rp] W fun e w' => e = .returned (.bool (nameB rp.data.toList)) ∧ Below W.heap.size W w') := fun W hb => refName_any valid_said rp W hrp (hT.below (HB0.out.trans (hb.mono (by simp))))
  have CT : Hid (∀ x W, Calls Tryz.prog 33 #[.int .i64 x] W fun e w' => e = .returned (.bool (tickB x)) ∧ w' = W) := fun x W => tick16_any x W
  clear hPP hD hT htp hrp
  go_enter Tryz.func13, Tryz.ntmps13
  go_wp2_with fail
  refine CV.out.mono ?_
  rintro e W2 ⟨b, rfl, hiff, hb⟩
  have HW2 : Hid (Below (w.alloc (.cells #[.int .i64 id, .string tp, .int .i64 kd, .int .i64 di, .int .u64 db, .string ds, .slice p n cap, .int .i64 at_, .int .i64 un, .string rp, .int .i64 co, .int .i64 pr, .int .i64 hp] 36)).heap.size (w.alloc (.cells #[.int .i64 id, .string tp, .int .i64 kd, .int .i64 di, .int .u64 db, .string ds, .slice p n cap, .int .i64 at_, .int .i64 un, .string rp, .int .i64 co, .int .i64 pr, .int .i64 hp] 36)) W2) := hb
  have HI := Lib.hid hiff
  clear hb hiff
  obtain ⟨c0, c1, c2, c3, c4, c5, c6, c7, c8, c9, c10, c11, c12, hcl⟩ := mcells13 (HK.out W2 HW2.out)
  cases b with
  | false =>
    have HNV : Hid (¬ VB (.mk kd di db ds ps)) := fun h => by have := HI.out.2 h; cases this
    go_wp2_with fail
    rw [← HPP.out]
    exact ⟨false, rfl, ⟨fun h => (by cases h), fun h => absurd h.1 HNV.out⟩, HB0.out.trans (HW2.out.mono (by simp))⟩
  | true =>
    have HVB := Lib.hid (HI.out.1 rfl)
    obtain ⟨nt, hnt⟩ : ∃ b, nameB tp.data.toList = b := ⟨_, rfl⟩
    have HNT := Lib.hid hnt
    have CNX := CN1.out W2 HW2.out
    rw [hnt] at CNX
    have CNX := Lib.hid CNX
    clear hnt
    go_wp2_with fail
    refine (CNX.out).mono ?_
    rintro e W3 ⟨rfl, hb⟩
    have HW3 : Hid (Below (w.alloc (.cells #[.int .i64 id, .string tp, .int .i64 kd, .int .i64 di, .int .u64 db, .string ds, .slice p n cap, .int .i64 at_, .int .i64 un, .string rp, .int .i64 co, .int .i64 pr, .int .i64 hp] 36)).heap.size (w.alloc (.cells #[.int .i64 id, .string tp, .int .i64 kd, .int .i64 di, .int .u64 db, .string ds, .slice p n cap, .int .i64 at_, .int .i64 un, .string rp, .int .i64 co, .int .i64 pr, .int .i64 hp] 36)) W3) := HW2.out.trans (hb.mono HW2.out.size)
    clear hb c0 c1 c2 c3 c4 c5 c6 c7 c8 c9 c10 c11 c12 hcl
    obtain ⟨c0, c1, c2, c3, c4, c5, c6, c7, c8, c9, c10, c11, c12, hcl⟩ := mcells13 (HK.out W3 HW3.out)
    cases nt with
    | false =>
      go_wp2_with fail
      rw [← HPP.out]
      exact ⟨false, rfl, ⟨fun h => (by cases h), fun h => by have h4 := h.2.1; rw [HNT.out] at h4; cases h4⟩, HB0.out.trans (HW3.out.mono (by simp))⟩
    | true =>
      by_cases hr0 : rp = ⟨#[]⟩
      · have HR0 := Lib.hid hr0
        rw [hr0] at c9
        clear hr0
        have HRP : Hid (rp = ⟨#[]⟩ ∨ nameB rp.data.toList = true) := .inl HR0.out
        obtain ⟨ta, hta⟩ : ∃ b, tickB at_ = b := ⟨_, rfl⟩
        obtain ⟨tu, htu⟩ : ∃ b, tickB un = b := ⟨_, rfl⟩
        have CT1 : Hid (∀ W, Calls Tryz.prog 33 #[.int .i64 at_] W fun e w' => e = .returned (.bool ta) ∧ w' = W) := fun W => by have h := CT.out at_ W; rw [hta] at h; exact h
        have CT2 : Hid (∀ W, Calls Tryz.prog 33 #[.int .i64 un] W fun e w' => e = .returned (.bool tu) ∧ w' = W) := fun W => by have h := CT.out un W; rw [htu] at h; exact h
        have HTA := Lib.hid hta
        have HTU := Lib.hid htu
        clear hta htu
        go_wp2_with fail
        refine (CT1.out _).mono ?_
        rintro e w1 ⟨rfl, rfl⟩
        cases ta with
        | false =>
          go_wp2_with fail
          rw [← HPP.out]
          exact ⟨false, rfl, ⟨fun h => (by cases h), fun h => by have h4 := h.2.2.2.1; rw [HTA.out] at h4; cases h4⟩, HB0.out.trans (HW3.out.mono (by simp))⟩
        | true =>
          go_wp2_with fail
          refine (CT2.out _).mono ?_
          rintro e w2 ⟨rfl, rfl⟩
          cases tu with
          | false =>
            go_wp2_with fail
            rw [← HPP.out]
            exact ⟨false, rfl, ⟨fun h => (by cases h), fun h => by have h4 := h.2.2.2.2.1; rw [HTU.out] at h4; cases h4⟩, HB0.out.trans (HW3.out.mono (by simp))⟩
          | true =>
            by_cases h5 : 0 ≤ hp
            · by_cases h8 : hp ≤ 8
              · have HH : Hid (0 ≤ hp ∧ hp ≤ 8) := ⟨h5, h8⟩
                go_wp2_with fail
                rw [← HPP.out]
                exact ⟨true, rfl, ⟨fun _ => ⟨HVB.out, HNT.out, HRP.out, HTA.out, HTU.out, HH.out.1, HH.out.2⟩, fun _ => rfl⟩, HB0.out.trans (HW3.out.mono (by simp))⟩
              · have h8' : ¬ hp ≤ 8 := h8
                have HH := Lib.hid h8'
                have h8d : decide (hp ≤ 8) = false := by simpa using h8
                go_wp2_with fail
                rw [← HPP.out]
                exact ⟨false, by first | rfl | (rw [h8d]; done), ⟨fun h => (by cases h), fun h => by have h9 := HH.out; have h8 := h.2.2.2.2.2.2; omega⟩, HB0.out.trans (HW3.out.mono (by simp))⟩
            · have HH := Lib.hid h5
              have h5d : decide (0 ≤ hp) = false := by simpa using h5
              go_wp2_with fail
              rw [← HPP.out]
              exact ⟨false, by first | rfl | (rw [h5d]; done), ⟨fun h => (by cases h), fun h => by have h9 := HH.out; have h8 := h.2.2.2.2.2.1; omega⟩, HB0.out.trans (HW3.out.mono (by simp))⟩
      · obtain ⟨hb1, hb2, hb3⟩ := ds_ne hr0
        have HR0 : Hid (¬ rp = ⟨#[]⟩) := hr0
        have hb4 : rp.toList.isEmpty = false := by cases h : rp.toList with | nil => exact absurd h hb3 | cons a b => rfl
        obtain ⟨nr, hnr⟩ : ∃ b, nameB rp.data.toList = b := ⟨_, rfl⟩
        have HNR := Lib.hid hnr
        have CNY := CN2.out W3 HW3.out
        rw [hnr] at CNY
        have CNY := Lib.hid CNY
        clear hnr hr0
        go_wp2_with fail
        refine (CNY.out).mono ?_
        rintro e W4 ⟨rfl, hb⟩
        have HW4 : Hid (Below (w.alloc (.cells #[.int .i64 id, .string tp, .int .i64 kd, .int .i64 di, .int .u64 db, .string ds, .slice p n cap, .int .i64 at_, .int .i64 un, .string rp, .int .i64 co, .int .i64 pr, .int .i64 hp] 36)).heap.size (w.alloc (.cells #[.int .i64 id, .string tp, .int .i64 kd, .int .i64 di, .int .u64 db, .string ds, .slice p n cap, .int .i64 at_, .int .i64 un, .string rp, .int .i64 co, .int .i64 pr, .int .i64 hp] 36)) W4) := HW3.out.trans (hb.mono HW3.out.size)
        clear hb c0 c1 c2 c3 c4 c5 c6 c7 c8 c9 c10 c11 c12 hcl
        obtain ⟨c0, c1, c2, c3, c4, c5, c6, c7, c8, c9, c10, c11, c12, hcl⟩ := mcells13 (HK.out W4 HW4.out)
        cases nr with
        | false =>
          go_wp2_with fail
          rw [← HPP.out]
          exact ⟨false, rfl, ⟨fun h => (by cases h), fun h => by rcases h.2.2.1 with h4 | h4; exact absurd h4 HR0.out; rw [HNR.out] at h4; cases h4⟩, HB0.out.trans (HW4.out.mono (by simp))⟩
        | true =>
          have HRP : Hid (rp = ⟨#[]⟩ ∨ nameB rp.data.toList = true) := .inr HNR.out
          obtain ⟨ta, hta⟩ : ∃ b, tickB at_ = b := ⟨_, rfl⟩
          obtain ⟨tu, htu⟩ : ∃ b, tickB un = b := ⟨_, rfl⟩
          have CT1 : Hid (∀ W, Calls Tryz.prog 33 #[.int .i64 at_] W fun e w' => e = .returned (.bool ta) ∧ w' = W) := fun W => by have h := CT.out at_ W; rw [hta] at h; exact h
          have CT2 : Hid (∀ W, Calls Tryz.prog 33 #[.int .i64 un] W fun e w' => e = .returned (.bool tu) ∧ w' = W) := fun W => by have h := CT.out un W; rw [htu] at h; exact h
          have HTA := Lib.hid hta
          have HTU := Lib.hid htu
          clear hta htu
          go_wp2_with fail
          refine (CT1.out _).mono ?_
          rintro e w1 ⟨rfl, rfl⟩
          cases ta with
          | false =>
            go_wp2_with fail
            rw [← HPP.out]
            exact ⟨false, rfl, ⟨fun h => (by cases h), fun h => by have h4 := h.2.2.2.1; rw [HTA.out] at h4; cases h4⟩, HB0.out.trans (HW4.out.mono (by simp))⟩
          | true =>
            go_wp2_with fail
            refine (CT2.out _).mono ?_
            rintro e w2 ⟨rfl, rfl⟩
            cases tu with
            | false =>
              go_wp2_with fail
              rw [← HPP.out]
              exact ⟨false, rfl, ⟨fun h => (by cases h), fun h => by have h4 := h.2.2.2.2.1; rw [HTU.out] at h4; cases h4⟩, HB0.out.trans (HW4.out.mono (by simp))⟩
            | true =>
              by_cases h5 : 0 ≤ hp
              · by_cases h8 : hp ≤ 8
                · have HH : Hid (0 ≤ hp ∧ hp ≤ 8) := ⟨h5, h8⟩
                  go_wp2_with fail
                  rw [← HPP.out]
                  exact ⟨true, rfl, ⟨fun _ => ⟨HVB.out, HNT.out, HRP.out, HTA.out, HTU.out, HH.out.1, HH.out.2⟩, fun _ => rfl⟩, HB0.out.trans (HW4.out.mono (by simp))⟩
                · have h8' : ¬ hp ≤ 8 := h8
                  have HH := Lib.hid h8'
                  have h8d : decide (hp ≤ 8) = false := by simpa using h8
                  go_wp2_with fail
                  rw [← HPP.out]
                  exact ⟨false, by first | rfl | (rw [h8d]; done), ⟨fun h => (by cases h), fun h => by have h9 := HH.out; have h8 := h.2.2.2.2.2.2; omega⟩, HB0.out.trans (HW4.out.mono (by simp))⟩
              · have HH := Lib.hid h5
                have h5d : decide (0 ≤ hp) = false := by simpa using h5
                go_wp2_with fail
                rw [← HPP.out]
                exact ⟨false, by first | rfl | (rw [h5d]; done), ⟨fun h => (by cases h), fun h => by have h9 := HH.out; have h8 := h.2.2.2.2.2.1; omega⟩, HB0.out.trans (HW4.out.mono (by simp))⟩
end
section
open Go Go.ChangeShapes Go.WideShapes Go.ChangeAt Go.RowKit Go.Deep

theorem size_of_bulk {H : Type} {l : List (DataW H)} {s : ByteArray} (hk : Rows.uptoSmall H l = true) (hm : (DataW.lit (.string s.data.toList) : DataW H) ∈ l) : s.size ≤ 1048576 := by
  have hb : Rows.uptoBulkAll l ≤ 1048576 := of_decide_eq_true hk
  have := bulk_part l _ hm
  simp only [Rows.uptoBulk] at this
  have e : s.data.toList.length = s.size := by simp
  omega
mutual
/-- how much a value holds -/
def Dv.wt : Dv → Nat
  | .mk _ _ _ ds l => 1 + ds.size + wts l
def wts : List Dv → Nat
  | [] => 0
  | t :: r => t.wt + wts r
end
theorem DvIs.succ {w : World} : ∀ {k : Nat} {cs : List Value} {t : Dv}, DvIs w k cs t → DvIs w (k + 1) cs t := by
  intro k
  induction k with
  | zero => intro cs t h; exact h.elim
  | succ k ih =>
    intro cs t h
    obtain ⟨kd, di, db, ds, l⟩ := t
    obtain ⟨p, cap, h1, i1, i2, i3, h2, h3, h4⟩ := h
    refine ⟨p, cap, h1, i1, i2, i3, h2, h3, fun hn => ?_⟩
    obtain ⟨b, o, hp, hc⟩ := h4 hn
    refine ⟨b, o, hp, fun j t hj => ?_⟩
    obtain ⟨c0, c1, c2, c3, c4, q0, q1, q2, q3, q4, ht⟩ := hc j t hj
    exact ⟨c0, c1, c2, c3, c4, q0, q1, q2, q3, q4, ih ht⟩
theorem DvIs.cells {w : World} {k : Nat} {cs : List Value} {kd di db : Int} {ds : ByteArray} {ps : List Dv} (h : DvIs w k cs (.mk kd di db ds ps)) : ∃ p n c, cs = [.int .i64 kd, .int .i64 di, .int .u64 db, .string ds, .slice p n c] := by
  cases k with
  | zero => exact h.elim
  | succ k => obtain ⟨p, cap, e, -⟩ := h; exact ⟨p, _, cap, e⟩
theorem choose_list {α : Type} {P : Nat → α → Prop} : ∀ n, (∀ i, i < n → ∃ a, P i a) → ∃ l : List α, l.length = n ∧ ∀ j a, l[j]? = some a → P j a := by
  intro n
  induction n with
  | zero => intro _; exact ⟨[], rfl, fun j a h => by simp at h⟩
  | succ n ih =>
    intro h
    obtain ⟨l, hl, hp⟩ := ih fun i hi => h i (by omega)
    obtain ⟨a, ha⟩ := h n (by omega)
    refine ⟨l ++ [a], by simp [hl], fun j b hj => ?_⟩
    rcases Nat.lt_or_ge j n with hjn | hjn
    · rw [List.getElem?_append_left (by omega)] at hj
      exact hp j b hj
    · rw [List.getElem?_append_right (by omega)] at hj
      have hj0 : j - l.length = 0 := by have := (List.getElem?_eq_some_iff.1 hj).1; simp at this; omega
      rw [hj0] at hj
      simp at hj
      subst hj
      obtain rfl : j = n := by omega
      exact ha
theorem wts_le {H : Type} : ∀ (l : List Dv) (E : List (DataW H)), (∀ (j : Nat) (t : Dv), l[j]? = some t → ∃ d, E[j]? = some d ∧ t.wt ≤ Rows.uptoBulk d) → wts l ≤ Rows.uptoBulkAll E
  | [], _, _ => by simp [wts]
  | t :: r, [], h => by
    obtain ⟨d, hd, -⟩ := h 0 t rfl
    simp at hd
  | t :: r, e :: E, h => by
    obtain ⟨d, hd, h1⟩ := h 0 t rfl
    simp at hd
    subst hd
    have h2 := wts_le r E (fun j t hj => h (j + 1) t hj)
    simp only [wts, Rows.uptoBulkAll]
    omega
theorem co_Datum : Tryz.prog.cellsOf 34 = 5 := by kernel_rfl
theorem co_Msg : Tryz.prog.cellsOf 36 = 13 := by kernel_rfl
section
variable {H : Type} {enc_ : TypeId × Value → H} {w : World} {base : Nat} {spare : Nat → Bool} {held : Bool}
theorem rdw_int {k : IntKind} {t : TypeId} {c : Value} {n : Nat} {y : DataW H × List MemPlace} (ht : Tryz.prog.underlying t = some (.int k)) (h : DataW.trod enc_ Tryz.prog w base spare held n t [c] = some y) : ∃ z, c = .int k z ∧ (Lit.int k z).wf = true := by
  obtain ⟨z, hz, _, hw⟩ := DataW.trod_int ht h
  injection hz with hz
  exact ⟨z, hz, hw⟩
theorem rdw_string {t : TypeId} {c : Value} {n : Nat} {y : DataW H × List MemPlace} (ht : Tryz.prog.underlying t = some .string) (h : DataW.trod enc_ Tryz.prog w base spare held n t [c] = some y) : ∃ s : ByteArray, c = .string s ∧ s.size + 1 ≤ Rows.uptoBulk y.1 := by
  obtain ⟨s, hz, rfl, _⟩ := DataW.trod_string ht h
  injection hz with hz
  refine ⟨s, hz, ?_⟩
  simp [Rows.uptoBulk]
theorem rdw_slice {t e : TypeId} {fuel : Nat} {c : Value} {x : DataW H × List MemPlace} {k : Nat} (ht : Tryz.prog.underlying t = some (.slice e)) (hk : Tryz.prog.cellsOf e = k) (hk0 : 0 < k) (h : DataW.trod enc_ Tryz.prog w base spare held fuel t [c] = some x) :
    ∃ n p len cap, ∃ E : List (DataW H), fuel = n + 1 ∧ c = .slice p len cap ∧ len ≤ cap ∧ cap ≤ 9223372036854775807 ∧ Rows.uptoBulkAll E ≤ Rows.uptoBulk x.1 ∧ len ≤ Rows.uptoBulk x.1 ∧ (0 < len → ∃ b o, p = some ⟨b, o, none⟩ ∧
      ∀ i, i < len → ∃ (cs' : List Value) (y : DataW H × List MemPlace), cs'.length = k ∧ E[i]? = some y.1 ∧ DataW.trod enc_ Tryz.prog w base spare held n e cs' = some y ∧ ∀ j u, cs'[j]? = some u → w.cell? ⟨b, o + i * k + j, none⟩ = some u) := by
  rcases DataW.trod_slice ht h with ⟨h0, rfl⟩ | ⟨a, len, cap, elems, rest, n, hn, hc, rfl, hb, hl, hm, hlen, hel, -, -⟩
  · injection h0 with h0
    cases fuel with
    | zero => simp [DataW.trod] at h
    | succ n => exact ⟨n, none, 0, 0, [], rfl, h0, Nat.le_refl _, by omega, Nat.zero_le _, Nat.zero_le _, fun h => absurd h (Nat.lt_irrefl _)⟩
  · injection hc with hc
    subst hk
    have hE : ∀ i, i < len → ∃ (cs' : List Value) (y : DataW H × List MemPlace), cs'.length = Tryz.prog.cellsOf e ∧ (elems.map (·.1))[i]? = some y.1 ∧ DataW.trod enc_ Tryz.prog w base spare held n e cs' = some y ∧ ∀ j u, cs'[j]? = some u → w.cell? (a.add (i * Tryz.prog.cellsOf e + j)) = some u := fun i hi => by
      have h1 := hel i hi
      rw [List.getElem?_eq_getElem (by omega : i < elems.length)] at h1
      obtain ⟨cs', hc', ht'⟩ := Option.bind_eq_some_iff.1 h1
      obtain ⟨_, hl', hat⟩ := World.cells?_some hc'
      refine ⟨cs', elems[i]'(by omega), hl', by rw [List.getElem?_map, List.getElem?_eq_getElem (by omega : i < elems.length)]; rfl, ht', fun j u hj => ?_⟩
      have hjk : j < Tryz.prog.cellsOf e := by rw [← hl']; exact (List.getElem?_eq_some_iff.1 hj).1
      rw [← hj, ← hat j hjk, add_add]
    have hbl := bulk_len (elems.map (·.1))
    simp only [List.length_map] at hbl
    refine ⟨n, some a, len, cap, elems.map (·.1), hn, hc, hl, by unfold maxLen at hm; omega, by simp only [Rows.uptoBulk]; omega, by simp only [Rows.uptoBulk]; omega, fun hpos => ?_⟩
    obtain ⟨cs0, y0, hl0, _, _, hc0⟩ := hE 0 hpos
    obtain ⟨u, hu⟩ : ∃ u, cs0[0]? = some u := ⟨_, List.getElem?_eq_getElem (by omega)⟩
    have h0 := hc0 0 u hu
    have e0 : a.add (0 * Tryz.prog.cellsOf e + 0) = a := by rw [Nat.zero_mul]; exact if_pos rfl
    rw [e0] at h0
    obtain ⟨b, o, rfl⟩ := rd_plain h0
    refine ⟨b, o, rfl, fun i hi => ?_⟩
    obtain ⟨cs', y, h1, h2, h3, h4⟩ := hE i hi
    refine ⟨cs', y, h1, h2, h3, fun j u hj => ?_⟩
    have := h4 j u hj
    rw [rd_add] at this
    rw [Nat.add_assoc]; exact this
theorem wf_i64 {z : Int} (h : (Lit.int .i64 z).wf = true) : I64 z := by
  simp only [Lit.wf, Bool.and_eq_true, decide_eq_true_eq] at h
  exact h
theorem wf_u64 {z : Int} (h : (Lit.int .u64 z).wf = true) : 0 ≤ z ∧ z < 18446744073709551616 := by
  simp only [Lit.wf, Bool.and_eq_true, decide_eq_true_eq] at h
  have h1 : 0 ≤ z := h.1
  have h2 : z ≤ 18446744073709551615 := h.2
  omega
set_option maxRecDepth 100000 in
theorem read_dv : ∀ (fuel : Nat) (cs : List Value) (x : DataW H × List MemPlace), DataW.trod enc_ Tryz.prog w base spare held fuel 34 cs = some x → ∃ t, DvIs w fuel cs t ∧ t.wt ≤ Rows.uptoBulk x.1 := by
  intro fuel
  induction fuel using Nat.strongRecOn with
  | ind fuel ih =>
  intro cs x h
  obtain ⟨xs, m, hm, rfl, hlen, hx, hf⟩ := DataW.trod_struct Tryz.underlying34 h
  rw [co_Datum] at hlen
  match xs, hx with
  | [y0, y1, y2, y3, y4], _ =>
  match cs, hlen with
  | [c0, c1, c2, c3, c4], _ =>
    have q0 : DataW.trod enc_ Tryz.prog w base spare held m 3 [c0] = some y0 := by have h := hf 0 _ rfl; rw [show Tryz.prog.cellsOf _ = 1 from by kernel_rfl] at h; exact h
    have q1 : DataW.trod enc_ Tryz.prog w base spare held m 2 [c1] = some y1 := by have h := hf 1 _ rfl; rw [show Tryz.prog.cellsOf _ = 1 from by kernel_rfl] at h; exact h
    have q2 : DataW.trod enc_ Tryz.prog w base spare held m 22 [c2] = some y2 := by have h := hf 2 _ rfl; rw [show Tryz.prog.cellsOf _ = 1 from by kernel_rfl] at h; exact h
    have q3 : DataW.trod enc_ Tryz.prog w base spare held m 9 [c3] = some y3 := by have h := hf 3 _ rfl; rw [show Tryz.prog.cellsOf _ = 1 from by kernel_rfl] at h; exact h
    have q4 : DataW.trod enc_ Tryz.prog w base spare held m 32 [c4] = some y4 := by have h := hf 4 _ rfl; rw [show Tryz.prog.cellsOf _ = 1 from by kernel_rfl] at h; exact h
    obtain ⟨z0, rfl, f0⟩ := rdw_int Tryz.underlying3 q0
    obtain ⟨z1, rfl, f1⟩ := rdw_int Tryz.underlying2 q1
    obtain ⟨z2, rfl, f2⟩ := rdw_int Tryz.underlying22 q2
    obtain ⟨s, rfl, hs⟩ := rdw_string Tryz.underlying9 q3
    obtain ⟨n, p, len, cap, E, hn, rfl, hl, hc, hbE, -, hel⟩ := rdw_slice Tryz.underlying32 co_Datum (by decide) q4
    subst hn
    subst hm
    have hE : ∀ i, i < len → ∃ t : Dv, ∃ b o, p = some ⟨b, o, none⟩ ∧ (∃ d, E[i]? = some d ∧ t.wt ≤ Rows.uptoBulk d) ∧ ∃ c0 c1 c2 c3 c4, w.cell? ⟨b, o + i * 5, none⟩ = some c0 ∧ w.cell? ⟨b, o + i * 5 + 1, none⟩ = some c1 ∧ w.cell? ⟨b, o + i * 5 + 2, none⟩ = some c2 ∧ w.cell? ⟨b, o + i * 5 + 3, none⟩ = some c3 ∧ w.cell? ⟨b, o + i * 5 + 4, none⟩ = some c4 ∧ DvIs w n [c0, c1, c2, c3, c4] t := fun i hi => by
      obtain ⟨b, o, rfl, hel2⟩ := hel (by omega)
      obtain ⟨cs', y, hl', he, ht, hat⟩ := hel2 i hi
      match cs', hl' with
      | [c0, c1, c2, c3, c4], _ =>
        obtain ⟨t, ht', hw⟩ := ih n (by omega) _ _ ht
        exact ⟨t, b, o, rfl, ⟨_, he, hw⟩, c0, c1, c2, c3, c4, hat 0 _ rfl, hat 1 _ rfl, hat 2 _ rfl, hat 3 _ rfl, hat 4 _ rfl, ht'⟩
    obtain ⟨l, hll, hp⟩ := choose_list len hE
    subst hll
    refine ⟨.mk z0 z1 z2 s l, ⟨p, cap, rfl, wf_i64 f0, wf_i64 f1, wf_u64 f2, hl, hc, fun hpos => ?_⟩, ?_⟩
    · obtain ⟨b, o, rfl, -⟩ := hel hpos
      refine ⟨b, o, rfl, fun j t hj => ?_⟩
      obtain ⟨b', o', e, -, c0, c1, c2, c3, c4, g0, g1, g2, g3, g4, ht⟩ := hp j t hj
      injection e with e
      injection e with e1 e2
      subst e1; subst e2
      exact ⟨c0, c1, c2, c3, c4, g0, g1, g2, g3, g4, ht.succ⟩
    · have h1 := wts_le l E (fun j t hj => by obtain ⟨_, _, _, h2, _⟩ := hp j t hj; exact h2)
      simp only [Rows.uptoBulk, Rows.uptoBulkAll, List.map_cons, List.map_nil]
      show 1 + s.size + wts l ≤ _
      omega
set_option maxRecDepth 100000 in
theorem read_mv : ∀ (fuel : Nat) (cs : List Value) (x : DataW H × List MemPlace), DataW.trod enc_ Tryz.prog w base spare held fuel 36 cs = some x →
    ∃ (k : Nat) (id at_ un co pr hp : Int) (tp rp : ByteArray) (kd di db : Int) (ds : ByteArray) (q : Option Addr) (m c : Nat) (ps : List Dv), cs = [.int .i64 id, .string tp, .int .i64 kd, .int .i64 di, .int .u64 db, .string ds, .slice q m c, .int .i64 at_, .int .i64 un, .string rp, .int .i64 co, .int .i64 pr, .int .i64 hp] ∧
      DvIs w k [.int .i64 kd, .int .i64 di, .int .u64 db, .string ds, .slice q m c] (.mk kd di db ds ps) ∧ (Dv.mk kd di db ds ps).wt + tp.size + rp.size ≤ Rows.uptoBulk x.1 ∧ (∀ z ∈ [id, at_, un, co, pr, hp], I64 z) := by
  intro fuel cs x h
  obtain ⟨xs, m, hm, rfl, hlen, hx, hf⟩ := DataW.trod_struct Tryz.underlying36 h
  rw [co_Msg] at hlen
  match xs, hx with
  | [y0, y1, y2, y3, y4, y5, y6, y7, y8], _ =>
  match cs, hlen with
  | [c0, c1, c2, c3, c4, c5, c6, c7, c8, c9, c10, c11, c12], _ =>
    have q0 : DataW.trod enc_ Tryz.prog w base spare held m 2 [c0] = some y0 := by have h := hf 0 _ rfl; rw [show Tryz.prog.cellsOf _ = 1 from by kernel_rfl] at h; exact h
    have q1 : DataW.trod enc_ Tryz.prog w base spare held m 9 [c1] = some y1 := by have h := hf 1 _ rfl; rw [show Tryz.prog.cellsOf _ = 1 from by kernel_rfl] at h; exact h
    have q2 : DataW.trod enc_ Tryz.prog w base spare held m 34 [c2, c3, c4, c5, c6] = some y2 := by have h := hf 2 _ rfl; rw [show Tryz.prog.cellsOf _ = 5 from by kernel_rfl] at h; exact h
    have q3 : DataW.trod enc_ Tryz.prog w base spare held m 2 [c7] = some y3 := by have h := hf 3 _ rfl; rw [show Tryz.prog.cellsOf _ = 1 from by kernel_rfl] at h; exact h
    have q4 : DataW.trod enc_ Tryz.prog w base spare held m 2 [c8] = some y4 := by have h := hf 4 _ rfl; rw [show Tryz.prog.cellsOf _ = 1 from by kernel_rfl] at h; exact h
    have q5 : DataW.trod enc_ Tryz.prog w base spare held m 9 [c9] = some y5 := by have h := hf 5 _ rfl; rw [show Tryz.prog.cellsOf _ = 1 from by kernel_rfl] at h; exact h
    have q6 : DataW.trod enc_ Tryz.prog w base spare held m 2 [c10] = some y6 := by have h := hf 6 _ rfl; rw [show Tryz.prog.cellsOf _ = 1 from by kernel_rfl] at h; exact h
    have q7 : DataW.trod enc_ Tryz.prog w base spare held m 3 [c11] = some y7 := by have h := hf 7 _ rfl; rw [show Tryz.prog.cellsOf _ = 1 from by kernel_rfl] at h; exact h
    have q8 : DataW.trod enc_ Tryz.prog w base spare held m 3 [c12] = some y8 := by have h := hf 8 _ rfl; rw [show Tryz.prog.cellsOf _ = 1 from by kernel_rfl] at h; exact h
    obtain ⟨z0, rfl, f0⟩ := rdw_int Tryz.underlying2 q0
    obtain ⟨s1, rfl, g1⟩ := rdw_string Tryz.underlying9 q1
    obtain ⟨t, ht, g2⟩ := read_dv _ _ _ q2
    obtain ⟨z3, rfl, f3⟩ := rdw_int Tryz.underlying2 q3
    obtain ⟨z4, rfl, f4⟩ := rdw_int Tryz.underlying2 q4
    obtain ⟨s5, rfl, g5⟩ := rdw_string Tryz.underlying9 q5
    obtain ⟨z6, rfl, f6⟩ := rdw_int Tryz.underlying2 q6
    obtain ⟨z7, rfl, f7⟩ := rdw_int Tryz.underlying3 q7
    obtain ⟨z8, rfl, f8⟩ := rdw_int Tryz.underlying3 q8
    obtain ⟨kd, di, db, ds, ps⟩ := t
    obtain ⟨p, n, c, e⟩ := ht.cells
    injection e with e2 e
    injection e with e3 e
    injection e with e4 e
    injection e with e5 e
    injection e with e6
    subst e2; subst e3; subst e4; subst e5; subst e6
    refine ⟨m, z0, z3, z4, z6, z7, z8, s1, s5, kd, di, db, ds, p, n, c, ps, rfl, ht, ?_, ?_⟩
    · simp only [Rows.uptoBulk, Rows.uptoBulkAll, List.map_cons, List.map_nil]
      omega
    · intro z hz
      simp only [List.mem_cons, List.not_mem_nil, or_false] at hz
      rcases hz with rfl | rfl | rfl | rfl | rfl | rfl
      · exact wf_i64 f0
      · exact wf_i64 f3
      · exact wf_i64 f4
      · exact wf_i64 f6
      · exact wf_i64 f7
      · exact wf_i64 f8
theorem co_Act : Tryz.prog.cellsOf 53 = 16 := by kernel_rfl
theorem co_text : Tryz.prog.cellsOf 9 = 1 := by kernel_rfl
/-- a message of the arguments -/
structure MgOk (w : World) (m : Mg) : Prop where
  dv : DvIs w m.f m.body m.t
  wt : m.t.wt + m.tp.size + m.rp.size ≤ 1048576
  ok : ∀ z ∈ [m.id, m.at_, m.un, m.co, m.pr, m.ho], I64 z
set_option maxRecDepth 100000 in
theorem read_act30 : ∀ (fuel : Nat) (cs : List Value) (x : DataW H × List MemPlace), DataW.trod enc_ Tryz.prog w base spare held fuel 53 cs = some x → Rows.uptoBulk x.1 ≤ 1048576 → ∃ a : SA, cs = a.cells ∧ (Lit.int .i64 a.id).wf = true ∧ a.s.size + 1 ≤ Rows.uptoBulk x.1 ∧ MgOk w a.m := by
  intro fuel cs x h hbk
  obtain ⟨xs, m, hm, rfl, hlen, hx, hf⟩ := DataW.trod_struct Tryz.underlying53 h
  rw [co_Act] at hlen
  match xs, hx with
  | [y0, y1, y2, y3], _ =>
  match cs, hlen with
  | [c0, c1, c2, d0, d1, d2, d3, d4, d5, d6, d7, d8, d9, d10, d11, d12], _ =>
    have q0 : DataW.trod enc_ Tryz.prog w base spare held m 3 [c0] = some y0 := by have h := hf 0 _ rfl; rw [show Tryz.prog.cellsOf _ = 1 from by kernel_rfl] at h; exact h
    have q1 : DataW.trod enc_ Tryz.prog w base spare held m 9 [c1] = some y1 := by have h := hf 1 _ rfl; rw [show Tryz.prog.cellsOf _ = 1 from by kernel_rfl] at h; exact h
    have q2 : DataW.trod enc_ Tryz.prog w base spare held m 3 [c2] = some y2 := by have h := hf 2 _ rfl; rw [show Tryz.prog.cellsOf _ = 1 from by kernel_rfl] at h; exact h
    have q3 : DataW.trod enc_ Tryz.prog w base spare held m 36 [d0, d1, d2, d3, d4, d5, d6, d7, d8, d9, d10, d11, d12] = some y3 := by have h := hf 3 _ rfl; rw [show Tryz.prog.cellsOf _ = 13 from by kernel_rfl] at h; exact h
    obtain ⟨k, rfl, -⟩ := rdw_int Tryz.underlying3 q0
    obtain ⟨s, rfl, hs⟩ := rdw_string Tryz.underlying9 q1
    obtain ⟨id, rfl, hid⟩ := rdw_int Tryz.underlying3 q2
    obtain ⟨kk, mid, at_, un, co, pr, hp, tp, rp, kd, di, db, ds, q, n, c, ps, e, hdv, hwt, hok⟩ := read_mv _ _ _ q3
    simp only [Rows.uptoBulk, Rows.uptoBulkAll, List.map_cons, List.map_nil] at hbk ⊢
    refine ⟨⟨k, s, id, ⟨mid, tp, kd, di, db, ds, q, n, c, at_, un, rp, co, pr, hp, .mk kd di db ds ps, kk⟩⟩, ?_, hid, ?_, hdv, ?_, hok⟩
    · show Value.int .i64 k :: Value.string s :: Value.int .i64 id :: [d0, d1, d2, d3, d4, d5, d6, d7, d8, d9, d10, d11, d12] = _
      rw [e]
      rfl
    · show s.size + 1 ≤ _
      omega
    · show (Dv.mk kd di db ds ps).wt + tp.size + rp.size ≤ _
      omega
/-- .. with what the messages are -/
def ScriptM (w : World) (v : Value) (L : List SA) : Prop := Script30 w v L ∧ ∀ a ∈ L, MgOk w a.m
theorem read_script30 {fuel : Nat} {c : Value} {x : DataW H × List MemPlace} (h : DataW.trod enc_ Tryz.prog w base spare held fuel 43 [c] = some x) (hb : Rows.uptoBulk x.1 ≤ 1048576) : ∃ L : List SA, ScriptM w c L := by
  obtain ⟨n, ys, -, hfl, hel, hsum⟩ := rd_flat Tryz.underlying43 co_Act (by decide) h
  have key : ∀ ys : List (List Value × (DataW H × List MemPlace)), Rows.uptoBulkAll (ys.map (·.2.1)) ≤ 1048576 → (∀ y ∈ ys, y.1.length = 16 ∧ DataW.trod enc_ Tryz.prog w base spare held n 53 y.1 = some y.2) →
      ∃ L : List SA, L.length = ys.length ∧ (ys.map (·.1)).flatten = L.flatMap SA.cells ∧ (L.map fun a => a.s.size).sum ≤ Rows.uptoBulkAll (ys.map (·.2.1)) ∧ ∀ a ∈ L, (Lit.int .i64 a.id).wf = true ∧ MgOk w a.m ∧ a.s.size ≤ 1048576 := by
    intro ys
    induction ys with
    | nil => intro _ _; exact ⟨[], rfl, rfl, Nat.le_refl _, fun a ha => (List.not_mem_nil ha).elim⟩
    | cons y ys ih =>
      intro hbk hy
      simp only [List.map_cons, Rows.uptoBulkAll] at hbk
      obtain ⟨L, h1, h2, h3, h4⟩ := ih (by omega) fun z hz => hy z (List.mem_cons_of_mem _ hz)
      obtain ⟨-, ht⟩ := hy y (List.mem_cons_self ..)
      obtain ⟨a, e, hz, hs, hm⟩ := read_act30 _ _ _ ht (by omega)
      refine ⟨a :: L, by simp [h1], ?_, ?_, fun b hb => ?_⟩
      · rw [List.map_cons, List.flatten_cons, h2, e]; rfl
      · simp only [List.map_cons, List.sum_cons, Rows.uptoBulkAll]
        omega
      · rcases List.mem_cons.1 hb with rfl | hb
        · exact ⟨hz, hm, by omega⟩
        · exact h4 b hb
  obtain ⟨L, h1, h2, h3, h4⟩ := key ys (by omega) hel
  have hl := bulk_len (ys.map (·.2.1))
  rw [List.length_map] at hl
  rw [← h1, h2] at hfl
  exact ⟨L, ⟨hfl, by omega, by omega, fun a ha => ⟨(h4 a ha).2.2, (h4 a ha).1⟩⟩, fun a ha => (h4 a ha).2.1⟩
theorem read_names {fuel : Nat} {c : Value} {x : DataW H × List MemPlace} (h : DataW.trod enc_ Tryz.prog w base spare held fuel 55 [c] = some x) (hb : Rows.uptoBulk x.1 ≤ 1048576) : ∃ ns : List ByteArray, Sl w c ns ∧ ns.length ≤ 1048576 ∧ ∀ x ∈ ns, x.size ≤ 1048576 := by
  obtain ⟨n, ys, -, hfl, hel, hsum⟩ := rd_flat Tryz.underlying55 co_text (by decide) h
  have key : ∀ ys : List (List Value × (DataW H × List MemPlace)), (∀ y ∈ ys, y.1.length = 1 ∧ DataW.trod enc_ Tryz.prog w base spare held n 9 y.1 = some y.2) →
      ∃ L : List ByteArray, L.length = ys.length ∧ (ys.map (·.1)).flatten = L.map Value.string ∧ ∀ a ∈ L, a.size ≤ Rows.uptoBulkAll (ys.map (·.2.1)) := by
    intro ys
    induction ys with
    | nil => intro _; exact ⟨[], rfl, rfl, fun a ha => (List.not_mem_nil ha).elim⟩
    | cons y ys ih =>
      intro hy
      obtain ⟨L, h1, h2, h3⟩ := ih fun z hz => hy z (List.mem_cons_of_mem _ hz)
      obtain ⟨hl, ht⟩ := hy y (List.mem_cons_self ..)
      obtain ⟨c0, e⟩ : ∃ c0, y.1 = [c0] := List.length_eq_one_iff.1 hl
      rw [e] at ht
      obtain ⟨f, rfl, hs⟩ := rd_string' Tryz.underlying9 ht
      refine ⟨f :: L, by simp [h1], ?_, fun a ha => ?_⟩
      · rw [List.map_cons, List.flatten_cons, h2, e]; rfl
      · simp only [List.map_cons, Rows.uptoBulkAll]
        rcases List.mem_cons.1 ha with rfl | ha
        · omega
        · have := h3 a ha; omega
  obtain ⟨L, h1, h2, h3⟩ := key ys hel
  have hl := bulk_len (ys.map (·.2.1))
  rw [List.length_map] at hl
  rw [h2] at hfl
  exact ⟨L, Sl_of hfl h1.symm, by omega, fun a ha => by have := h3 a ha; omega⟩
end
end
section
open Go Go.RowKit

def FtM (m : Mg) : Prop := VB m.t ∧ nameB m.tp.data.toList = true ∧ (m.rp = ⟨#[]⟩ ∨ nameB m.rp.data.toList = true) ∧ tickB m.at_ = true ∧ tickB m.un = true ∧ 0 ≤ m.ho ∧ m.ho ≤ 8
open Classical in
noncomputable def ftB (m : Mg) : Bool := decide (FtM m)
open Classical in
theorem ftB_iff {m : Mg} : ftB m = true ↔ FtM m := by unfold ftB; exact decide_eq_true_iff
/-- FitMsg, as a Bool -/
theorem fitM_any (w : World) (m : Mg) (h : DvIs w m.f m.body m.t) (htp : m.tp.size ≤ 1048576) (hrp : m.rp.size ≤ 1048576) (hT : Tabs w) :
    Calls Tryz.prog 13 #[.agg #[.int .i64 m.id, .string m.tp, .int .i64 m.kd, .int .i64 m.di, .int .u64 m.db, .string m.ds, .slice m.q m.n m.c, .int .i64 m.at_, .int .i64 m.un, .string m.rp, .int .i64 m.co, .int .i64 m.pr, .int .i64 m.ho]] w fun e w' => e = .returned (.bool (ftB m)) ∧ Below w.heap.size w w' := by
  obtain ⟨ps, hps⟩ := DvIs.mk h
  have hd := h
  rw [hps] at hd
  refine (fitMsg_any m.f w m.id m.at_ m.un m.co m.pr m.ho m.tp m.rp m.kd m.di m.db m.ds m.q m.n m.c ps hd (by omega) (by omega) hT).mono ?_
  rintro e w' ⟨b, rfl, hb, hb2⟩
  refine ⟨?_, hb2⟩
  have e : b = ftB m := by
    rw [Bool.eq_iff_iff, hb, ftB_iff]
    unfold FtM
    rw [hps]
  rw [e]
noncomputable def keepS (L : List AM) (m : Mg) : List AM := if ftB m = true then (keepA L m.am).2 else L
/-- what is kept after the first n -/
noncomputable def keepN (ms : List Mg) (n : Nat) : List AM := (ms.take n).foldl keepS []
theorem keepN_succ {ms : List Mg} {n : Nat} {m : Mg} (h : ms[n]? = some m) : keepN ms (n + 1) = keepS (keepN ms n) m := by
  unfold keepN
  rw [List.take_add_one, h, Option.toList_some, List.foldl_append]
  rfl
theorem mem_keepA {L : List AM} {m x : AM} : x ∈ (keepA L m).2 ↔ (x ∈ L ∧ x.tp ≠ m.tp) ∨ (m.t.kd ≠ 0 ∧ x = m) := by
  have hr : ∀ y, y ∈ restA L m.tp ↔ y ∈ L ∧ y.tp ≠ m.tp := fun y => by
    unfold restA
    rw [List.mem_filter, decide_eq_true_iff]
    exact and_congr_right fun _ => ⟨fun h e => h (by rw [e]), fun h e => h (ByteArray.ext (Array.ext' e))⟩
  unfold keepA
  by_cases h0 : m.t.kd = 0
  · rw [if_pos h0]
    exact (hr x).trans ⟨fun h => .inl h, fun h => h.elim id fun h => absurd h0 h.1⟩
  · rw [if_neg h0]
    show x ∈ restA L m.tp ++ [m] ↔ _
    rw [List.mem_append, hr, List.mem_singleton]
    exact or_congr_right ⟨fun h => ⟨h0, h⟩, fun h => h.2⟩
/-- the last fit one of its topic, among the first n; not nil -/
def LastN (ms : List Mg) (n i : Nat) (m : Mg) : Prop := i < n ∧ ms[i]? = some m ∧ ftB m = true ∧ m.t.kd ≠ 0 ∧ ∀ (k : Nat) (m' : Mg), i < k → k < n → ms[k]? = some m' → ¬ (ftB m' = true ∧ m'.tp = m.tp)
theorem mem_keepN {ms : List Mg} : ∀ (n : Nat), n ≤ ms.length → ∀ x, x ∈ keepN ms n ↔ ∃ i m, LastN ms n i m ∧ m.am = x
  | 0, _, x => by
    constructor
    · intro h
      unfold keepN at h
      rw [List.take_zero] at h
      cases h
    · rintro ⟨i, m, h, -⟩; exact absurd h.1 (Nat.not_lt_zero i)
  | n + 1, hn, x => by
    obtain ⟨m0, h0⟩ : ∃ m, ms[n]? = some m := ⟨_, List.getElem?_eq_getElem (by omega)⟩
    have ih := mem_keepN (ms := ms) n (by omega)
    rw [keepN_succ h0]
    unfold keepS
    by_cases hf : ftB m0 = true
    · rw [if_pos hf, mem_keepA, ih]
      constructor
      · rintro (⟨⟨i, m, h, rfl⟩, hne⟩ | ⟨hk, rfl⟩)
        · refine ⟨i, m, ⟨by have := h.1; omega, h.2.1, h.2.2.1, h.2.2.2.1, fun k m' hik hkn hk => ?_⟩, rfl⟩
          rcases Nat.lt_or_ge k n with h1 | h1
          · exact h.2.2.2.2 k m' hik h1 hk
          · obtain rfl : k = n := by omega
            rw [h0] at hk
            injection hk with hk
            subst hk
            exact fun e => hne e.2.symm
        · exact ⟨n, m0, ⟨Nat.lt_succ_self n, h0, hf, hk, fun k m' h1 h2 _ => by omega⟩, rfl⟩
      · rintro ⟨i, m, h, rfl⟩
        obtain ⟨h1, h2, h3, h4, h5⟩ := h
        rcases Nat.lt_or_ge i n with h6 | h6
        · refine .inl ⟨⟨i, m, ⟨h6, h2, h3, h4, fun k m' hik hkn hk => h5 k m' hik (by omega) hk⟩, rfl⟩, fun e => h5 n m0 h6 (Nat.lt_succ_self n) h0 ⟨hf, e.symm⟩⟩
        · obtain rfl : i = n := by omega
          rw [h0] at h2
          injection h2 with h2
          subst h2
          exact .inr ⟨h4, rfl⟩
    · rw [if_neg hf, ih]
      constructor
      · rintro ⟨i, m, h, rfl⟩
        refine ⟨i, m, ⟨by have := h.1; omega, h.2.1, h.2.2.1, h.2.2.2.1, fun k m' hik hkn hk => ?_⟩, rfl⟩
        rcases Nat.lt_or_ge k n with h1 | h1
        · exact h.2.2.2.2 k m' hik h1 hk
        · obtain rfl : k = n := by omega
          rw [h0] at hk
          injection hk with hk
          subst hk
          exact fun e => hf e.1
      · rintro ⟨i, m, h, rfl⟩
        obtain ⟨h1, h2, h3, h4, h5⟩ := h
        rcases Nat.lt_or_ge i n with h6 | h6
        · exact ⟨i, m, ⟨h6, h2, h3, h4, fun k m' hik hkn hk => h5 k m' hik (by omega) hk⟩, rfl⟩
        · obtain rfl : i = n := by omega
          rw [h0] at h2
          injection h2 with h2
          subst h2
          exact absurd h3 hf
theorem keepN_len (ms : List Mg) : ∀ n, (keepN ms n).length ≤ n
  | 0 => by unfold keepN; rw [List.take_zero]; exact Nat.le_refl _
  | n + 1 => by
    have ih := keepN_len ms n
    cases h : ms[n]? with
    | none =>
      have hl : ms.length ≤ n := List.getElem?_eq_none_iff.1 h
      have e : keepN ms (n + 1) = keepN ms n := by unfold keepN; rw [List.take_of_length_le (by omega), List.take_of_length_le hl]
      rw [e]; omega
    | some m =>
      rw [keepN_succ h]
      unfold keepS
      split
      · unfold keepA
        have hr : (restA (keepN ms n) m.am.tp).length ≤ (keepN ms n).length := List.length_filter_le ..
        split
        · exact Nat.le_trans hr (by omega)
        · show (restA (keepN ms n) m.am.tp ++ [m.am]).length ≤ n + 1
          rw [List.length_append]
          simp only [List.length_cons, List.length_nil]
          omega
      · omega
/-- a filter that is none of a group -/
def plainF (s : ByteArray) : Prop := (∃ x, splitK s = some x) ∧ Lib.hasPrefix s.data.toList pfx = false
theorem keptF_iff {s f : ByteArray} : keptF s = some f ↔ plainF s ∧ f = s := by
  unfold keptF plainF
  cases hp : Lib.hasPrefix s.data.toList pfx with
  | false =>
    have hk : splitK s = if filterB s then some (ByteArray.empty, s) else none := by unfold splitK; rw [if_neg (by rw [hp]; exact Bool.false_ne_true)]
    rw [hk]
    split
    · rename_i x hx
      split at hx
      · rename_i hfb
        injection hx with hx
        subst hx
        constructor
        · intro h
          have h : some s = some f := h
          injection h with h
          exact ⟨⟨⟨(ByteArray.empty, s), if_pos hfb⟩, rfl⟩, h.symm⟩
        · rintro ⟨-, rfl⟩; rfl
      · cases hx
    · rename_i hx
      constructor
      · intro h; cases h
      · rintro ⟨⟨⟨x, hx2⟩, -⟩, -⟩
        rw [hx] at hx2
        cases hx2
  | true =>
    have hn : ∀ x, splitK s = some x → ¬ x.1.size = 0 := fun x hx h0 => by
      unfold splitK at hx
      rw [if_pos hp] at hx
      split at hx
      · cases hx
      · split at hx
        · rename_i hg
          injection hx with hx
          subst hx
          rw [Bool.and_eq_true] at hg
          have h1 := hg.1
          unfold gnameB at h1
          have he : ((restS s).extract 0 (cutK (restS s)).toNat).data.toList = [] := List.eq_nil_of_length_eq_zero (by rw [Array.length_toList]; exact h0)
          rw [he] at h1
          simp at h1
        · cases hx
    constructor
    · intro h
      split at h
      · rename_i x hx
        rw [if_neg (hn x hx)] at h
        cases h
      · cases h
    · rintro ⟨⟨-, h⟩, -⟩; cases h
/-- the law's condition on the i-th -/
def Told (ms : List Mg) (s : ByteArray) (i : Nat) : Prop := ∃ m, LastN ms ms.length i m ∧ matchB s m.tp = true ∧ plainF s
open Classical in
noncomputable def toldN (ms : List Mg) (s : ByteArray) (i : Nat) : Nat := ((List.range i).filter fun j => decide (Told ms s j)).length
theorem toldN_le (ms : List Mg) (s : ByteArray) (i : Nat) : toldN ms s i ≤ i := by
  classical
  unfold toldN
  exact Nat.le_trans (List.length_filter_le ..) (by rw [List.length_range]; exact Nat.le_refl _)
theorem toldN_yes {ms : List Mg} {s : ByteArray} {i : Nat} (h : Told ms s i) : toldN ms s (i + 1) = toldN ms s i + 1 := by
  classical
  unfold toldN
  rw [List.range_succ, List.filter_append, List.filter_cons_of_pos (by simpa using h), List.length_append]
  rfl
theorem toldN_no {ms : List Mg} {s : ByteArray} {i : Nat} (h : ¬ Told ms s i) : toldN ms s (i + 1) = toldN ms s i := by
  classical
  unfold toldN
  rw [List.range_succ, List.filter_append, List.filter_cons_of_neg (by simpa using h), List.length_append]
  rfl
theorem told_mem {ms : List Mg} {s : ByteArray} {out : List AM} (hk : KeptA (keepN ms ms.length) s out) {i : Nat} {m : Mg} (hl : LastN ms ms.length i m) (hm : matchB s m.tp = true) (hp : plainF s) : m.am ∈ out :=
  (hk.mem _).2 ⟨(mem_keepN ms.length (Nat.le_refl _) _).2 ⟨i, m, hl, rfl⟩, s, keptF_iff.2 ⟨hp, rfl⟩, hm⟩
theorem told_all {ms : List Mg} {s : ByteArray} {out : List AM} (hk : KeptA (keepN ms ms.length) s out) : out.length = toldN ms s ms.length := by
  classical
  obtain ⟨I, hI⟩ : ∃ I, (List.range ms.length).filter (fun j => decide (Told ms s j)) = I := ⟨_, rfl⟩
  have hmI : ∀ j, j ∈ I ↔ j < ms.length ∧ Told ms s j := fun j => by rw [← hI, List.mem_filter, List.mem_range, decide_eq_true_iff]
  have hn : toldN ms s ms.length = I.length := by unfold toldN; rw [hI]
  have hnd : I.Nodup := by rw [← hI]; exact List.nodup_range.filter _
  rw [hn]
  have hout : out.Nodup := hk.rise.imp fun h e => by subst e; exact List.lt_irrefl _ h
  obtain ⟨g, hg⟩ : ∃ g : Nat → AM, ∀ j m, ms[j]? = some m → g j = m.am := ⟨fun j => ((ms[j]?).map Mg.am).getD ⟨0, ⟨#[]⟩, 0, 0, ⟨#[]⟩, 0, 0, 0, .mk 0 0 0 ⟨#[]⟩ []⟩, fun j m h => by show ((ms[j]?).map Mg.am).getD _ = _; rw [h]; rfl⟩
  have hgI : (I.map g).Nodup := by
    refine List.pairwise_map.2 (hnd.imp_of_mem fun {a b} ha hb hne e => ?_)
    obtain ⟨-, m1, l1, -⟩ := (hmI a).1 ha
    obtain ⟨-, m2, l2, -⟩ := (hmI b).1 hb
    rw [hg a m1 l1.2.1, hg b m2 l2.2.1] at e
    have ht : m1.tp = m2.tp := congrArg AM.tp e
    rcases Nat.lt_or_gt_of_ne hne with h | h
    · exact l1.2.2.2.2 b m2 h l2.1 l2.2.1 ⟨l2.2.2.1, ht.symm⟩
    · exact l2.2.2.2.2 a m1 h l1.1 l1.2.1 ⟨l1.2.2.1, ht⟩
  have h1 : (I.map g).length ≤ out.length := nodup_le hgI fun x hx => by
    obtain ⟨j, hj, rfl⟩ := List.mem_map.1 hx
    obtain ⟨-, m, l, hm, hp⟩ := (hmI j).1 hj
    rw [hg j m l.2.1]
    exact told_mem hk l hm hp
  have h2 : out.length ≤ (I.map g).length := nodup_le hout fun x hx => by
    obtain ⟨hL, f, hf, hm⟩ := (hk.mem x).1 hx
    obtain ⟨hp, rfl⟩ := keptF_iff.1 hf
    obtain ⟨i, m, l, rfl⟩ := (mem_keepN ms.length (Nat.le_refl _) _).1 hL
    exact List.mem_map.2 ⟨i, (hmI i).2 ⟨l.1, m, l, hm, hp⟩, hg i m l.2.1⟩
  rw [List.length_map] at h1 h2
  omega
theorem dvSm_of : ∀ (f : Nat) (t : Dv), t.size ≤ 4096 → DvSm f t
  | 0, _, _ => trivial
  | f + 1, .mk kd di db ds l, h => by
    have hs : 1 + sizes l ≤ 4096 := h
    have hl : ∀ l : List Dv, l.length ≤ sizes l ∧ ∀ t ∈ l, t.size ≤ sizes l := by
      intro l
      induction l with
      | nil => exact ⟨Nat.le_refl _, fun t ht => by cases ht⟩
      | cons t r ih =>
        have e : sizes (t :: r) = t.size + sizes r := rfl
        have h1 : 1 ≤ t.size := by cases t with | mk _ _ _ _ l => show 1 ≤ 1 + sizes l; omega
        rw [e]
        refine ⟨by rw [List.length_cons]; have := ih.1; omega, fun u hu => ?_⟩
        rcases List.mem_cons.1 hu with rfl | hu
        · omega
        · have := ih.2 u hu; omega
    obtain ⟨h1, h2⟩ := hl l
    exact ⟨by omega, fun t ht => dvSm_of f t (by have := h2 t ht; omega)⟩
end
section
open Go Go.RowKit
attribute [local go_sem ↓] Go.wp_at_zero Go.wp_at_succ

theorem txt_ne {a b : ByteArray} (h : a ≠ b) : (a.toList == b.toList) = false ∧ (a.toList != b.toList) = true := by
  have h1 : (a.toList == b.toList) = false := by rw [← Bool.not_eq_true]; exact fun e => h (is_same.1 e)
  exact ⟨h1, by simp only [bne, h1, Bool.not_false]⟩
theorem dv_split {l m : List Dv} {j : Nat} {s t : Dv} (hl : l[j]? = some s) (hm : m[j]? = some t) (h : l.take j = m.take j) (e : s = t) : l.take (j + 1) = m.take (j + 1) := by
  rw [List.take_add_one, List.take_add_one, hl, hm, h, e]
set_option maxRecDepth 100000 in
set_option maxHeartbeats 8000000 in
theorem refSame_any : ∀ (k : Nat) (w : World) (k2 : Nat) (kd di db : Int) (ds : ByteArray) (p : Option Addr) (n cap : Nat) (kd2 di2 db2 : Int) (ds2 : ByteArray) (p2 : Option Addr) (n2 cap2 : Nat) (ps ps2 : List Dv), DvIs w k [.int .i64 kd, .int .i64 di, .int .u64 db, .string ds, .slice p n cap] (.mk kd di db ds ps) → DvIs w k2 [.int .i64 kd2, .int .i64 di2, .int .u64 db2, .string ds2, .slice p2 n2 cap2] (.mk kd2 di2 db2 ds2 ps2) →
    Calls Tryz.prog 46 #[.agg #[.int .i64 kd, .int .i64 di, .int .u64 db, .string ds, .slice p n cap], .agg #[.int .i64 kd2, .int .i64 di2, .int .u64 db2, .string ds2, .slice p2 n2 cap2]] w fun e w' => ∃ b : Bool, e = .returned (.bool b) ∧ (b = true ↔ Dv.mk kd di db ds ps = .mk kd2 di2 db2 ds2 ps2) ∧ Below w.heap.size w w' := by
  intro k
  induction k with
  | zero => intro w k2 kd di db ds p n cap kd2 di2 db2 ds2 p2 n2 cap2 ps ps2 h; exact h.elim
  | succ k ih =>
    intro w k2 kd di db ds p n cap kd2 di2 db2 ds2 p2 n2 cap2 ps ps2 hD hD2
    have IH := Lib.hid ih
    clear ih
    obtain ⟨hn, -, -, -, k1, k2'⟩ := hD.top
    obtain ⟨k2, rfl⟩ := hD2.form
    obtain ⟨hn2, -, -, -, k3, k4⟩ := hD2.top
    have HN : Hid (ps.length = n) := hn.symm
    have HN2 : Hid (ps2.length = n2) := hn2.symm
    obtain ⟨PP, hPP⟩ : ∃ PP : Ending → World → Prop, (fun e w' => ∃ b : Bool, e = .returned (.bool b) ∧ (b = true ↔ Dv.mk kd di db ds ps = .mk kd2 di2 db2 ds2 ps2) ∧ Below w.heap.size w w') = PP := ⟨_, rfl⟩
    rw [hPP]
    have HPP := Lib.hid hPP
    clear hPP hn hn2
    have HB0 : Hid (Below w.heap.size w ((w.alloc (.cells #[.int .i64 kd, .int .i64 di, .int .u64 db, .string ds, .slice p n cap] 34)).alloc (.cells #[.int .i64 kd2, .int .i64 di2, .int .u64 db2, .string ds2, .slice p2 n2 cap2] 34))) := ((Below.refl _ _).alloc (Nat.le_refl _) _).alloc (by simp) _
    by_cases hkd : kd = kd2
    case neg =>
      have HNE : Hid (¬ (Dv.mk kd di db ds ps = .mk kd2 di2 db2 ds2 ps2)) := fun e => by injection e; exact absurd ‹_› hkd
      have q1 : (kd != kd2) = true := by simp [hkd]
      clear hD hD2
      go_enter Tryz.func46, Tryz.ntmps46
      go_wp2_with fail
      rw [← HPP.out]
      exact ⟨false, rfl, Iff.intro (fun h => by cases h) (fun h => absurd h HNE.out), HB0.out⟩

    by_cases hdi : di = di2
    case neg =>
      have HNE : Hid (¬ (Dv.mk kd di db ds ps = .mk kd2 di2 db2 ds2 ps2)) := fun e => by injection e; exact absurd ‹_› hdi
      have q1 : (kd != kd2) = false := by simp [hkd]
      have q2 : (di != di2) = true := by simp [hdi]
      clear hkd
      clear hD hD2
      go_enter Tryz.func46, Tryz.ntmps46
      go_wp2_with fail
      rw [← HPP.out]
      exact ⟨false, rfl, Iff.intro (fun h => by cases h) (fun h => absurd h HNE.out), HB0.out⟩

    by_cases hdb : db = db2
    case neg =>
      have HNE : Hid (¬ (Dv.mk kd di db ds ps = .mk kd2 di2 db2 ds2 ps2)) := fun e => by injection e; exact absurd ‹_› hdb
      have q1 : (kd != kd2) = false := by simp [hkd]
      have q2 : (di != di2) = false := by simp [hdi]
      have q3 : (db != db2) = true := by simp [hdb]
      clear hkd hdi
      clear hD hD2
      go_enter Tryz.func46, Tryz.ntmps46
      go_wp2_with fail
      rw [← HPP.out]
      exact ⟨false, rfl, Iff.intro (fun h => by cases h) (fun h => absurd h HNE.out), HB0.out⟩

    by_cases hds : ds = ds2
    case neg =>
      have HNE : Hid (¬ (Dv.mk kd di db ds ps = .mk kd2 di2 db2 ds2 ps2)) := fun e => by injection e; exact absurd ‹_› hds
      have q1 : (kd != kd2) = false := by simp [hkd]
      have q2 : (di != di2) = false := by simp [hdi]
      have q3 : (db != db2) = false := by simp [hdb]
      obtain ⟨q4, q5⟩ := txt_ne hds
      clear hkd hdi hdb
      clear hD hD2
      go_enter Tryz.func46, Tryz.ntmps46
      go_wp2_with fail
      rw [← HPP.out]
      exact ⟨false, rfl, Iff.intro (fun h => by cases h) (fun h => absurd h HNE.out), HB0.out⟩

    subst hkd
    subst hdi
    subst hdb
    subst hds
    by_cases hnn : n = n2
    case neg =>
      have HNE : Hid (¬ (Dv.mk kd di db ds ps = .mk kd di db ds ps2)) := fun e => by
        injection e with _ _ _ _ e
        exact hnn (by rw [← HN.out, ← HN2.out, e])
      have q6 : ((n : Int) != (n2 : Int)) = true := by simp; omega
      have hnn2 : ¬ (n : Int) = (n2 : Int) := by omega
      clear hD hD2
      go_enter Tryz.func46, Tryz.ntmps46
      go_wp2_with fail
      rw [← HPP.out]
      exact ⟨false, rfl, Iff.intro (fun h => by cases h) (fun h => absurd h HNE.out), HB0.out⟩
    subst hnn
    have HD := Lib.hid hD
    have HD2 := Lib.hid hD2
    clear hD hD2
    have HC : Hid (∀ W, Below (w.heap.size + 2) ((w.alloc (.cells #[.int .i64 kd, .int .i64 di, .int .u64 db, .string ds, .slice p n cap] 34)).alloc (.cells #[.int .i64 kd, .int .i64 di, .int .u64 db, .string ds, .slice p2 n cap2] 34)) W → W.cell? ⟨w.heap.size, 4, none⟩ = some (.slice p n cap) ∧ W.cell? ⟨w.heap.size + 1, 4, none⟩ = some (.slice p2 n cap2) ∧ w.heap.size + 2 ≤ W.heap.size) := fun W hb => by
      have hs := hb.size
      simp only [World.size_alloc] at hs
      have h1 : ((w.alloc (.cells #[.int .i64 kd, .int .i64 di, .int .u64 db, .string ds, .slice p n cap] 34)).alloc (.cells #[.int .i64 kd, .int .i64 di, .int .u64 db, .string ds, .slice p2 n cap2] 34)).heap[w.heap.size]? = some (.cells #[.int .i64 kd, .int .i64 di, .int .u64 db, .string ds, .slice p n cap] 34 (0, 0)) := (Below.heap_alloc _ _ _ (by simp)).trans (heap_alloc_new w _)
      have h2 := heap_alloc_new (w.alloc (.cells #[.int .i64 kd, .int .i64 di, .int .u64 db, .string ds, .slice p n cap] 34)) (.cells #[.int .i64 kd, .int .i64 di, .int .u64 db, .string ds, .slice p2 n cap2] 34)
      rw [World.size_alloc] at h2
      refine ⟨?_, ?_, by omega⟩
      · rw [hb.cell (show w.heap.size < w.heap.size + 2 by omega), cell_of_row _ _ _ _ _ _ h1]; rfl
      · rw [hb.cell (show w.heap.size + 1 < w.heap.size + 2 by omega), cell_of_row _ _ _ _ _ _ h2]; rfl
    have q6 : ((n : Int) != (n : Int)) = false := by simp
    go_enter Tryz.func46, Tryz.ntmps46
    go_wp2_with fail
    go_loopw [5, 44] (fun s5 s44 wr => ∃ (j : Nat), s44 = .int .i64 (j : Nat) ∧ j ≤ n ∧ Hid (ps.take j = ps2.take j) ∧ Hid (Below (w.heap.size + 2) ((w.alloc (.cells #[.int .i64 kd, .int .i64 di, .int .u64 db, .string ds, .slice p n cap] 34)).alloc (.cells #[.int .i64 kd, .int .i64 di, .int .u64 db, .string ds, .slice p2 n cap2] 34)) wr)) (fun _ s44 _ => n - (intOf s44).toNat)
    case atStart => exact ⟨0, rfl, by omega, rfl, Below.refl _ _⟩
    case round =>
      obtain ⟨j, rfl, hj, HTK, HB⟩ := hrel
      have HBw : Hid (Below w.heap.size w wr) := HB0.out.trans (HB.out.mono (by omega))
      obtain ⟨f1, f2, f4⟩ := HC.out wr HB.out
      have f3 : w.heap.size < wr.heap.size := by omega
      have f5 : w.heap.size + 1 < wr.heap.size := by omega
      by_cases hlt : j < n
      · obtain ⟨t, ht⟩ : ∃ t, ps[j]? = some t := ⟨_, List.getElem?_eq_getElem (by rw [HN.out]; exact hlt)⟩
        obtain ⟨t2, ht2⟩ : ∃ t, ps2[j]? = some t := ⟨_, List.getElem?_eq_getElem (by rw [HN2.out]; exact hlt)⟩
        obtain ⟨b, o, kd', di', db', ds', q, m, c, ps', rfl, hbl, rfl, d0, d1, d2, d3, d4, hP⟩ := HD.out.part ht
        obtain ⟨b2, o2, kd'', di'', db'', ds'', q2, m2, c2, ps'', rfl, hbl2, rfl, e0, e1, e2, e3, e4, hP2⟩ := HD2.out.part ht2
        have up : ∀ {bb oo : Nat} {u : Value}, bb < w.heap.size → w.cell? ⟨bb, oo, none⟩ = some u → ∀ W, Below w.heap.size w W → W.cell? ⟨bb, oo, none⟩ = some u := fun hl hc W hb => (hb.cell (p := ⟨_, _, none⟩) hl).trans hc
        have HUP : Hid (∀ W, Below (w.heap.size + 2) ((w.alloc (.cells #[.int .i64 kd, .int .i64 di, .int .u64 db, .string ds, .slice (some ⟨b, o, none⟩) n cap] 34)).alloc (.cells #[.int .i64 kd, .int .i64 di, .int .u64 db, .string ds, .slice (some ⟨b2, o2, none⟩) n cap2] 34)) W → W.cell? ⟨w.heap.size, 4, none⟩ = some (.slice (some ⟨b, o, none⟩) n cap) ∧ W.cell? ⟨w.heap.size + 1, 4, none⟩ = some (.slice (some ⟨b2, o2, none⟩) n cap2) ∧ W.cell? ⟨b, o + j * 5, none⟩ = some (.int .i64 kd') ∧ W.cell? ⟨b, o + j * 5 + 1, none⟩ = some (.int .i64 di') ∧ W.cell? ⟨b, o + j * 5 + 2, none⟩ = some (.int .u64 db') ∧ W.cell? ⟨b, o + j * 5 + 3, none⟩ = some (.string ds') ∧ W.cell? ⟨b, o + j * 5 + 4, none⟩ = some (.slice q m c) ∧
            W.cell? ⟨b2, o2 + j * 5, none⟩ = some (.int .i64 kd'') ∧ W.cell? ⟨b2, o2 + j * 5 + 1, none⟩ = some (.int .i64 di'') ∧ W.cell? ⟨b2, o2 + j * 5 + 2, none⟩ = some (.int .u64 db'') ∧ W.cell? ⟨b2, o2 + j * 5 + 3, none⟩ = some (.string ds'') ∧ W.cell? ⟨b2, o2 + j * 5 + 4, none⟩ = some (.slice q2 m2 c2)) := fun W hb => by
          have hw : Below w.heap.size w W := HB0.out.trans (hb.mono (by omega))
          obtain ⟨g1, g2, -⟩ := HC.out W hb
          exact ⟨g1, g2, up hbl d0 W hw, up hbl d1 W hw, up hbl d2 W hw, up hbl d3 W hw, up hbl d4 W hw, up hbl2 e0 W hw, up hbl2 e1 W hw, up hbl2 e2 W hw, up hbl2 e3 W hw, up hbl2 e4 W hw⟩
        have CX : Hid (∀ W, Below w.heap.size w W → Calls Tryz.prog 46 #[.agg #[.int .i64 kd', .int .i64 di', .int .u64 db', .string ds', .slice q m c], .agg #[.int .i64 kd'', .int .i64 di'', .int .u64 db'', .string ds'', .slice q2 m2 c2]] W fun e w' => ∃ b : Bool, e = .returned (.bool b) ∧ (b = true ↔ Dv.mk kd' di' db' ds' ps' = .mk kd'' di'' db'' ds'' ps'') ∧ Below W.heap.size W w') := fun W hb => IH.out W k2 _ _ _ _ _ _ _ _ _ _ _ _ _ _ ps' ps'' (hP.below hb) (hP2.below hb)
        have HT := Lib.hid ht
        have HT2 := Lib.hid ht2
        have g0 : (j : Int) < (n : Int) := by omega
        have g00 : (0 : Int) ≤ (j : Int) := by omega
        have hbr : b < wr.heap.size := by have := HBw.out.size; omega
        have hbr2 : b2 < wr.heap.size := by have := HBw.out.size; omega
        obtain ⟨-, -, x0, x1, x2, x3, x4, y0, y1, y2, y3, y4⟩ := HUP.out wr HB.out
        clear ht ht2 hP hP2 up d0 d1 d2 d3 d4 e0 e1 e2 e3 e4
        go_wp2_with fail
        go_region_held3 (fun W => W.cell? ⟨w.heap.size, 4, none⟩ = some (.slice (some ⟨b, o, none⟩) n cap) ∧ W.cell? ⟨w.heap.size + 1, 4, none⟩ = some (.slice (some ⟨b2, o2, none⟩) n cap2) ∧ W.cell? ⟨b, o + j * 5, none⟩ = some (.int .i64 kd') ∧ W.cell? ⟨b, o + j * 5 + 1, none⟩ = some (.int .i64 di') ∧ W.cell? ⟨b, o + j * 5 + 2, none⟩ = some (.int .u64 db') ∧ W.cell? ⟨b, o + j * 5 + 3, none⟩ = some (.string ds') ∧ W.cell? ⟨b, o + j * 5 + 4, none⟩ = some (.slice q m c) ∧ W.cell? ⟨b2, o2 + j * 5, none⟩ = some (.int .i64 kd'') ∧ W.cell? ⟨b2, o2 + j * 5 + 1, none⟩ = some (.int .i64 di'') ∧ W.cell? ⟨b2, o2 + j * 5 + 2, none⟩ = some (.int .u64 db'') ∧ W.cell? ⟨b2, o2 + j * 5 + 3, none⟩ = some (.string ds'') ∧ W.cell? ⟨b2, o2 + j * 5 + 4, none⟩ = some (.slice q2 m2 c2)) (first | exact HUP.out _ HB.out | exact HUP.out _ HB.out.drew | exact HUP.out _ HB9.out) (first
          | (go_at_call 46; (with_reducible refine (CX.out _ HBw.out.drew).mono ?_); rintro e w9 ⟨bb, rfl, hbb, hb9⟩; have HBB := Lib.hid hbb; have HB9 := Lib.hid (HB.out.drew.trans (hb9.mono f4)); clear hbb hb9))
        cases bb with
        | false =>
          have HNE : Hid (¬ (Dv.mk kd di db ds ps = .mk kd di db ds ps2)) := fun e => by
            injection e with _ _ _ _ e
            have h1 := HT.out
            rw [e, HT2.out] at h1
            injection h1 with h1
            have := HBB.out.2 h1.symm
            cases this
          have HBF := Lib.hid (HB0.out.trans (HB9.out.mono (by omega)))
          go_simp
          go_wp2_with fail
          rw [← HPP.out]
          exact ⟨false, rfl, Iff.intro (fun h => by cases h) (fun h => absurd h HNE.out), HBF.out⟩
        | true =>
          have HTK2 := Lib.hid (dv_split HT.out HT2.out HTK.out (HBB.out.1 rfl))
          go_simp
          go_wp2_with fail
          go_roundw
          case rel => exact ⟨j + 1, by go_num, by omega, HTK2.out, HB9.out⟩
          case measure => simp [intOf]; omega
      · obtain rfl : j = n := by omega
        have hjj : ¬ (j : Int) < (j : Int) := by omega
        have HEQ : Hid (ps = ps2) := by
          have h := HTK.out
          have e1 : ps.take j = ps := List.take_of_length_le (by rw [HN.out]; exact Nat.le_refl _)
          have e2 : ps2.take j = ps2 := List.take_of_length_le (by rw [HN2.out]; exact Nat.le_refl _)
          show ps = ps2
          rw [← e1, h, e2]
        go_wp2_with fail
        rw [← HPP.out]
        exact ⟨true, rfl, Iff.intro (fun _ => by rw [HEQ.out]) (fun _ => rfl), HBw.out⟩
end
section
open Go Go.RowKit
attribute [local go_sem ↓] Go.wp_at_zero Go.wp_at_succ

set_option maxRecDepth 100000 in
set_option maxHeartbeats 8000000 in
theorem sameMsg_cells (w : World) (f1 f2 : Nat) (id1 kd1 di1 db1 at_1 un1 co1 pr1 ho1 id2 kd2 di2 db2 at_2 un2 co2 pr2 ho2 : Int) (tp1 tp2 ds1 ds2 rp1 rp2 : ByteArray) (q1 q2 : Option Addr) (n1 c1 n2 c2 : Nat) (t1 t2 : Dv) (h1 : DvIs w f1 [.int .i64 kd1, .int .i64 di1, .int .u64 db1, .string ds1, .slice q1 n1 c1] t1) (h2 : DvIs w f2 [.int .i64 kd2, .int .i64 di2, .int .u64 db2, .string ds2, .slice q2 n2 c2] t2) :
    Calls Tryz.prog 18 #[.agg #[.int .i64 id1, .string tp1, .int .i64 kd1, .int .i64 di1, .int .u64 db1, .string ds1, .slice q1 n1 c1, .int .i64 at_1, .int .i64 un1, .string rp1, .int .i64 co1, .int .i64 pr1, .int .i64 ho1], .agg #[.int .i64 id2, .string tp2, .int .i64 kd2, .int .i64 di2, .int .u64 db2, .string ds2, .slice q2 n2 c2, .int .i64 at_2, .int .i64 un2, .string rp2, .int .i64 co2, .int .i64 pr2, .int .i64 ho2]] w fun e w' => ∃ b : Bool, e = .returned (.bool b) ∧ (b = true ↔ AM.mk id1 tp1 at_1 un1 rp1 co1 pr1 ho1 t1 = AM.mk id2 tp2 at_2 un2 rp2 co2 pr2 ho2 t2) ∧ Below w.heap.size w w' := by
  obtain ⟨PP, hPP⟩ : ∃ PP : Ending → World → Prop, (fun e w' => ∃ b : Bool, e = .returned (.bool b) ∧ (b = true ↔ AM.mk id1 tp1 at_1 un1 rp1 co1 pr1 ho1 t1 = AM.mk id2 tp2 at_2 un2 rp2 co2 pr2 ho2 t2) ∧ Below w.heap.size w w') = PP := ⟨_, rfl⟩
  rw [hPP]
  have HPP := Lib.hid hPP
  obtain ⟨WA, hWA⟩ : ∃ WA, (w.alloc (.cells #[.int .i64 id1, .string tp1, .int .i64 kd1, .int .i64 di1, .int .u64 db1, .string ds1, .slice q1 n1 c1, .int .i64 at_1, .int .i64 un1, .string rp1, .int .i64 co1, .int .i64 pr1, .int .i64 ho1] 36)).alloc (.cells #[.int .i64 id2, .string tp2, .int .i64 kd2, .int .i64 di2, .int .u64 db2, .string ds2, .slice q2 n2 c2, .int .i64 at_2, .int .i64 un2, .string rp2, .int .i64 co2, .int .i64 pr2, .int .i64 ho2] 36) = WA := ⟨_, rfl⟩
  have HB0 : Hid (Below w.heap.size w WA) := by rw [← hWA]; exact ((Below.refl _ _).alloc (Nat.le_refl _) _).alloc (by simp) _
  have HWA := Lib.hid hWA
  obtain ⟨ps1, e1⟩ := DvIs.mk h1
  obtain ⟨ps2, e2⟩ := DvIs.mk h2
  subst e1
  subst e2
  have CS := Lib.hid (refSame_any f1 WA f2 kd1 di1 db1 ds1 q1 n1 c1 kd2 di2 db2 ds2 q2 n2 c2 ps1 ps2 (h1.below HB0.out) (h2.below HB0.out))
  clear hPP hWA h1 h2
  by_cases hid : id1 = id2
  case neg =>
    have HNE : Hid (¬ (AM.mk id1 tp1 at_1 un1 rp1 co1 pr1 ho1 (.mk kd1 di1 db1 ds1 ps1) = AM.mk id2 tp2 at_2 un2 rp2 co2 pr2 ho2 (.mk kd2 di2 db2 ds2 ps2))) := fun e => by injection e; exact absurd ‹_› hid
    have qid : (id1 == id2) = false := by simp [hid]
    clear hid CS
    go_enter Tryz.func18, Tryz.ntmps18
    go_wp2_with fail
    rw [HWA.out, ← HPP.out]
    exact ⟨false, rfl, Iff.intro (fun h => by cases h) (fun h => absurd h HNE.out), HB0.out⟩
  by_cases htp : tp1 = tp2
  case neg =>
    have HNE : Hid (¬ (AM.mk id1 tp1 at_1 un1 rp1 co1 pr1 ho1 (.mk kd1 di1 db1 ds1 ps1) = AM.mk id2 tp2 at_2 un2 rp2 co2 pr2 ho2 (.mk kd2 di2 db2 ds2 ps2))) := fun e => by injection e; exact absurd ‹_› htp
    have qid : (id1 == id2) = true := by simp [hid]
    have qtp := (txt_ne htp).1
    clear hid
    clear htp CS
    go_enter Tryz.func18, Tryz.ntmps18
    go_wp2_with fail
    rw [HWA.out, ← HPP.out]
    exact ⟨false, rfl, Iff.intro (fun h => by cases h) (fun h => absurd h HNE.out), HB0.out⟩
  by_cases hat_ : at_1 = at_2
  case neg =>
    have HNE : Hid (¬ (AM.mk id1 tp1 at_1 un1 rp1 co1 pr1 ho1 (.mk kd1 di1 db1 ds1 ps1) = AM.mk id2 tp2 at_2 un2 rp2 co2 pr2 ho2 (.mk kd2 di2 db2 ds2 ps2))) := fun e => by injection e; exact absurd ‹_› hat_
    have qid : (id1 == id2) = true := by simp [hid]
    have qtp : (tp1.toList == tp2.toList) = true := is_same.2 htp
    have qat_ : (at_1 == at_2) = false := by simp [hat_]
    clear hid htp
    clear hat_ CS
    go_enter Tryz.func18, Tryz.ntmps18
    go_wp2_with fail
    rw [HWA.out, ← HPP.out]
    exact ⟨false, rfl, Iff.intro (fun h => by cases h) (fun h => absurd h HNE.out), HB0.out⟩
  by_cases hun : un1 = un2
  case neg =>
    have HNE : Hid (¬ (AM.mk id1 tp1 at_1 un1 rp1 co1 pr1 ho1 (.mk kd1 di1 db1 ds1 ps1) = AM.mk id2 tp2 at_2 un2 rp2 co2 pr2 ho2 (.mk kd2 di2 db2 ds2 ps2))) := fun e => by injection e; exact absurd ‹_› hun
    have qid : (id1 == id2) = true := by simp [hid]
    have qtp : (tp1.toList == tp2.toList) = true := is_same.2 htp
    have qat_ : (at_1 == at_2) = true := by simp [hat_]
    have qun : (un1 == un2) = false := by simp [hun]
    clear hid htp hat_
    clear hun CS
    go_enter Tryz.func18, Tryz.ntmps18
    go_wp2_with fail
    rw [HWA.out, ← HPP.out]
    exact ⟨false, rfl, Iff.intro (fun h => by cases h) (fun h => absurd h HNE.out), HB0.out⟩
  by_cases hrp : rp1 = rp2
  case neg =>
    have HNE : Hid (¬ (AM.mk id1 tp1 at_1 un1 rp1 co1 pr1 ho1 (.mk kd1 di1 db1 ds1 ps1) = AM.mk id2 tp2 at_2 un2 rp2 co2 pr2 ho2 (.mk kd2 di2 db2 ds2 ps2))) := fun e => by injection e; exact absurd ‹_› hrp
    have qid : (id1 == id2) = true := by simp [hid]
    have qtp : (tp1.toList == tp2.toList) = true := is_same.2 htp
    have qat_ : (at_1 == at_2) = true := by simp [hat_]
    have qun : (un1 == un2) = true := by simp [hun]
    have qrp := (txt_ne hrp).1
    clear hid htp hat_ hun
    clear hrp CS
    go_enter Tryz.func18, Tryz.ntmps18
    go_wp2_with fail
    rw [HWA.out, ← HPP.out]
    exact ⟨false, rfl, Iff.intro (fun h => by cases h) (fun h => absurd h HNE.out), HB0.out⟩
  by_cases hco : co1 = co2
  case neg =>
    have HNE : Hid (¬ (AM.mk id1 tp1 at_1 un1 rp1 co1 pr1 ho1 (.mk kd1 di1 db1 ds1 ps1) = AM.mk id2 tp2 at_2 un2 rp2 co2 pr2 ho2 (.mk kd2 di2 db2 ds2 ps2))) := fun e => by injection e; exact absurd ‹_› hco
    have qid : (id1 == id2) = true := by simp [hid]
    have qtp : (tp1.toList == tp2.toList) = true := is_same.2 htp
    have qat_ : (at_1 == at_2) = true := by simp [hat_]
    have qun : (un1 == un2) = true := by simp [hun]
    have qrp : (rp1.toList == rp2.toList) = true := is_same.2 hrp
    have qco : (co1 == co2) = false := by simp [hco]
    clear hid htp hat_ hun hrp
    clear hco CS
    go_enter Tryz.func18, Tryz.ntmps18
    go_wp2_with fail
    rw [HWA.out, ← HPP.out]
    exact ⟨false, rfl, Iff.intro (fun h => by cases h) (fun h => absurd h HNE.out), HB0.out⟩
  by_cases hpr : pr1 = pr2
  case neg =>
    have HNE : Hid (¬ (AM.mk id1 tp1 at_1 un1 rp1 co1 pr1 ho1 (.mk kd1 di1 db1 ds1 ps1) = AM.mk id2 tp2 at_2 un2 rp2 co2 pr2 ho2 (.mk kd2 di2 db2 ds2 ps2))) := fun e => by injection e; exact absurd ‹_› hpr
    have qid : (id1 == id2) = true := by simp [hid]
    have qtp : (tp1.toList == tp2.toList) = true := is_same.2 htp
    have qat_ : (at_1 == at_2) = true := by simp [hat_]
    have qun : (un1 == un2) = true := by simp [hun]
    have qrp : (rp1.toList == rp2.toList) = true := is_same.2 hrp
    have qco : (co1 == co2) = true := by simp [hco]
    have qpr : (pr1 == pr2) = false := by simp [hpr]
    clear hid htp hat_ hun hrp hco
    clear hpr CS
    go_enter Tryz.func18, Tryz.ntmps18
    go_wp2_with fail
    rw [HWA.out, ← HPP.out]
    exact ⟨false, rfl, Iff.intro (fun h => by cases h) (fun h => absurd h HNE.out), HB0.out⟩
  by_cases hho : ho1 = ho2
  case neg =>
    have HNE : Hid (¬ (AM.mk id1 tp1 at_1 un1 rp1 co1 pr1 ho1 (.mk kd1 di1 db1 ds1 ps1) = AM.mk id2 tp2 at_2 un2 rp2 co2 pr2 ho2 (.mk kd2 di2 db2 ds2 ps2))) := fun e => by injection e; exact absurd ‹_› hho
    have qid : (id1 == id2) = true := by simp [hid]
    have qtp : (tp1.toList == tp2.toList) = true := is_same.2 htp
    have qat_ : (at_1 == at_2) = true := by simp [hat_]
    have qun : (un1 == un2) = true := by simp [hun]
    have qrp : (rp1.toList == rp2.toList) = true := is_same.2 hrp
    have qco : (co1 == co2) = true := by simp [hco]
    have qpr : (pr1 == pr2) = true := by simp [hpr]
    have qho : (ho1 == ho2) = false := by simp [hho]
    clear hid htp hat_ hun hrp hco hpr
    clear hho CS
    go_enter Tryz.func18, Tryz.ntmps18
    go_wp2_with fail
    rw [HWA.out, ← HPP.out]
    exact ⟨false, rfl, Iff.intro (fun h => by cases h) (fun h => absurd h HNE.out), HB0.out⟩
  have Hid := Lib.hid hid
  have Htp := Lib.hid htp
  have Hat_ := Lib.hid hat_
  have Hun := Lib.hid hun
  have Hrp := Lib.hid hrp
  have Hco := Lib.hid hco
  have Hpr := Lib.hid hpr
  have Hho := Lib.hid hho
  have qid : (id1 == id2) = true := by simp [hid]
  have qtp : (tp1.toList == tp2.toList) = true := is_same.2 htp
  have qat_ : (at_1 == at_2) = true := by simp [hat_]
  have qun : (un1 == un2) = true := by simp [hun]
  have qrp : (rp1.toList == rp2.toList) = true := is_same.2 hrp
  have qco : (co1 == co2) = true := by simp [hco]
  have qpr : (pr1 == pr2) = true := by simp [hpr]
  have qho : (ho1 == ho2) = true := by simp [hho]
  clear hid htp hat_ hun hrp hco hpr hho
  go_enter Tryz.func18, Tryz.ntmps18
  go_wp2_with fail
  rw [HWA.out]
  refine CS.out.mono ?_
  rintro e w5 ⟨b, rfl, hb, hb5⟩
  have HBB := Lib.hid hb
  have HB5 := Lib.hid (HB0.out.trans (hb5.mono HB0.out.size))
  clear hb hb5
  go_wp2_with fail
  rw [← HPP.out]
  refine ⟨b, rfl, ?_, HB5.out⟩
  rw [HBB.out, Hid.out, Htp.out, Hat_.out, Hun.out, Hrp.out, Hco.out, Hpr.out, Hho.out]
  exact Iff.intro (fun h => by rw [h]) (fun h => by injection h)
theorem sameMsg_any (w : World) (m1 m2 : Mg) (h1 : DvIs w m1.f m1.body m1.t) (h2 : DvIs w m2.f m2.body m2.t) :
    Calls Tryz.prog 18 #[m1.val, m2.val] w fun e w' => ∃ b : Bool, e = .returned (.bool b) ∧ (b = true ↔ m1.am = m2.am) ∧ Below w.heap.size w w' :=
  sameMsg_cells w m1.f m2.f m1.id m1.kd m1.di m1.db m1.at_ m1.un m1.co m1.pr m1.ho m2.id m2.kd m2.di m2.db m2.at_ m2.un m2.co m2.pr m2.ho m1.tp m2.tp m1.ds m2.ds m1.rp m2.rp m1.q m2.q m1.n m1.c m2.n m2.c m1.t m2.t h1 h2
end
end Go.Proofs.YtincmegllckcjaaGreatDoor
