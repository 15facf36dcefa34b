/- WIRE: conduitref01.Valid, exactly. -/
import Derived.Test.YtmncpbfghabamaaDoorWireRightA
import Derived.Test.YtmncpbfghabamaaDoorWireRightB
import Derived.Test.YtmncpbfghabamaaDoorWireRightC
namespace Go.Proofs.YtmncpbfghabamaaDoor
open Go Go.RowKit

set_option maxRecDepth 100000 in
set_option maxHeartbeats 8000000 in
theorem right_all : ∀ k, RC k := by
  intro k
  induction k with
  | zero => intro w kd di db ds p n cap ps h; exact h.elim
  | succ k ih =>
    intro w kd di db ds p n cap ps hD
    by_cases h0 : kd = 0
    · subst h0; exact right_k0 k ih w di db ds p n cap ps hD
    by_cases h1 : kd = 1
    · subst h1; exact right_k1 k ih w di db ds p n cap ps hD
    by_cases h2 : kd = 2
    · subst h2; exact right_k2 k ih w di db ds p n cap ps hD
    by_cases h3 : kd = 3
    · subst h3; exact right_k3 k ih w di db ds p n cap ps hD
    by_cases h4 : kd = 4
    · subst h4; exact right_k4 k ih w di db ds p n cap ps hD
    by_cases h5 : kd = 5
    · subst h5; exact right_k5 k ih w di db ds p n cap ps hD
    by_cases h6 : kd = 6
    · subst h6; exact right_k6 k ih w di db ds p n cap ps hD
    by_cases h7 : kd = 7
    · subst h7; exact right_k7 k ih w di db ds p n cap ps hD
    by_cases h8 : kd = 8
    · subst h8; exact right_k8 k ih w di db ds p n cap ps hD
    by_cases h9 : kd = 9
    · subst h9; exact right_k9 k ih w di db ds p n cap ps hD
    by_cases h10 : kd = 10
    · subst h10; exact right_k10 k ih w di db ds p n cap ps hD
    by_cases h11 : kd = 11
    · subst h11; exact right_k11 k ih w di db ds p n cap ps hD
    by_cases h12 : kd = 12
    · subst h12; exact right_k12 k ih w di db ds p n cap ps hD
    by_cases h13 : kd = 13
    · subst h13; exact right_k13 k ih w di db ds p n cap ps hD
    · obtain ⟨PP, hPP⟩ : ∃ PP, FairPost (.mk kd di db ds ps) w = PP := ⟨_, rfl⟩
      rw [hPP]
      have HPP := Lib.hid hPP
      have HNF : Hid (¬ FairV kd di db ds ps.length) := fun h => by have h1 := h.1; have h2 := h.2.1; omega
      have b0 : (kd == 0) = false := by simpa using (show kd ≠ 0 by omega)
      have b1 : (kd == 1) = false := by simpa using (show kd ≠ 1 by omega)
      have b2 : (kd == 2) = false := by simpa using (show kd ≠ 2 by omega)
      have b3 : (kd == 3) = false := by simpa using (show kd ≠ 3 by omega)
      have b4 : (kd == 4) = false := by simpa using (show kd ≠ 4 by omega)
      have b5 : (kd == 5) = false := by simpa using (show kd ≠ 5 by omega)
      have b6 : (kd == 6) = false := by simpa using (show kd ≠ 6 by omega)
      have b7 : (kd == 7) = false := by simpa using (show kd ≠ 7 by omega)
      have b8 : (kd == 8) = false := by simpa using (show kd ≠ 8 by omega)
      have b9 : (kd == 9) = false := by simpa using (show kd ≠ 9 by omega)
      have b10 : (kd == 10) = false := by simpa using (show kd ≠ 10 by omega)
      have b11 : (kd == 11) = false := by simpa using (show kd ≠ 11 by omega)
      have b12 : (kd == 12) = false := by simpa using (show kd ≠ 12 by omega)
      have b13 : (kd == 13) = false := by simpa using (show kd ≠ 13 by omega)
      clear hPP hD h0 h1 h2 h3 h4 h5 h6 h7 h8 h9 h10 h11 h12 h13
      go_enter Tryd.func32, Tryd.ntmps32
      go_wp2_with fail
      rw [← HPP.out]
      exact ⟨false, rfl, ⟨fun h => (by cases h), fun h => absurd h.1 HNF.out⟩, (Below.refl _ _).alloc (Nat.le_refl _) _⟩
def VB (t : Dv) : Prop := (t.size ≤ 4096 ∧ t.deep ≤ 16) ∧ t.Fair
def ValPost (t : Dv) (w : World) (r : Ending) (w' : World) : Prop := ∃ b : Bool, r = .returned (.bool b) ∧ (b = true ↔ VB t) ∧ Below w.heap.size w w'
set_option maxRecDepth 100000 in
set_option maxHeartbeats 4000000 in
theorem valid_any (k : Nat) (w : World) (kd di db : Int) (ds : ByteArray) (p : Option Addr) (n cap : Nat) (ps : List Dv) (hD : DvIs w k [.int .i64 kd, .int .i64 di, .int .u64 db, .string ds, .slice p n cap] (.mk kd di db ds ps)) :
    Calls Tryd.prog 10 #[.agg #[.int .i64 kd, .int .i64 di, .int .u64 db, .string ds, .slice p n cap]] w (ValPost (.mk kd di db ds ps) w) := by
  have CC : Hid (∀ W, Below w.heap.size w W → Calls Tryd.prog 31 #[.agg #[.int .i64 kd, .int .i64 di, .int .u64 db, .string ds, .slice p n cap], .int .i64 ((1 : Nat) : Int), .int .i64 ((4096 : Nat) : Int)] W (CntPost (.mk kd di db ds ps) 1 4096 W)) := fun W hb => cnt_any k W kd di db ds p n cap ps 1 4096 (hD.below hb) (by omega) (by omega)
  have CR : Hid (∀ W, Below w.heap.size w W → Calls Tryd.prog 32 #[.agg #[.int .i64 kd, .int .i64 di, .int .u64 db, .string ds, .slice p n cap]] W (FairPost (.mk kd di db ds ps) W)) := fun W hb => right_all k W kd di db ds p n cap ps (hD.below hb)
  obtain ⟨PP, hPP⟩ : ∃ PP, ValPost (.mk kd di db ds ps) w = PP := ⟨_, rfl⟩
  rw [hPP]
  have HPP := Lib.hid hPP
  have HB0 : Hid (Below w.heap.size w (w.alloc (.cells #[.int .i64 kd, .int .i64 di, .int .u64 db, .string ds, .slice p n cap] 25))) := (Below.refl _ _).alloc (Nat.le_refl _) _
  have HK : Hid (∀ W, Below (w.alloc (.cells #[.int .i64 kd, .int .i64 di, .int .u64 db, .string ds, .slice p n cap] 25)).heap.size (w.alloc (.cells #[.int .i64 kd, .int .i64 di, .int .u64 db, .string ds, .slice p n cap] 25)) W → W.heap[w.heap.size]? = some (.cells #[.int .i64 kd, .int .i64 di, .int .u64 db, .string ds, .slice p n cap] 25 (0, 0))) := fun W hb => by
    have h := hb.block w.heap.size (by simp)
    rw [h]
    exact heap_alloc_new w _
  clear hPP hD
  go_enter Tryd.func10, Tryd.ntmps10
  go_wp2_with fail
  refine (CC.out _ HB0.out).mono ?_
  rintro e W1 ⟨a, b, rfl, hb, hres⟩
  have H1 := Lib.hid (HB0.out.trans (hb.mono (by simp)))
  obtain ⟨c0, c1, c2, c3, c4, hlt⟩ := cells5 (HK.out W1 hb)
  clear hb
  rcases hres with ⟨hg, rfl, hb⟩ | ⟨hg, rfl⟩
  · have HG := Lib.hid hg
    obtain ⟨g1, g2⟩ := hg
    obtain ⟨T, hT⟩ : ∃ T, (Dv.mk kd di db ds ps).size = T := ⟨_, rfl⟩
    obtain ⟨D, hD⟩ : ∃ D, (Dv.mk kd di db ds ps).deep = D := ⟨_, rfl⟩
    rw [hT] at g1
    rw [hD] at g2 hb
    have hbD : b = (D : Int) := by omega
    subst hbD
    rw [hT]
    have hT2 : (T : Int) ≤ 4096 := by omega
    have hD2 : (D : Int) ≤ 16 := by omega
    clear g1 g2 hb hT hD
    go_wp2_with fail
    refine (CR.out W1 H1.out).mono ?_
    rintro e W2 ⟨b2, rfl, hiff, hb2⟩
    have H2 := Lib.hid (H1.out.trans (hb2.mono H1.out.size))
    have HI := Lib.hid hiff
    clear hb2 hiff c0 c1 c2 c3 c4
    go_wp2_with fail
    rw [← HPP.out]
    exact ⟨b2, rfl, ⟨fun h => ⟨⟨HG.out.1, by have := HG.out.2; omega⟩, HI.out.1 h⟩, fun h => HI.out.2 h.2⟩, H2.out⟩
  · have HG := Lib.hid hg
    clear hg
    go_wp2_with fail
    rw [← HPP.out]
    exact ⟨false, rfl, ⟨fun h => (by cases h), fun h => absurd ⟨h.1.1, by have := h.1.2; omega⟩ HG.out⟩, H1.out⟩
mutual
theorem fair_right {w : World} : ∀ (k : Nat) (cs : List Value) (t : Dv), DvIs w k cs t → t.Fair → t.size ≤ 4096 → t.Right
  | 0, _, _, h, _, _ => h.elim
  | k + 1, cs, .mk kd di db ds l, h, hf, hs => by
    obtain ⟨hF, hr⟩ := hf
    have hl := sizes_len l
    have hs' : 1 + sizes l ≤ 4096 := hs
    obtain ⟨p, cap, e, i1, i2, i3, h2, h3, h4⟩ := h
    obtain ⟨f0, f1, f2, f3, f4, f5, f6, f7, f8⟩ := hF
    refine ⟨⟨f0, f1, i2, i3.1, i3.2, f2, f3, f4, f5, f6, f7, by omega, by omega⟩, ?_⟩
    exact fairs_right k l (fun j t hj => by
      obtain ⟨b, o, hp, hc⟩ := h4 (by have := (List.getElem?_eq_some_iff.1 hj).1; omega)
      obtain ⟨c0, c1, c2, c3, c4, -, -, -, -, -, ht⟩ := hc j t hj
      exact ⟨_, ht⟩) hr (by omega)
theorem fairs_right {w : World} : ∀ (k : Nat) (l : List Dv), (∀ (j : Nat) (t : Dv), l[j]? = some t → ∃ cs, DvIs w k cs t) → Fairs l → sizes l ≤ 4096 → Rights l
  | _, [], _, _, _ => trivial
  | k, t :: r, hc, hf, hs => by
    have hs' : t.size + sizes r ≤ 4096 := hs
    obtain ⟨cs, h⟩ := hc 0 t rfl
    exact ⟨fair_right k cs t h hf.1 (by omega), fairs_right k r (fun j t hj => hc (j + 1) t hj) hf.2 (by omega)⟩
end
mutual
theorem right_fair : ∀ t : Dv, t.Right → t.Fair
  | .mk kd di db ds l, h => by
    obtain ⟨⟨f0, f1, i2, i3, i4, f2, f3, f4, f5, f6, f7, f8, f9⟩, hr⟩ := h
    exact ⟨⟨f0, f1, f2, f3, f4, f5, f6, f7, f9⟩, rights_fairs l hr⟩
theorem rights_fairs : ∀ l : List Dv, Rights l → Fairs l
  | [], _ => trivial
  | t :: r, h => ⟨right_fair t h.1, rights_fairs r h.2⟩
end
end Go.Proofs.YtmncpbfghabamaaDoor
