/- WIRE: conduitref01.right, exactly: kinds. -/
import Derived.Test.YtmncpbfghabamaaDoorWireRight
namespace Go.Proofs.YtmncpbfghabamaaDoor
open Go Go.RowKit

set_option maxRecDepth 100000 in
set_option maxHeartbeats 8000000 in
theorem right_k3 (k : Nat) (ih : RC k) (w : World) (di db : Int) (ds : ByteArray) (p : Option Addr) (n cap : Nat) (ps : List Dv) (hD : DvIs w (k + 1) [.int .i64 3, .int .i64 di, .int .u64 db, .string ds, .slice p n cap] (.mk 3 di db ds ps)) :
    Calls Tryd.prog 32 #[.agg #[.int .i64 3, .int .i64 di, .int .u64 db, .string ds, .slice p n cap]] w (FairPost (.mk 3 di db ds ps) w) := by
  have IH := Lib.hid ih
  have HX := trivial
  obtain ⟨hn, -, -, -, k1, k2⟩ := hD.top
  have HN : Hid (ps.length = n) := hn.symm
  clear hn ih
  obtain ⟨PP, hPP⟩ : ∃ PP, FairPost (.mk 3 di db ds ps) w = PP := ⟨_, rfl⟩
  rw [hPP]
  have HPP := Lib.hid hPP
  have HD := Lib.hid hD
  clear hPP hD
  by_cases hdi : di = 0
  · subst hdi
    by_cases hds : ds = ⟨#[]⟩
    · subst hds
      by_cases hnn : n = 0
      · subst hnn
        have HF : Hid (FairV _ _ _ _ _) := (show FairV (3) 0 db ⟨#[]⟩ 0 from ⟨by omega, by omega, by decide, by simp, by simp, by simp, by simp, by simp, by simp⟩)
        clear HX
        go_enter Tryd.func32, Tryd.ntmps32
        go_wp2_with fail
        go_loopw [7, 89] (fun u1 i wr => ∃ (j : Nat), i = .int .i64 (j : Nat) ∧ j ≤ 0 ∧ Hid (Below w.heap.size w wr) ∧ w.heap.size < wr.heap.size ∧ wr.cell? ⟨w.heap.size, 4, none⟩ = some (.slice p 0 cap) ∧ Hid (Fairs (ps.take j))) (fun _ i _ => 0 - (intOf i).toNat)
        case atStart => exact ⟨0, rfl, by omega, (Below.refl _ _).alloc (Nat.le_refl _) _, by simp, by go_simp, trivial⟩
        case round =>
          obtain ⟨j, rfl, hj, HBw, f3, f2, HS⟩ := hrel
          by_cases hlt : j < 0
          · exact absurd hlt (Nat.not_lt_zero _)
          · have hjn : j = 0 := by omega
            subst hjn
            have HS2 : Hid (Fairs ps) := by
              have h := HS.out
              rw [List.take_of_length_le (by rw [HN.out]; exact Nat.le_refl _)] at h
              exact h
            clear HS hlt hj
            go_wp2_with fail
            rw [← HPP.out]
            exact ⟨true, rfl, ⟨fun _ => ⟨by rw [HN.out]; exact HF.out, HS2.out⟩, fun _ => rfl⟩, HBw.out⟩
      · have hb1 : ((n : Int) == 0) = false := by simp; omega
        have hb2 : ((n : Int) != 0) = true := by simp [bne, hb1]
        clear HX
        have HNF : Hid (¬ FairV (3) 0 db ⟨#[]⟩ n) := fun h => by have h4 := h.2.2.2.2.2.2.2.2; omega
        go_enter Tryd.func32, Tryd.ntmps32
        go_wp2_with fail
        rw [← HPP.out]
        exact ⟨false, rfl, ⟨fun h => (by cases h), fun h => absurd h.1 (by rw [HN.out]; exact HNF.out)⟩, (Below.refl _ _).alloc (Nat.le_refl _) _⟩
    · obtain ⟨hb1, hb2, hb3⟩ := ds_ne hds
      clear HX
      have HNF : Hid (¬ FairV (3) 0 db ds n) := fun h => by (have h4 := h.2.2.2.2.2.1; rcases h4 with h4 | h4 | h4 | h4 | h4; omega; omega; omega; omega; exact hds h4)
      go_enter Tryd.func32, Tryd.ntmps32
      go_wp2_with fail
      rw [← HPP.out]
      exact ⟨false, rfl, ⟨fun h => (by cases h), fun h => absurd h.1 (by rw [HN.out]; exact HNF.out)⟩, (Below.refl _ _).alloc (Nat.le_refl _) _⟩
  · obtain ⟨hb1, hb2⟩ := int_ne hdi
    clear HX
    have HNF : Hid (¬ FairV (3) di db ds n) := fun h => by have h4 := h.2.2.2.1; omega
    go_enter Tryd.func32, Tryd.ntmps32
    go_wp2_with fail
    rw [← HPP.out]
    exact ⟨false, rfl, ⟨fun h => (by cases h), fun h => absurd h.1 (by rw [HN.out]; exact HNF.out)⟩, (Below.refl _ _).alloc (Nat.le_refl _) _⟩
set_option maxRecDepth 100000 in
set_option maxHeartbeats 8000000 in
theorem right_k4 (k : Nat) (ih : RC k) (w : World) (di db : Int) (ds : ByteArray) (p : Option Addr) (n cap : Nat) (ps : List Dv) (hD : DvIs w (k + 1) [.int .i64 4, .int .i64 di, .int .u64 db, .string ds, .slice p n cap] (.mk 4 di db ds ps)) :
    Calls Tryd.prog 32 #[.agg #[.int .i64 4, .int .i64 di, .int .u64 db, .string ds, .slice p n cap]] w (FairPost (.mk 4 di db ds ps) w) := by
  have IH := Lib.hid ih
  have HX := trivial
  obtain ⟨hn, -, -, -, k1, k2⟩ := hD.top
  have HN : Hid (ps.length = n) := hn.symm
  clear hn ih
  obtain ⟨PP, hPP⟩ : ∃ PP, FairPost (.mk 4 di db ds ps) w = PP := ⟨_, rfl⟩
  rw [hPP]
  have HPP := Lib.hid hPP
  have HD := Lib.hid hD
  clear hPP hD
  by_cases hdi : di = 0
  · subst hdi
    by_cases hdb : db = 0
    · subst hdb
      by_cases hnn : n = 0
      · subst hnn
        by_cases hts : ds.size ≤ 65535
        · have hsz : ¬ (65535 : Int) < (ds.size : Int) := by omega
          have HF : Hid (FairV _ _ _ _ _) := (show FairV (4) 0 0 ds 0 from ⟨by omega, by omega, hts, by simp, by simp, by simp, by simp, by simp, by simp⟩)
          clear HX
          go_enter Tryd.func32, Tryd.ntmps32
          go_wp2_with fail
          go_loopw [7, 89] (fun u1 i wr => ∃ (j : Nat), i = .int .i64 (j : Nat) ∧ j ≤ 0 ∧ Hid (Below w.heap.size w wr) ∧ w.heap.size < wr.heap.size ∧ wr.cell? ⟨w.heap.size, 4, none⟩ = some (.slice p 0 cap) ∧ Hid (Fairs (ps.take j))) (fun _ i _ => 0 - (intOf i).toNat)
          case atStart => exact ⟨0, rfl, by omega, (Below.refl _ _).alloc (Nat.le_refl _) _, by simp, by go_simp, trivial⟩
          case round =>
            obtain ⟨j, rfl, hj, HBw, f3, f2, HS⟩ := hrel
            by_cases hlt : j < 0
            · exact absurd hlt (Nat.not_lt_zero _)
            · have hjn : j = 0 := by omega
              subst hjn
              have HS2 : Hid (Fairs ps) := by
                have h := HS.out
                rw [List.take_of_length_le (by rw [HN.out]; exact Nat.le_refl _)] at h
                exact h
              clear HS hlt hj
              go_wp2_with fail
              rw [← HPP.out]
              exact ⟨true, rfl, ⟨fun _ => ⟨by rw [HN.out]; exact HF.out, HS2.out⟩, fun _ => rfl⟩, HBw.out⟩
        · have hsz : (65535 : Int) < (ds.size : Int) := by omega
          clear HX
          have HNF : Hid (¬ FairV (4) 0 0 ds 0) := fun h => hts h.2.2.1
          go_enter Tryd.func32, Tryd.ntmps32
          go_wp2_with fail
          rw [← HPP.out]
          exact ⟨false, rfl, ⟨fun h => (by cases h), fun h => absurd h.1 (by rw [HN.out]; exact HNF.out)⟩, (Below.refl _ _).alloc (Nat.le_refl _) _⟩
      · have hb1 : ((n : Int) == 0) = false := by simp; omega
        have hb2 : ((n : Int) != 0) = true := by simp [bne, hb1]
        clear HX
        have HNF : Hid (¬ FairV (4) 0 0 ds n) := fun h => by have h4 := h.2.2.2.2.2.2.2.2; omega
        go_enter Tryd.func32, Tryd.ntmps32
        go_wp2_with fail
        rw [← HPP.out]
        exact ⟨false, rfl, ⟨fun h => (by cases h), fun h => absurd h.1 (by rw [HN.out]; exact HNF.out)⟩, (Below.refl _ _).alloc (Nat.le_refl _) _⟩
    · obtain ⟨hb1, hb2⟩ := int_ne hdb
      clear HX
      have HNF : Hid (¬ FairV (4) 0 db ds n) := fun h => by have h4 := h.2.2.2.2.1; omega
      go_enter Tryd.func32, Tryd.ntmps32
      go_wp2_with fail
      rw [← HPP.out]
      exact ⟨false, rfl, ⟨fun h => (by cases h), fun h => absurd h.1 (by rw [HN.out]; exact HNF.out)⟩, (Below.refl _ _).alloc (Nat.le_refl _) _⟩
  · obtain ⟨hb1, hb2⟩ := int_ne hdi
    clear HX
    have HNF : Hid (¬ FairV (4) di db ds n) := fun h => by have h4 := h.2.2.2.1; omega
    go_enter Tryd.func32, Tryd.ntmps32
    go_wp2_with fail
    rw [← HPP.out]
    exact ⟨false, rfl, ⟨fun h => (by cases h), fun h => absurd h.1 (by rw [HN.out]; exact HNF.out)⟩, (Below.refl _ _).alloc (Nat.le_refl _) _⟩
set_option maxRecDepth 100000 in
set_option maxHeartbeats 8000000 in
theorem right_k5 (k : Nat) (ih : RC k) (w : World) (di db : Int) (ds : ByteArray) (p : Option Addr) (n cap : Nat) (ps : List Dv) (hD : DvIs w (k + 1) [.int .i64 5, .int .i64 di, .int .u64 db, .string ds, .slice p n cap] (.mk 5 di db ds ps)) :
    Calls Tryd.prog 32 #[.agg #[.int .i64 5, .int .i64 di, .int .u64 db, .string ds, .slice p n cap]] w (FairPost (.mk 5 di db ds ps) w) := by
  have IH := Lib.hid ih
  have HX := trivial
  obtain ⟨hn, -, -, -, k1, k2⟩ := hD.top
  have HN : Hid (ps.length = n) := hn.symm
  clear hn ih
  obtain ⟨PP, hPP⟩ : ∃ PP, FairPost (.mk 5 di db ds ps) w = PP := ⟨_, rfl⟩
  rw [hPP]
  have HPP := Lib.hid hPP
  have HD := Lib.hid hD
  clear hPP hD
  by_cases hdi : di = 0
  · subst hdi
    by_cases hdb : db = 0
    · subst hdb
      by_cases hnn : n = 0
      · subst hnn
        by_cases hts : ds.size ≤ 65535
        · have hsz : ¬ (65535 : Int) < (ds.size : Int) := by omega
          have HF : Hid (FairV _ _ _ _ _) := (show FairV (5) 0 0 ds 0 from ⟨by omega, by omega, hts, by simp, by simp, by simp, by simp, by simp, by simp⟩)
          clear HX
          go_enter Tryd.func32, Tryd.ntmps32
          go_wp2_with fail
          go_loopw [7, 89] (fun u1 i wr => ∃ (j : Nat), i = .int .i64 (j : Nat) ∧ j ≤ 0 ∧ Hid (Below w.heap.size w wr) ∧ w.heap.size < wr.heap.size ∧ wr.cell? ⟨w.heap.size, 4, none⟩ = some (.slice p 0 cap) ∧ Hid (Fairs (ps.take j))) (fun _ i _ => 0 - (intOf i).toNat)
          case atStart => exact ⟨0, rfl, by omega, (Below.refl _ _).alloc (Nat.le_refl _) _, by simp, by go_simp, trivial⟩
          case round =>
            obtain ⟨j, rfl, hj, HBw, f3, f2, HS⟩ := hrel
            by_cases hlt : j < 0
            · exact absurd hlt (Nat.not_lt_zero _)
            · have hjn : j = 0 := by omega
              subst hjn
              have HS2 : Hid (Fairs ps) := by
                have h := HS.out
                rw [List.take_of_length_le (by rw [HN.out]; exact Nat.le_refl _)] at h
                exact h
              clear HS hlt hj
              go_wp2_with fail
              rw [← HPP.out]
              exact ⟨true, rfl, ⟨fun _ => ⟨by rw [HN.out]; exact HF.out, HS2.out⟩, fun _ => rfl⟩, HBw.out⟩
        · have hsz : (65535 : Int) < (ds.size : Int) := by omega
          clear HX
          have HNF : Hid (¬ FairV (5) 0 0 ds 0) := fun h => hts h.2.2.1
          go_enter Tryd.func32, Tryd.ntmps32
          go_wp2_with fail
          rw [← HPP.out]
          exact ⟨false, rfl, ⟨fun h => (by cases h), fun h => absurd h.1 (by rw [HN.out]; exact HNF.out)⟩, (Below.refl _ _).alloc (Nat.le_refl _) _⟩
      · have hb1 : ((n : Int) == 0) = false := by simp; omega
        have hb2 : ((n : Int) != 0) = true := by simp [bne, hb1]
        clear HX
        have HNF : Hid (¬ FairV (5) 0 0 ds n) := fun h => by have h4 := h.2.2.2.2.2.2.2.2; omega
        go_enter Tryd.func32, Tryd.ntmps32
        go_wp2_with fail
        rw [← HPP.out]
        exact ⟨false, rfl, ⟨fun h => (by cases h), fun h => absurd h.1 (by rw [HN.out]; exact HNF.out)⟩, (Below.refl _ _).alloc (Nat.le_refl _) _⟩
    · obtain ⟨hb1, hb2⟩ := int_ne hdb
      clear HX
      have HNF : Hid (¬ FairV (5) 0 db ds n) := fun h => by have h4 := h.2.2.2.2.1; omega
      go_enter Tryd.func32, Tryd.ntmps32
      go_wp2_with fail
      rw [← HPP.out]
      exact ⟨false, rfl, ⟨fun h => (by cases h), fun h => absurd h.1 (by rw [HN.out]; exact HNF.out)⟩, (Below.refl _ _).alloc (Nat.le_refl _) _⟩
  · obtain ⟨hb1, hb2⟩ := int_ne hdi
    clear HX
    have HNF : Hid (¬ FairV (5) di db ds n) := fun h => by have h4 := h.2.2.2.1; omega
    go_enter Tryd.func32, Tryd.ntmps32
    go_wp2_with fail
    rw [← HPP.out]
    exact ⟨false, rfl, ⟨fun h => (by cases h), fun h => absurd h.1 (by rw [HN.out]; exact HNF.out)⟩, (Below.refl _ _).alloc (Nat.le_refl _) _⟩
set_option maxRecDepth 100000 in
set_option maxHeartbeats 8000000 in
theorem right_k7 (k : Nat) (ih : RC k) (w : World) (di db : Int) (ds : ByteArray) (p : Option Addr) (n cap : Nat) (ps : List Dv) (hD : DvIs w (k + 1) [.int .i64 7, .int .i64 di, .int .u64 db, .string ds, .slice p n cap] (.mk 7 di db ds ps)) :
    Calls Tryd.prog 32 #[.agg #[.int .i64 7, .int .i64 di, .int .u64 db, .string ds, .slice p n cap]] w (FairPost (.mk 7 di db ds ps) w) := by
  have IH := Lib.hid ih
  have HX := trivial
  obtain ⟨hn, -, -, -, k1, k2⟩ := hD.top
  have HN : Hid (ps.length = n) := hn.symm
  clear hn ih
  obtain ⟨PP, hPP⟩ : ∃ PP, FairPost (.mk 7 di db ds ps) w = PP := ⟨_, rfl⟩
  rw [hPP]
  have HPP := Lib.hid hPP
  have HD := Lib.hid hD
  clear hPP hD
  by_cases hdi : di = 0
  · subst hdi
    by_cases hdb : db = 0
    · subst hdb
      by_cases hnn : n = 0
      · subst hnn
        by_cases hts : ds.size ≤ 65535
        · have hsz : ¬ (65535 : Int) < (ds.size : Int) := by omega
          have HF : Hid (FairV _ _ _ _ _) := (show FairV (7) 0 0 ds 0 from ⟨by omega, by omega, hts, by simp, by simp, by simp, by simp, by simp, by simp⟩)
          clear HX
          go_enter Tryd.func32, Tryd.ntmps32
          go_wp2_with fail
          go_loopw [7, 89] (fun u1 i wr => ∃ (j : Nat), i = .int .i64 (j : Nat) ∧ j ≤ 0 ∧ Hid (Below w.heap.size w wr) ∧ w.heap.size < wr.heap.size ∧ wr.cell? ⟨w.heap.size, 4, none⟩ = some (.slice p 0 cap) ∧ Hid (Fairs (ps.take j))) (fun _ i _ => 0 - (intOf i).toNat)
          case atStart => exact ⟨0, rfl, by omega, (Below.refl _ _).alloc (Nat.le_refl _) _, by simp, by go_simp, trivial⟩
          case round =>
            obtain ⟨j, rfl, hj, HBw, f3, f2, HS⟩ := hrel
            by_cases hlt : j < 0
            · exact absurd hlt (Nat.not_lt_zero _)
            · have hjn : j = 0 := by omega
              subst hjn
              have HS2 : Hid (Fairs ps) := by
                have h := HS.out
                rw [List.take_of_length_le (by rw [HN.out]; exact Nat.le_refl _)] at h
                exact h
              clear HS hlt hj
              go_wp2_with fail
              rw [← HPP.out]
              exact ⟨true, rfl, ⟨fun _ => ⟨by rw [HN.out]; exact HF.out, HS2.out⟩, fun _ => rfl⟩, HBw.out⟩
        · have hsz : (65535 : Int) < (ds.size : Int) := by omega
          clear HX
          have HNF : Hid (¬ FairV (7) 0 0 ds 0) := fun h => hts h.2.2.1
          go_enter Tryd.func32, Tryd.ntmps32
          go_wp2_with fail
          rw [← HPP.out]
          exact ⟨false, rfl, ⟨fun h => (by cases h), fun h => absurd h.1 (by rw [HN.out]; exact HNF.out)⟩, (Below.refl _ _).alloc (Nat.le_refl _) _⟩
      · have hb1 : ((n : Int) == 0) = false := by simp; omega
        have hb2 : ((n : Int) != 0) = true := by simp [bne, hb1]
        clear HX
        have HNF : Hid (¬ FairV (7) 0 0 ds n) := fun h => by have h4 := h.2.2.2.2.2.2.2.2; omega
        go_enter Tryd.func32, Tryd.ntmps32
        go_wp2_with fail
        rw [← HPP.out]
        exact ⟨false, rfl, ⟨fun h => (by cases h), fun h => absurd h.1 (by rw [HN.out]; exact HNF.out)⟩, (Below.refl _ _).alloc (Nat.le_refl _) _⟩
    · obtain ⟨hb1, hb2⟩ := int_ne hdb
      clear HX
      have HNF : Hid (¬ FairV (7) 0 db ds n) := fun h => by have h4 := h.2.2.2.2.1; omega
      go_enter Tryd.func32, Tryd.ntmps32
      go_wp2_with fail
      rw [← HPP.out]
      exact ⟨false, rfl, ⟨fun h => (by cases h), fun h => absurd h.1 (by rw [HN.out]; exact HNF.out)⟩, (Below.refl _ _).alloc (Nat.le_refl _) _⟩
  · obtain ⟨hb1, hb2⟩ := int_ne hdi
    clear HX
    have HNF : Hid (¬ FairV (7) di db ds n) := fun h => by have h4 := h.2.2.2.1; omega
    go_enter Tryd.func32, Tryd.ntmps32
    go_wp2_with fail
    rw [← HPP.out]
    exact ⟨false, rfl, ⟨fun h => (by cases h), fun h => absurd h.1 (by rw [HN.out]; exact HNF.out)⟩, (Below.refl _ _).alloc (Nat.le_refl _) _⟩
end Go.Proofs.YtmncpbfghabamaaDoor
