/- SHARE: right, a theorem a kind (out of the wire chapter) -/
import Derived.Test.YtincmegllckcjaaGreatDoorShareFitG
namespace Go.Proofs.YtincmegllckcjaaGreatDoor
open Go Go.RowKit

set_option maxRecDepth 100000 in
set_option maxHeartbeats 8000000 in
theorem right_k0 (k : Nat) (ih : RC k) (w : World) (di db : Int) (ds : ByteArray) (p : Option Addr) (n cap : Nat) (ps : List Dv) (hD : DvIs w (k + 1) [.int .i64 0, .int .i64 di, .int .u64 db, .string ds, .slice p n cap] (.mk 0 di db ds ps)) :
    Calls Tryz.prog 66 #[.agg #[.int .i64 0, .int .i64 di, .int .u64 db, .string ds, .slice p n cap]] w (FairPost (.mk 0 di db ds ps) w) := by
  have IH := Lib.hid ih
  have HX := trivial
  obtain ⟨hn, -, -, -, k1, k2⟩ := hD.top
  have HN : Hid (ps.length = n) := hn.symm
  clear hn ih
  obtain ⟨PP, hPP⟩ : ∃ PP, FairPost (.mk 0 di db ds ps) w = PP := ⟨_, rfl⟩
  rw [hPP]
  have HPP := Lib.hid hPP
  have HD := Lib.hid hD
  clear hPP hD
  by_cases hdi : di = 0
  · subst hdi
    by_cases hdb : db = 0
    · subst hdb
      by_cases hds : ds = ⟨#[]⟩
      · subst hds
        by_cases hnn : n = 0
        · subst hnn
          have HF : Hid (FairV _ _ _ _ _) := (show FairV (0) 0 0 ⟨#[]⟩ 0 from ⟨by omega, by omega, by decide, by simp, by simp, by simp, by simp, by simp, by simp⟩)
          clear HX
          go_enter Tryz.func66, Tryz.ntmps66
          go_wp2_with fail
          go_loopw [7, 89] (fun u1 i wr => ∃ (j : Nat), i = .int .i64 (j : Nat) ∧ j ≤ 0 ∧ Hid (Below w.heap.size w wr) ∧ w.heap.size < wr.heap.size ∧ wr.cell? ⟨w.heap.size, 4, none⟩ = some (.slice p 0 cap) ∧ Hid (Fairs (ps.take j))) (fun _ i _ => 0 - (intOf i).toNat)
          case atStart => exact ⟨0, rfl, by omega, (Below.refl _ _).alloc (Nat.le_refl _) _, by simp, by go_simp, trivial⟩
          case round =>
            obtain ⟨j, rfl, hj, HBw, f3, f2, HS⟩ := hrel
            by_cases hlt : j < 0
            · exact absurd hlt (Nat.not_lt_zero _)
            · have hjn : j = 0 := by omega
              subst hjn
              have HS2 : Hid (Fairs ps) := by
                have h := HS.out
                rw [List.take_of_length_le (by rw [HN.out]; exact Nat.le_refl _)] at h
                exact h
              clear HS hlt hj
              go_wp2_with fail
              rw [← HPP.out]
              exact ⟨true, rfl, ⟨fun _ => ⟨by rw [HN.out]; exact HF.out, HS2.out⟩, fun _ => rfl⟩, HBw.out⟩
        · have hb1 : ((n : Int) == 0) = false := by simp; omega
          have hb2 : ((n : Int) != 0) = true := by simp [bne, hb1]
          clear HX
          have HNF : Hid (¬ FairV (0) 0 0 ⟨#[]⟩ n) := fun h => by have h4 := h.2.2.2.2.2.2.2.2; omega
          go_enter Tryz.func66, Tryz.ntmps66
          go_wp2_with fail
          rw [← HPP.out]
          exact ⟨false, rfl, ⟨fun h => (by cases h), fun h => absurd h.1 (by rw [HN.out]; exact HNF.out)⟩, (Below.refl _ _).alloc (Nat.le_refl _) _⟩
      · obtain ⟨hb1, hb2, hb3⟩ := ds_ne hds
        clear HX
        have HNF : Hid (¬ FairV (0) 0 0 ds n) := fun h => by (have h4 := h.2.2.2.2.2.1; rcases h4 with h4 | h4 | h4 | h4 | h4; omega; omega; omega; omega; exact hds h4)
        go_enter Tryz.func66, Tryz.ntmps66
        go_wp2_with fail
        rw [← HPP.out]
        exact ⟨false, rfl, ⟨fun h => (by cases h), fun h => absurd h.1 (by rw [HN.out]; exact HNF.out)⟩, (Below.refl _ _).alloc (Nat.le_refl _) _⟩
    · obtain ⟨hb1, hb2⟩ := int_ne hdb
      clear HX
      have HNF : Hid (¬ FairV (0) 0 db ds n) := fun h => by have h4 := h.2.2.2.2.1; omega
      go_enter Tryz.func66, Tryz.ntmps66
      go_wp2_with fail
      rw [← HPP.out]
      exact ⟨false, rfl, ⟨fun h => (by cases h), fun h => absurd h.1 (by rw [HN.out]; exact HNF.out)⟩, (Below.refl _ _).alloc (Nat.le_refl _) _⟩
  · obtain ⟨hb1, hb2⟩ := int_ne hdi
    clear HX
    have HNF : Hid (¬ FairV (0) di db ds n) := fun h => by have h4 := h.2.2.2.1; omega
    go_enter Tryz.func66, Tryz.ntmps66
    go_wp2_with fail
    rw [← HPP.out]
    exact ⟨false, rfl, ⟨fun h => (by cases h), fun h => absurd h.1 (by rw [HN.out]; exact HNF.out)⟩, (Below.refl _ _).alloc (Nat.le_refl _) _⟩
set_option maxRecDepth 100000 in
set_option maxHeartbeats 8000000 in
theorem right_k12 (k : Nat) (ih : RC k) (w : World) (di db : Int) (ds : ByteArray) (p : Option Addr) (n cap : Nat) (ps : List Dv) (hD : DvIs w (k + 1) [.int .i64 12, .int .i64 di, .int .u64 db, .string ds, .slice p n cap] (.mk 12 di db ds ps)) :
    Calls Tryz.prog 66 #[.agg #[.int .i64 12, .int .i64 di, .int .u64 db, .string ds, .slice p n cap]] w (FairPost (.mk 12 di db ds ps) w) := by
  have IH := Lib.hid ih
  have HX := trivial
  obtain ⟨hn, -, -, -, k1, k2⟩ := hD.top
  have HN : Hid (ps.length = n) := hn.symm
  clear hn ih
  obtain ⟨PP, hPP⟩ : ∃ PP, FairPost (.mk 12 di db ds ps) w = PP := ⟨_, rfl⟩
  rw [hPP]
  have HPP := Lib.hid hPP
  have HD := Lib.hid hD
  clear hPP hD
  by_cases hdi : di = 0
  · subst hdi
    by_cases hdb : db = 0
    · subst hdb
      by_cases hds : ds = ⟨#[]⟩
      · subst hds
        by_cases hnn : n = 0
        · subst hnn
          have HF : Hid (FairV _ _ _ _ _) := (show FairV (12) 0 0 ⟨#[]⟩ 0 from ⟨by omega, by omega, by decide, by simp, by simp, by simp, by simp, by simp, by simp⟩)
          clear HX
          go_enter Tryz.func66, Tryz.ntmps66
          go_wp2_with fail
          go_loopw [7, 89] (fun u1 i wr => ∃ (j : Nat), i = .int .i64 (j : Nat) ∧ j ≤ 0 ∧ Hid (Below w.heap.size w wr) ∧ w.heap.size < wr.heap.size ∧ wr.cell? ⟨w.heap.size, 4, none⟩ = some (.slice p 0 cap) ∧ Hid (Fairs (ps.take j))) (fun _ i _ => 0 - (intOf i).toNat)
          case atStart => exact ⟨0, rfl, by omega, (Below.refl _ _).alloc (Nat.le_refl _) _, by simp, by go_simp, trivial⟩
          case round =>
            obtain ⟨j, rfl, hj, HBw, f3, f2, HS⟩ := hrel
            by_cases hlt : j < 0
            · exact absurd hlt (Nat.not_lt_zero _)
            · have hjn : j = 0 := by omega
              subst hjn
              have HS2 : Hid (Fairs ps) := by
                have h := HS.out
                rw [List.take_of_length_le (by rw [HN.out]; exact Nat.le_refl _)] at h
                exact h
              clear HS hlt hj
              go_wp2_with fail
              rw [← HPP.out]
              exact ⟨true, rfl, ⟨fun _ => ⟨by rw [HN.out]; exact HF.out, HS2.out⟩, fun _ => rfl⟩, HBw.out⟩
        · have hb1 : ((n : Int) == 0) = false := by simp; omega
          have hb2 : ((n : Int) != 0) = true := by simp [bne, hb1]
          clear HX
          have HNF : Hid (¬ FairV (12) 0 0 ⟨#[]⟩ n) := fun h => by have h4 := h.2.2.2.2.2.2.2.2; omega
          go_enter Tryz.func66, Tryz.ntmps66
          go_wp2_with fail
          rw [← HPP.out]
          exact ⟨false, rfl, ⟨fun h => (by cases h), fun h => absurd h.1 (by rw [HN.out]; exact HNF.out)⟩, (Below.refl _ _).alloc (Nat.le_refl _) _⟩
      · obtain ⟨hb1, hb2, hb3⟩ := ds_ne hds
        clear HX
        have HNF : Hid (¬ FairV (12) 0 0 ds n) := fun h => by (have h4 := h.2.2.2.2.2.1; rcases h4 with h4 | h4 | h4 | h4 | h4; omega; omega; omega; omega; exact hds h4)
        go_enter Tryz.func66, Tryz.ntmps66
        go_wp2_with fail
        rw [← HPP.out]
        exact ⟨false, rfl, ⟨fun h => (by cases h), fun h => absurd h.1 (by rw [HN.out]; exact HNF.out)⟩, (Below.refl _ _).alloc (Nat.le_refl _) _⟩
    · obtain ⟨hb1, hb2⟩ := int_ne hdb
      clear HX
      have HNF : Hid (¬ FairV (12) 0 db ds n) := fun h => by have h4 := h.2.2.2.2.1; omega
      go_enter Tryz.func66, Tryz.ntmps66
      go_wp2_with fail
      rw [← HPP.out]
      exact ⟨false, rfl, ⟨fun h => (by cases h), fun h => absurd h.1 (by rw [HN.out]; exact HNF.out)⟩, (Below.refl _ _).alloc (Nat.le_refl _) _⟩
  · obtain ⟨hb1, hb2⟩ := int_ne hdi
    clear HX
    have HNF : Hid (¬ FairV (12) di db ds n) := fun h => by have h4 := h.2.2.2.1; omega
    go_enter Tryz.func66, Tryz.ntmps66
    go_wp2_with fail
    rw [← HPP.out]
    exact ⟨false, rfl, ⟨fun h => (by cases h), fun h => absurd h.1 (by rw [HN.out]; exact HNF.out)⟩, (Below.refl _ _).alloc (Nat.le_refl _) _⟩
set_option maxRecDepth 100000 in
set_option maxHeartbeats 8000000 in
theorem right_k13 (k : Nat) (ih : RC k) (w : World) (di db : Int) (ds : ByteArray) (p : Option Addr) (n cap : Nat) (ps : List Dv) (hD : DvIs w (k + 1) [.int .i64 13, .int .i64 di, .int .u64 db, .string ds, .slice p n cap] (.mk 13 di db ds ps)) :
    Calls Tryz.prog 66 #[.agg #[.int .i64 13, .int .i64 di, .int .u64 db, .string ds, .slice p n cap]] w (FairPost (.mk 13 di db ds ps) w) := by
  have IH := Lib.hid ih
  have HX := trivial
  obtain ⟨hn, -, -, -, k1, k2⟩ := hD.top
  have HN : Hid (ps.length = n) := hn.symm
  clear hn ih
  obtain ⟨PP, hPP⟩ : ∃ PP, FairPost (.mk 13 di db ds ps) w = PP := ⟨_, rfl⟩
  rw [hPP]
  have HPP := Lib.hid hPP
  have HD := Lib.hid hD
  clear hPP hD
  by_cases hdi : di = 0
  · subst hdi
    by_cases hdb : db = 0
    · subst hdb
      by_cases hds : ds = ⟨#[]⟩
      · subst hds
        by_cases hnn : n = 0
        · subst hnn
          have HF : Hid (FairV _ _ _ _ _) := (show FairV (13) 0 0 ⟨#[]⟩ 0 from ⟨by omega, by omega, by decide, by simp, by simp, by simp, by simp, by simp, by simp⟩)
          clear HX
          go_enter Tryz.func66, Tryz.ntmps66
          go_wp2_with fail
          go_loopw [7, 89] (fun u1 i wr => ∃ (j : Nat), i = .int .i64 (j : Nat) ∧ j ≤ 0 ∧ Hid (Below w.heap.size w wr) ∧ w.heap.size < wr.heap.size ∧ wr.cell? ⟨w.heap.size, 4, none⟩ = some (.slice p 0 cap) ∧ Hid (Fairs (ps.take j))) (fun _ i _ => 0 - (intOf i).toNat)
          case atStart => exact ⟨0, rfl, by omega, (Below.refl _ _).alloc (Nat.le_refl _) _, by simp, by go_simp, trivial⟩
          case round =>
            obtain ⟨j, rfl, hj, HBw, f3, f2, HS⟩ := hrel
            by_cases hlt : j < 0
            · exact absurd hlt (Nat.not_lt_zero _)
            · have hjn : j = 0 := by omega
              subst hjn
              have HS2 : Hid (Fairs ps) := by
                have h := HS.out
                rw [List.take_of_length_le (by rw [HN.out]; exact Nat.le_refl _)] at h
                exact h
              clear HS hlt hj
              go_wp2_with fail
              rw [← HPP.out]
              exact ⟨true, rfl, ⟨fun _ => ⟨by rw [HN.out]; exact HF.out, HS2.out⟩, fun _ => rfl⟩, HBw.out⟩
        · have hb1 : ((n : Int) == 0) = false := by simp; omega
          have hb2 : ((n : Int) != 0) = true := by simp [bne, hb1]
          clear HX
          have HNF : Hid (¬ FairV (13) 0 0 ⟨#[]⟩ n) := fun h => by have h4 := h.2.2.2.2.2.2.2.2; omega
          go_enter Tryz.func66, Tryz.ntmps66
          go_wp2_with fail
          rw [← HPP.out]
          exact ⟨false, rfl, ⟨fun h => (by cases h), fun h => absurd h.1 (by rw [HN.out]; exact HNF.out)⟩, (Below.refl _ _).alloc (Nat.le_refl _) _⟩
      · obtain ⟨hb1, hb2, hb3⟩ := ds_ne hds
        clear HX
        have HNF : Hid (¬ FairV (13) 0 0 ds n) := fun h => by (have h4 := h.2.2.2.2.2.1; rcases h4 with h4 | h4 | h4 | h4 | h4; omega; omega; omega; omega; exact hds h4)
        go_enter Tryz.func66, Tryz.ntmps66
        go_wp2_with fail
        rw [← HPP.out]
        exact ⟨false, rfl, ⟨fun h => (by cases h), fun h => absurd h.1 (by rw [HN.out]; exact HNF.out)⟩, (Below.refl _ _).alloc (Nat.le_refl _) _⟩
    · obtain ⟨hb1, hb2⟩ := int_ne hdb
      clear HX
      have HNF : Hid (¬ FairV (13) 0 db ds n) := fun h => by have h4 := h.2.2.2.2.1; omega
      go_enter Tryz.func66, Tryz.ntmps66
      go_wp2_with fail
      rw [← HPP.out]
      exact ⟨false, rfl, ⟨fun h => (by cases h), fun h => absurd h.1 (by rw [HN.out]; exact HNF.out)⟩, (Below.refl _ _).alloc (Nat.le_refl _) _⟩
  · obtain ⟨hb1, hb2⟩ := int_ne hdi
    clear HX
    have HNF : Hid (¬ FairV (13) di db ds n) := fun h => by have h4 := h.2.2.2.1; omega
    go_enter Tryz.func66, Tryz.ntmps66
    go_wp2_with fail
    rw [← HPP.out]
    exact ⟨false, rfl, ⟨fun h => (by cases h), fun h => absurd h.1 (by rw [HN.out]; exact HNF.out)⟩, (Below.refl _ _).alloc (Nat.le_refl _) _⟩
set_option maxRecDepth 100000 in
set_option maxHeartbeats 8000000 in
theorem right_k1 (k : Nat) (ih : RC k) (w : World) (di db : Int) (ds : ByteArray) (p : Option Addr) (n cap : Nat) (ps : List Dv) (hD : DvIs w (k + 1) [.int .i64 1, .int .i64 di, .int .u64 db, .string ds, .slice p n cap] (.mk 1 di db ds ps)) :
    Calls Tryz.prog 66 #[.agg #[.int .i64 1, .int .i64 di, .int .u64 db, .string ds, .slice p n cap]] w (FairPost (.mk 1 di db ds ps) w) := by
  have IH := Lib.hid ih
  have HX := trivial
  obtain ⟨hn, -, -, -, k1, k2⟩ := hD.top
  have HN : Hid (ps.length = n) := hn.symm
  clear hn ih
  obtain ⟨PP, hPP⟩ : ∃ PP, FairPost (.mk 1 di db ds ps) w = PP := ⟨_, rfl⟩
  rw [hPP]
  have HPP := Lib.hid hPP
  have HD := Lib.hid hD
  clear hPP hD
  by_cases hdb : db = 0
  · subst hdb
    by_cases hds : ds = ⟨#[]⟩
    · subst hds
      by_cases hnn : n = 0
      · subst hnn
        have HF : Hid (FairV _ _ _ _ _) := (show FairV (1) di 0 ⟨#[]⟩ 0 from ⟨by omega, by omega, by decide, by simp, by simp, by simp, by simp, by simp, by simp⟩)
        clear HX
        go_enter Tryz.func66, Tryz.ntmps66
        go_wp2_with fail
        go_loopw [7, 89] (fun u1 i wr => ∃ (j : Nat), i = .int .i64 (j : Nat) ∧ j ≤ 0 ∧ Hid (Below w.heap.size w wr) ∧ w.heap.size < wr.heap.size ∧ wr.cell? ⟨w.heap.size, 4, none⟩ = some (.slice p 0 cap) ∧ Hid (Fairs (ps.take j))) (fun _ i _ => 0 - (intOf i).toNat)
        case atStart => exact ⟨0, rfl, by omega, (Below.refl _ _).alloc (Nat.le_refl _) _, by simp, by go_simp, trivial⟩
        case round =>
          obtain ⟨j, rfl, hj, HBw, f3, f2, HS⟩ := hrel
          by_cases hlt : j < 0
          · exact absurd hlt (Nat.not_lt_zero _)
          · have hjn : j = 0 := by omega
            subst hjn
            have HS2 : Hid (Fairs ps) := by
              have h := HS.out
              rw [List.take_of_length_le (by rw [HN.out]; exact Nat.le_refl _)] at h
              exact h
            clear HS hlt hj
            go_wp2_with fail
            rw [← HPP.out]
            exact ⟨true, rfl, ⟨fun _ => ⟨by rw [HN.out]; exact HF.out, HS2.out⟩, fun _ => rfl⟩, HBw.out⟩
      · have hb1 : ((n : Int) == 0) = false := by simp; omega
        have hb2 : ((n : Int) != 0) = true := by simp [bne, hb1]
        clear HX
        have HNF : Hid (¬ FairV (1) di 0 ⟨#[]⟩ n) := fun h => by have h4 := h.2.2.2.2.2.2.2.2; omega
        go_enter Tryz.func66, Tryz.ntmps66
        go_wp2_with fail
        rw [← HPP.out]
        exact ⟨false, rfl, ⟨fun h => (by cases h), fun h => absurd h.1 (by rw [HN.out]; exact HNF.out)⟩, (Below.refl _ _).alloc (Nat.le_refl _) _⟩
    · obtain ⟨hb1, hb2, hb3⟩ := ds_ne hds
      clear HX
      have HNF : Hid (¬ FairV (1) di 0 ds n) := fun h => by (have h4 := h.2.2.2.2.2.1; rcases h4 with h4 | h4 | h4 | h4 | h4; omega; omega; omega; omega; exact hds h4)
      go_enter Tryz.func66, Tryz.ntmps66
      go_wp2_with fail
      rw [← HPP.out]
      exact ⟨false, rfl, ⟨fun h => (by cases h), fun h => absurd h.1 (by rw [HN.out]; exact HNF.out)⟩, (Below.refl _ _).alloc (Nat.le_refl _) _⟩
  · obtain ⟨hb1, hb2⟩ := int_ne hdb
    clear HX
    have HNF : Hid (¬ FairV (1) di db ds n) := fun h => by have h4 := h.2.2.2.2.1; omega
    go_enter Tryz.func66, Tryz.ntmps66
    go_wp2_with fail
    rw [← HPP.out]
    exact ⟨false, rfl, ⟨fun h => (by cases h), fun h => absurd h.1 (by rw [HN.out]; exact HNF.out)⟩, (Below.refl _ _).alloc (Nat.le_refl _) _⟩
set_option maxRecDepth 100000 in
set_option maxHeartbeats 8000000 in
theorem right_k2 (k : Nat) (ih : RC k) (w : World) (di db : Int) (ds : ByteArray) (p : Option Addr) (n cap : Nat) (ps : List Dv) (hD : DvIs w (k + 1) [.int .i64 2, .int .i64 di, .int .u64 db, .string ds, .slice p n cap] (.mk 2 di db ds ps)) :
    Calls Tryz.prog 66 #[.agg #[.int .i64 2, .int .i64 di, .int .u64 db, .string ds, .slice p n cap]] w (FairPost (.mk 2 di db ds ps) w) := by
  have IH := Lib.hid ih
  have HX := trivial
  obtain ⟨hn, -, -, -, k1, k2⟩ := hD.top
  have HN : Hid (ps.length = n) := hn.symm
  clear hn ih
  obtain ⟨PP, hPP⟩ : ∃ PP, FairPost (.mk 2 di db ds ps) w = PP := ⟨_, rfl⟩
  rw [hPP]
  have HPP := Lib.hid hPP
  have HD := Lib.hid hD
  clear hPP hD
  by_cases hdb : db = 0
  · subst hdb
    by_cases hds : ds = ⟨#[]⟩
    · subst hds
      by_cases hnn : n = 0
      · subst hnn
        have HF : Hid (FairV _ _ _ _ _) := (show FairV (2) di 0 ⟨#[]⟩ 0 from ⟨by omega, by omega, by decide, by simp, by simp, by simp, by simp, by simp, by simp⟩)
        clear HX
        go_enter Tryz.func66, Tryz.ntmps66
        go_wp2_with fail
        go_loopw [7, 89] (fun u1 i wr => ∃ (j : Nat), i = .int .i64 (j : Nat) ∧ j ≤ 0 ∧ Hid (Below w.heap.size w wr) ∧ w.heap.size < wr.heap.size ∧ wr.cell? ⟨w.heap.size, 4, none⟩ = some (.slice p 0 cap) ∧ Hid (Fairs (ps.take j))) (fun _ i _ => 0 - (intOf i).toNat)
        case atStart => exact ⟨0, rfl, by omega, (Below.refl _ _).alloc (Nat.le_refl _) _, by simp, by go_simp, trivial⟩
        case round =>
          obtain ⟨j, rfl, hj, HBw, f3, f2, HS⟩ := hrel
          by_cases hlt : j < 0
          · exact absurd hlt (Nat.not_lt_zero _)
          · have hjn : j = 0 := by omega
            subst hjn
            have HS2 : Hid (Fairs ps) := by
              have h := HS.out
              rw [List.take_of_length_le (by rw [HN.out]; exact Nat.le_refl _)] at h
              exact h
            clear HS hlt hj
            go_wp2_with fail
            rw [← HPP.out]
            exact ⟨true, rfl, ⟨fun _ => ⟨by rw [HN.out]; exact HF.out, HS2.out⟩, fun _ => rfl⟩, HBw.out⟩
      · have hb1 : ((n : Int) == 0) = false := by simp; omega
        have hb2 : ((n : Int) != 0) = true := by simp [bne, hb1]
        clear HX
        have HNF : Hid (¬ FairV (2) di 0 ⟨#[]⟩ n) := fun h => by have h4 := h.2.2.2.2.2.2.2.2; omega
        go_enter Tryz.func66, Tryz.ntmps66
        go_wp2_with fail
        rw [← HPP.out]
        exact ⟨false, rfl, ⟨fun h => (by cases h), fun h => absurd h.1 (by rw [HN.out]; exact HNF.out)⟩, (Below.refl _ _).alloc (Nat.le_refl _) _⟩
    · obtain ⟨hb1, hb2, hb3⟩ := ds_ne hds
      clear HX
      have HNF : Hid (¬ FairV (2) di 0 ds n) := fun h => by (have h4 := h.2.2.2.2.2.1; rcases h4 with h4 | h4 | h4 | h4 | h4; omega; omega; omega; omega; exact hds h4)
      go_enter Tryz.func66, Tryz.ntmps66
      go_wp2_with fail
      rw [← HPP.out]
      exact ⟨false, rfl, ⟨fun h => (by cases h), fun h => absurd h.1 (by rw [HN.out]; exact HNF.out)⟩, (Below.refl _ _).alloc (Nat.le_refl _) _⟩
  · obtain ⟨hb1, hb2⟩ := int_ne hdb
    clear HX
    have HNF : Hid (¬ FairV (2) di db ds n) := fun h => by have h4 := h.2.2.2.2.1; omega
    go_enter Tryz.func66, Tryz.ntmps66
    go_wp2_with fail
    rw [← HPP.out]
    exact ⟨false, rfl, ⟨fun h => (by cases h), fun h => absurd h.1 (by rw [HN.out]; exact HNF.out)⟩, (Below.refl _ _).alloc (Nat.le_refl _) _⟩
set_option maxRecDepth 100000 in
set_option maxHeartbeats 8000000 in
theorem right_k6 (k : Nat) (ih : RC k) (w : World) (di db : Int) (ds : ByteArray) (p : Option Addr) (n cap : Nat) (ps : List Dv) (hD : DvIs w (k + 1) [.int .i64 6, .int .i64 di, .int .u64 db, .string ds, .slice p n cap] (.mk 6 di db ds ps)) :
    Calls Tryz.prog 66 #[.agg #[.int .i64 6, .int .i64 di, .int .u64 db, .string ds, .slice p n cap]] w (FairPost (.mk 6 di db ds ps) w) := by
  have IH := Lib.hid ih
  have HX := trivial
  obtain ⟨hn, -, -, -, k1, k2⟩ := hD.top
  have HN : Hid (ps.length = n) := hn.symm
  clear hn ih
  obtain ⟨PP, hPP⟩ : ∃ PP, FairPost (.mk 6 di db ds ps) w = PP := ⟨_, rfl⟩
  rw [hPP]
  have HPP := Lib.hid hPP
  have HD := Lib.hid hD
  clear hPP hD
  by_cases hpre : di = 0 ∨ di = 1
  · have hd0 : (di == 0) = false ∨ di = 0 := by (by_cases h : di = 0; exact .inr h; exact .inl (by simpa using h))
    rcases hpre with rfl | rfl
    · have hpre : (0 : Int) = 0 ∨ (0 : Int) = 1 := by omega
      clear hd0
      by_cases hdb : db = 0
      · subst hdb
        by_cases hds : ds = ⟨#[]⟩
        · subst hds
          by_cases hnn : n = 0
          · subst hnn
            have HF : Hid (FairV _ _ _ _ _) := (show FairV (6) 0 0 ⟨#[]⟩ 0 from ⟨by omega, by omega, by decide, by simp, by simp, by simp, fun _ => hpre, by simp, by simp⟩)
            clear HX
            go_enter Tryz.func66, Tryz.ntmps66
            go_wp2_with fail
            go_loopw [7, 89] (fun u1 i wr => ∃ (j : Nat), i = .int .i64 (j : Nat) ∧ j ≤ 0 ∧ Hid (Below w.heap.size w wr) ∧ w.heap.size < wr.heap.size ∧ wr.cell? ⟨w.heap.size, 4, none⟩ = some (.slice p 0 cap) ∧ Hid (Fairs (ps.take j))) (fun _ i _ => 0 - (intOf i).toNat)
            case atStart => exact ⟨0, rfl, by omega, (Below.refl _ _).alloc (Nat.le_refl _) _, by simp, by go_simp, trivial⟩
            case round =>
              obtain ⟨j, rfl, hj, HBw, f3, f2, HS⟩ := hrel
              by_cases hlt : j < 0
              · exact absurd hlt (Nat.not_lt_zero _)
              · have hjn : j = 0 := by omega
                subst hjn
                have HS2 : Hid (Fairs ps) := by
                  have h := HS.out
                  rw [List.take_of_length_le (by rw [HN.out]; exact Nat.le_refl _)] at h
                  exact h
                clear HS hlt hj
                go_wp2_with fail
                rw [← HPP.out]
                exact ⟨true, rfl, ⟨fun _ => ⟨by rw [HN.out]; exact HF.out, HS2.out⟩, fun _ => rfl⟩, HBw.out⟩
          · have hb1 : ((n : Int) == 0) = false := by simp; omega
            have hb2 : ((n : Int) != 0) = true := by simp [bne, hb1]
            clear HX
            have HNF : Hid (¬ FairV (6) 0 0 ⟨#[]⟩ n) := fun h => by have h4 := h.2.2.2.2.2.2.2.2; omega
            go_enter Tryz.func66, Tryz.ntmps66
            go_wp2_with fail
            rw [← HPP.out]
            exact ⟨false, rfl, ⟨fun h => (by cases h), fun h => absurd h.1 (by rw [HN.out]; exact HNF.out)⟩, (Below.refl _ _).alloc (Nat.le_refl _) _⟩
        · obtain ⟨hb1, hb2, hb3⟩ := ds_ne hds
          clear HX
          have HNF : Hid (¬ FairV (6) 0 0 ds n) := fun h => by (have h4 := h.2.2.2.2.2.1; rcases h4 with h4 | h4 | h4 | h4 | h4; omega; omega; omega; omega; exact hds h4)
          go_enter Tryz.func66, Tryz.ntmps66
          go_wp2_with fail
          rw [← HPP.out]
          exact ⟨false, rfl, ⟨fun h => (by cases h), fun h => absurd h.1 (by rw [HN.out]; exact HNF.out)⟩, (Below.refl _ _).alloc (Nat.le_refl _) _⟩
      · obtain ⟨hb1, hb2⟩ := int_ne hdb
        clear HX
        have HNF : Hid (¬ FairV (6) 0 db ds n) := fun h => by have h4 := h.2.2.2.2.1; omega
        go_enter Tryz.func66, Tryz.ntmps66
        go_wp2_with fail
        rw [← HPP.out]
        exact ⟨false, rfl, ⟨fun h => (by cases h), fun h => absurd h.1 (by rw [HN.out]; exact HNF.out)⟩, (Below.refl _ _).alloc (Nat.le_refl _) _⟩
    · have hpre : (1 : Int) = 0 ∨ (1 : Int) = 1 := by omega
      clear hd0
      by_cases hdb : db = 0
      · subst hdb
        by_cases hds : ds = ⟨#[]⟩
        · subst hds
          by_cases hnn : n = 0
          · subst hnn
            have HF : Hid (FairV _ _ _ _ _) := (show FairV (6) 1 0 ⟨#[]⟩ 0 from ⟨by omega, by omega, by decide, by simp, by simp, by simp, fun _ => hpre, by simp, by simp⟩)
            clear HX
            go_enter Tryz.func66, Tryz.ntmps66
            go_wp2_with fail
            go_loopw [7, 89] (fun u1 i wr => ∃ (j : Nat), i = .int .i64 (j : Nat) ∧ j ≤ 0 ∧ Hid (Below w.heap.size w wr) ∧ w.heap.size < wr.heap.size ∧ wr.cell? ⟨w.heap.size, 4, none⟩ = some (.slice p 0 cap) ∧ Hid (Fairs (ps.take j))) (fun _ i _ => 0 - (intOf i).toNat)
            case atStart => exact ⟨0, rfl, by omega, (Below.refl _ _).alloc (Nat.le_refl _) _, by simp, by go_simp, trivial⟩
            case round =>
              obtain ⟨j, rfl, hj, HBw, f3, f2, HS⟩ := hrel
              by_cases hlt : j < 0
              · exact absurd hlt (Nat.not_lt_zero _)
              · have hjn : j = 0 := by omega
                subst hjn
                have HS2 : Hid (Fairs ps) := by
                  have h := HS.out
                  rw [List.take_of_length_le (by rw [HN.out]; exact Nat.le_refl _)] at h
                  exact h
                clear HS hlt hj
                go_wp2_with fail
                rw [← HPP.out]
                exact ⟨true, rfl, ⟨fun _ => ⟨by rw [HN.out]; exact HF.out, HS2.out⟩, fun _ => rfl⟩, HBw.out⟩
          · have hb1 : ((n : Int) == 0) = false := by simp; omega
            have hb2 : ((n : Int) != 0) = true := by simp [bne, hb1]
            clear HX
            have HNF : Hid (¬ FairV (6) 1 0 ⟨#[]⟩ n) := fun h => by have h4 := h.2.2.2.2.2.2.2.2; omega
            go_enter Tryz.func66, Tryz.ntmps66
            go_wp2_with fail
            rw [← HPP.out]
            exact ⟨false, rfl, ⟨fun h => (by cases h), fun h => absurd h.1 (by rw [HN.out]; exact HNF.out)⟩, (Below.refl _ _).alloc (Nat.le_refl _) _⟩
        · obtain ⟨hb1, hb2, hb3⟩ := ds_ne hds
          clear HX
          have HNF : Hid (¬ FairV (6) 1 0 ds n) := fun h => by (have h4 := h.2.2.2.2.2.1; rcases h4 with h4 | h4 | h4 | h4 | h4; omega; omega; omega; omega; exact hds h4)
          go_enter Tryz.func66, Tryz.ntmps66
          go_wp2_with fail
          rw [← HPP.out]
          exact ⟨false, rfl, ⟨fun h => (by cases h), fun h => absurd h.1 (by rw [HN.out]; exact HNF.out)⟩, (Below.refl _ _).alloc (Nat.le_refl _) _⟩
      · obtain ⟨hb1, hb2⟩ := int_ne hdb
        clear HX
        have HNF : Hid (¬ FairV (6) 1 db ds n) := fun h => by have h4 := h.2.2.2.2.1; omega
        go_enter Tryz.func66, Tryz.ntmps66
        go_wp2_with fail
        rw [← HPP.out]
        exact ⟨false, rfl, ⟨fun h => (by cases h), fun h => absurd h.1 (by rw [HN.out]; exact HNF.out)⟩, (Below.refl _ _).alloc (Nat.le_refl _) _⟩
  · have hn0 : di ≠ 0 := by omega
    have hn1 : di ≠ 1 := by omega
    have hb0 := int_ne hn0
    obtain ⟨hb1, hb2⟩ := hb0
    have hb3 : (di == 1) = false := by simpa using hn1
    have hb4 : (di != 1) = true := by simp [bne, hb3]
    clear HX
    have HNF : Hid (¬ FairV (6) di db ds n) := fun h => hpre (h.2.2.2.2.2.2.1 rfl)
    go_enter Tryz.func66, Tryz.ntmps66
    go_wp2_with fail
    rw [← HPP.out]
    exact ⟨false, rfl, ⟨fun h => (by cases h), fun h => absurd h.1 (by rw [HN.out]; exact HNF.out)⟩, (Below.refl _ _).alloc (Nat.le_refl _) _⟩
end Go.Proofs.YtincmegllckcjaaGreatDoor
