/- SHARE: right, a theorem a kind (out of the wire chapter) -/
import Derived.Test.YtincmegllckcjaaGreatDoorShareFitG
namespace Go.Proofs.YtincmegllckcjaaGreatDoor
open Go Go.RowKit

set_option maxRecDepth 100000 in
set_option maxHeartbeats 8000000 in
theorem right_k8 (k : Nat) (ih : RC k) (w : World) (di db : Int) (ds : ByteArray) (p : Option Addr) (n cap : Nat) (ps : List Dv) (hD : DvIs w (k + 1) [.int .i64 8, .int .i64 di, .int .u64 db, .string ds, .slice p n cap] (.mk 8 di db ds ps)) :
    Calls Tryz.prog 66 #[.agg #[.int .i64 8, .int .i64 di, .int .u64 db, .string ds, .slice p n cap]] w (FairPost (.mk 8 di db ds ps) w) := by
  have IH := Lib.hid ih
  have HX := trivial
  obtain ⟨hn, -, -, -, k1, k2⟩ := hD.top
  have HN : Hid (ps.length = n) := hn.symm
  clear hn ih
  obtain ⟨PP, hPP⟩ : ∃ PP, FairPost (.mk 8 di db ds ps) w = PP := ⟨_, rfl⟩
  rw [hPP]
  have HPP := Lib.hid hPP
  have HD := Lib.hid hD
  clear hPP hD
  by_cases hdi : di = 0
  · subst hdi
    by_cases hdb : db = 0
    · subst hdb
      by_cases hds : ds = ⟨#[]⟩
      · subst hds
        have HF : Hid (FairV _ _ _ _ _) := (show FairV (8) 0 0 ⟨#[]⟩ n from ⟨by omega, by omega, by decide, by simp, by simp, by simp, by simp, by simp, by simp⟩)
        clear HX
        go_enter Tryz.func66, Tryz.ntmps66
        go_wp2_with fail
        go_loopw [7, 89] (fun u1 i wr => ∃ (j : Nat), i = .int .i64 (j : Nat) ∧ j ≤ n ∧ Hid (Below w.heap.size w wr) ∧ w.heap.size < wr.heap.size ∧ wr.cell? ⟨w.heap.size, 4, none⟩ = some (.slice p n cap) ∧ Hid (Fairs (ps.take j))) (fun _ i _ => n - (intOf i).toNat)
        case atStart => exact ⟨0, rfl, by omega, (Below.refl _ _).alloc (Nat.le_refl _) _, by simp, by go_simp, trivial⟩
        case round =>
          obtain ⟨j, rfl, hj, HBw, f3, f2, HS⟩ := hrel
          by_cases hlt : j < n
          · obtain ⟨t, ht⟩ : ∃ t, ps[j]? = some t := ⟨_, List.getElem?_eq_getElem (by rw [HN.out]; exact hlt)⟩
            obtain ⟨b, o, kd', di', db', ds', q, m, c, ps', rfl, hbl, rfl, d0, d1, d2, d3, d4, hP⟩ := (HD.out.below HBw.out).part ht
            have HT := Lib.hid (fairs_next ht)
            have CX : Hid (Calls Tryz.prog 66 #[.agg #[.int .i64 kd', .int .i64 di', .int .u64 db', .string ds', .slice q m c]] wr (FairPost (.mk kd' di' db' ds' ps') wr)) := IH.out wr kd' di' db' ds' q m c ps' hP
            have g1 : (j : Int) < (n : Int) := by omega
            clear hP ht
            go_wp2_with fail
            refine CX.out.mono ?_
            rintro r' W ⟨b9, rfl, hiff, hb2⟩
            have HB2 := Lib.hid (HBw.out.trans (hb2.mono (Nat.le_of_lt f3)))
            have hs2 := hb2.size
            have f2' := (hb2.cell f3).trans f2
            clear hb2 d0 d1 d2 d3 d4 f2
            cases b9 with
            | true =>
              have HS2 : Hid (Fairs (ps.take (j + 1))) := HT.out.1.2 ⟨HS.out, hiff.1 rfl⟩
              clear hiff
              go_wp2_with fail
              go_roundw
              case rel => exact ⟨j + 1, by go_num, by omega, HB2.out, by omega, f2', HS2.out⟩
              case measure => simp [intOf]; omega
            | false =>
              have HNF : Hid (¬ Fairs ps) := fun h => absurd (hiff.2 (HT.out.2 h)) (by decide)
              clear hiff
              go_wp2_with fail
              rw [← HPP.out]
              exact ⟨false, rfl, ⟨fun h => (by cases h), fun h => absurd h.2 HNF.out⟩, HB2.out⟩
          · have hjn : j = n := by omega
            subst hjn
            have HS2 : Hid (Fairs ps) := by
              have h := HS.out
              rw [List.take_of_length_le (by rw [HN.out]; exact Nat.le_refl _)] at h
              exact h
            clear HS hlt hj
            go_wp2_with fail
            rw [← HPP.out]
            exact ⟨true, rfl, ⟨fun _ => ⟨by rw [HN.out]; exact HF.out, HS2.out⟩, fun _ => rfl⟩, HBw.out⟩
      · obtain ⟨hb1, hb2, hb3⟩ := ds_ne hds
        clear HX
        have HNF : Hid (¬ FairV (8) 0 0 ds n) := fun h => by (have h4 := h.2.2.2.2.2.1; rcases h4 with h4 | h4 | h4 | h4 | h4; omega; omega; omega; omega; exact hds h4)
        go_enter Tryz.func66, Tryz.ntmps66
        go_wp2_with fail
        rw [← HPP.out]
        exact ⟨false, rfl, ⟨fun h => (by cases h), fun h => absurd h.1 (by rw [HN.out]; exact HNF.out)⟩, (Below.refl _ _).alloc (Nat.le_refl _) _⟩
    · obtain ⟨hb1, hb2⟩ := int_ne hdb
      clear HX
      have HNF : Hid (¬ FairV (8) 0 db ds n) := fun h => by have h4 := h.2.2.2.2.1; omega
      go_enter Tryz.func66, Tryz.ntmps66
      go_wp2_with fail
      rw [← HPP.out]
      exact ⟨false, rfl, ⟨fun h => (by cases h), fun h => absurd h.1 (by rw [HN.out]; exact HNF.out)⟩, (Below.refl _ _).alloc (Nat.le_refl _) _⟩
  · obtain ⟨hb1, hb2⟩ := int_ne hdi
    clear HX
    have HNF : Hid (¬ FairV (8) di db ds n) := fun h => by have h4 := h.2.2.2.1; omega
    go_enter Tryz.func66, Tryz.ntmps66
    go_wp2_with fail
    rw [← HPP.out]
    exact ⟨false, rfl, ⟨fun h => (by cases h), fun h => absurd h.1 (by rw [HN.out]; exact HNF.out)⟩, (Below.refl _ _).alloc (Nat.le_refl _) _⟩
set_option maxRecDepth 100000 in
set_option maxHeartbeats 8000000 in
theorem right_k9 (k : Nat) (ih : RC k) (w : World) (di db : Int) (ds : ByteArray) (p : Option Addr) (n cap : Nat) (ps : List Dv) (hD : DvIs w (k + 1) [.int .i64 9, .int .i64 di, .int .u64 db, .string ds, .slice p n cap] (.mk 9 di db ds ps)) :
    Calls Tryz.prog 66 #[.agg #[.int .i64 9, .int .i64 di, .int .u64 db, .string ds, .slice p n cap]] w (FairPost (.mk 9 di db ds ps) w) := by
  have IH := Lib.hid ih
  have HX := trivial
  obtain ⟨hn, -, -, -, k1, k2⟩ := hD.top
  have HN : Hid (ps.length = n) := hn.symm
  clear hn ih
  obtain ⟨PP, hPP⟩ : ∃ PP, FairPost (.mk 9 di db ds ps) w = PP := ⟨_, rfl⟩
  rw [hPP]
  have HPP := Lib.hid hPP
  have HD := Lib.hid hD
  clear hPP hD
  by_cases hdi : di = 0
  · subst hdi
    by_cases hdb : db = 0
    · subst hdb
      by_cases hds : ds = ⟨#[]⟩
      · subst hds
        by_cases hnn : n = 2
        · subst hnn
          have HF : Hid (FairV _ _ _ _ _) := (show FairV (9) 0 0 ⟨#[]⟩ 2 from ⟨by omega, by omega, by decide, by simp, by simp, by simp, by simp, by simp, by simp⟩)
          clear HX
          go_enter Tryz.func66, Tryz.ntmps66
          go_wp2_with fail
          go_loopw [7, 89] (fun u1 i wr => ∃ (j : Nat), i = .int .i64 (j : Nat) ∧ j ≤ 2 ∧ Hid (Below w.heap.size w wr) ∧ w.heap.size < wr.heap.size ∧ wr.cell? ⟨w.heap.size, 4, none⟩ = some (.slice p 2 cap) ∧ Hid (Fairs (ps.take j))) (fun _ i _ => 2 - (intOf i).toNat)
          case atStart => exact ⟨0, rfl, by omega, (Below.refl _ _).alloc (Nat.le_refl _) _, by simp, by go_simp, trivial⟩
          case round =>
            obtain ⟨j, rfl, hj, HBw, f3, f2, HS⟩ := hrel
            by_cases hlt : j < 2
            · obtain ⟨t, ht⟩ : ∃ t, ps[j]? = some t := ⟨_, List.getElem?_eq_getElem (by rw [HN.out]; exact hlt)⟩
              obtain ⟨b, o, kd', di', db', ds', q, m, c, ps', rfl, hbl, rfl, d0, d1, d2, d3, d4, hP⟩ := (HD.out.below HBw.out).part ht
              have HT := Lib.hid (fairs_next ht)
              have CX : Hid (Calls Tryz.prog 66 #[.agg #[.int .i64 kd', .int .i64 di', .int .u64 db', .string ds', .slice q m c]] wr (FairPost (.mk kd' di' db' ds' ps') wr)) := IH.out wr kd' di' db' ds' q m c ps' hP
              have g1 : (j : Int) < (2 : Int) := by omega
              clear hP ht
              go_wp2_with fail
              refine CX.out.mono ?_
              rintro r' W ⟨b9, rfl, hiff, hb2⟩
              have HB2 := Lib.hid (HBw.out.trans (hb2.mono (Nat.le_of_lt f3)))
              have hs2 := hb2.size
              have f2' := (hb2.cell f3).trans f2
              clear hb2 d0 d1 d2 d3 d4 f2
              cases b9 with
              | true =>
                have HS2 : Hid (Fairs (ps.take (j + 1))) := HT.out.1.2 ⟨HS.out, hiff.1 rfl⟩
                clear hiff
                go_wp2_with fail
                go_roundw
                case rel => exact ⟨j + 1, by go_num, by omega, HB2.out, by omega, f2', HS2.out⟩
                case measure => simp [intOf]; omega
              | false =>
                have HNF : Hid (¬ Fairs ps) := fun h => absurd (hiff.2 (HT.out.2 h)) (by decide)
                clear hiff
                go_wp2_with fail
                rw [← HPP.out]
                exact ⟨false, rfl, ⟨fun h => (by cases h), fun h => absurd h.2 HNF.out⟩, HB2.out⟩
            · have hjn : j = 2 := by omega
              subst hjn
              have HS2 : Hid (Fairs ps) := by
                have h := HS.out
                rw [List.take_of_length_le (by rw [HN.out]; exact Nat.le_refl _)] at h
                exact h
              clear HS hlt hj
              go_wp2_with fail
              rw [← HPP.out]
              exact ⟨true, rfl, ⟨fun _ => ⟨by rw [HN.out]; exact HF.out, HS2.out⟩, fun _ => rfl⟩, HBw.out⟩
        · have hb1 : ((n : Int) == 2) = false := by simp; omega
          have hb2 : ((n : Int) != 2) = true := by simp [bne, hb1]
          clear HX
          have HNF : Hid (¬ FairV (9) 0 0 ⟨#[]⟩ n) := fun h => by have h4 := h.2.2.2.2.2.2.2.2; omega
          go_enter Tryz.func66, Tryz.ntmps66
          go_wp2_with fail
          rw [← HPP.out]
          exact ⟨false, rfl, ⟨fun h => (by cases h), fun h => absurd h.1 (by rw [HN.out]; exact HNF.out)⟩, (Below.refl _ _).alloc (Nat.le_refl _) _⟩
      · obtain ⟨hb1, hb2, hb3⟩ := ds_ne hds
        clear HX
        have HNF : Hid (¬ FairV (9) 0 0 ds n) := fun h => by (have h4 := h.2.2.2.2.2.1; rcases h4 with h4 | h4 | h4 | h4 | h4; omega; omega; omega; omega; exact hds h4)
        go_enter Tryz.func66, Tryz.ntmps66
        go_wp2_with fail
        rw [← HPP.out]
        exact ⟨false, rfl, ⟨fun h => (by cases h), fun h => absurd h.1 (by rw [HN.out]; exact HNF.out)⟩, (Below.refl _ _).alloc (Nat.le_refl _) _⟩
    · obtain ⟨hb1, hb2⟩ := int_ne hdb
      clear HX
      have HNF : Hid (¬ FairV (9) 0 db ds n) := fun h => by have h4 := h.2.2.2.2.1; omega
      go_enter Tryz.func66, Tryz.ntmps66
      go_wp2_with fail
      rw [← HPP.out]
      exact ⟨false, rfl, ⟨fun h => (by cases h), fun h => absurd h.1 (by rw [HN.out]; exact HNF.out)⟩, (Below.refl _ _).alloc (Nat.le_refl _) _⟩
  · obtain ⟨hb1, hb2⟩ := int_ne hdi
    clear HX
    have HNF : Hid (¬ FairV (9) di db ds n) := fun h => by have h4 := h.2.2.2.1; omega
    go_enter Tryz.func66, Tryz.ntmps66
    go_wp2_with fail
    rw [← HPP.out]
    exact ⟨false, rfl, ⟨fun h => (by cases h), fun h => absurd h.1 (by rw [HN.out]; exact HNF.out)⟩, (Below.refl _ _).alloc (Nat.le_refl _) _⟩
set_option maxRecDepth 100000 in
set_option maxHeartbeats 8000000 in
theorem right_k10 (k : Nat) (ih : RC k) (w : World) (di db : Int) (ds : ByteArray) (p : Option Addr) (n cap : Nat) (ps : List Dv) (hD : DvIs w (k + 1) [.int .i64 10, .int .i64 di, .int .u64 db, .string ds, .slice p n cap] (.mk 10 di db ds ps)) :
    Calls Tryz.prog 66 #[.agg #[.int .i64 10, .int .i64 di, .int .u64 db, .string ds, .slice p n cap]] w (FairPost (.mk 10 di db ds ps) w) := by
  have IH := Lib.hid ih
  have HX := trivial
  obtain ⟨hn, -, -, -, k1, k2⟩ := hD.top
  have HN : Hid (ps.length = n) := hn.symm
  clear hn ih
  obtain ⟨PP, hPP⟩ : ∃ PP, FairPost (.mk 10 di db ds ps) w = PP := ⟨_, rfl⟩
  rw [hPP]
  have HPP := Lib.hid hPP
  have HD := Lib.hid hD
  clear hPP hD
  by_cases hdb : db = 0
  · subst hdb
    by_cases hnn : n = 0
    · subst hnn
      by_cases hts : ds.size ≤ 65535
      · have hsz : ¬ (65535 : Int) < (ds.size : Int) := by omega
        have HF : Hid (FairV _ _ _ _ _) := (show FairV (10) di 0 ds 0 from ⟨by omega, by omega, hts, by simp, by simp, by simp, by simp, by simp, by simp⟩)
        clear HX
        go_enter Tryz.func66, Tryz.ntmps66
        go_wp2_with fail
        go_loopw [7, 89] (fun u1 i wr => ∃ (j : Nat), i = .int .i64 (j : Nat) ∧ j ≤ 0 ∧ Hid (Below w.heap.size w wr) ∧ w.heap.size < wr.heap.size ∧ wr.cell? ⟨w.heap.size, 4, none⟩ = some (.slice p 0 cap) ∧ Hid (Fairs (ps.take j))) (fun _ i _ => 0 - (intOf i).toNat)
        case atStart => exact ⟨0, rfl, by omega, (Below.refl _ _).alloc (Nat.le_refl _) _, by simp, by go_simp, trivial⟩
        case round =>
          obtain ⟨j, rfl, hj, HBw, f3, f2, HS⟩ := hrel
          by_cases hlt : j < 0
          · exact absurd hlt (Nat.not_lt_zero _)
          · have hjn : j = 0 := by omega
            subst hjn
            have HS2 : Hid (Fairs ps) := by
              have h := HS.out
              rw [List.take_of_length_le (by rw [HN.out]; exact Nat.le_refl _)] at h
              exact h
            clear HS hlt hj
            go_wp2_with fail
            rw [← HPP.out]
            exact ⟨true, rfl, ⟨fun _ => ⟨by rw [HN.out]; exact HF.out, HS2.out⟩, fun _ => rfl⟩, HBw.out⟩
      · have hsz : (65535 : Int) < (ds.size : Int) := by omega
        clear HX
        have HNF : Hid (¬ FairV (10) di 0 ds 0) := fun h => hts h.2.2.1
        go_enter Tryz.func66, Tryz.ntmps66
        go_wp2_with fail
        rw [← HPP.out]
        exact ⟨false, rfl, ⟨fun h => (by cases h), fun h => absurd h.1 (by rw [HN.out]; exact HNF.out)⟩, (Below.refl _ _).alloc (Nat.le_refl _) _⟩
    · have hb1 : ((n : Int) == 0) = false := by simp; omega
      have hb2 : ((n : Int) != 0) = true := by simp [bne, hb1]
      clear HX
      have HNF : Hid (¬ FairV (10) di 0 ds n) := fun h => by have h4 := h.2.2.2.2.2.2.2.2; omega
      go_enter Tryz.func66, Tryz.ntmps66
      go_wp2_with fail
      rw [← HPP.out]
      exact ⟨false, rfl, ⟨fun h => (by cases h), fun h => absurd h.1 (by rw [HN.out]; exact HNF.out)⟩, (Below.refl _ _).alloc (Nat.le_refl _) _⟩
  · obtain ⟨hb1, hb2⟩ := int_ne hdb
    clear HX
    have HNF : Hid (¬ FairV (10) di db ds n) := fun h => by have h4 := h.2.2.2.2.1; omega
    go_enter Tryz.func66, Tryz.ntmps66
    go_wp2_with fail
    rw [← HPP.out]
    exact ⟨false, rfl, ⟨fun h => (by cases h), fun h => absurd h.1 (by rw [HN.out]; exact HNF.out)⟩, (Below.refl _ _).alloc (Nat.le_refl _) _⟩
set_option maxRecDepth 100000 in
set_option maxHeartbeats 8000000 in
theorem right_k11 (k : Nat) (ih : RC k) (w : World) (di db : Int) (ds : ByteArray) (p : Option Addr) (n cap : Nat) (ps : List Dv) (hD : DvIs w (k + 1) [.int .i64 11, .int .i64 di, .int .u64 db, .string ds, .slice p n cap] (.mk 11 di db ds ps)) :
    Calls Tryz.prog 66 #[.agg #[.int .i64 11, .int .i64 di, .int .u64 db, .string ds, .slice p n cap]] w (FairPost (.mk 11 di db ds ps) w) := by
  have IH := Lib.hid ih
  have HX := trivial
  obtain ⟨hn, -, -, -, k1, k2⟩ := hD.top
  have HN : Hid (ps.length = n) := hn.symm
  clear hn ih
  obtain ⟨PP, hPP⟩ : ∃ PP, FairPost (.mk 11 di db ds ps) w = PP := ⟨_, rfl⟩
  rw [hPP]
  have HPP := Lib.hid hPP
  have HD := Lib.hid hD
  clear hPP hD
  by_cases hpre : 1 ≤ di
  · have hl1 : ¬ di < 1 := by omega
    by_cases hdb : db = 0
    · subst hdb
      by_cases hds : ds = ⟨#[]⟩
      · subst hds
        by_cases hnn : n = 1
        · subst hnn
          have HF : Hid (FairV _ _ _ _ _) := (show FairV (11) di 0 ⟨#[]⟩ 1 from ⟨by omega, by omega, by decide, by simp, by simp, by simp, by simp, fun _ => hpre, by simp⟩)
          clear HX
          go_enter Tryz.func66, Tryz.ntmps66
          go_wp2_with fail
          go_loopw [7, 89] (fun u1 i wr => ∃ (j : Nat), i = .int .i64 (j : Nat) ∧ j ≤ 1 ∧ Hid (Below w.heap.size w wr) ∧ w.heap.size < wr.heap.size ∧ wr.cell? ⟨w.heap.size, 4, none⟩ = some (.slice p 1 cap) ∧ Hid (Fairs (ps.take j))) (fun _ i _ => 1 - (intOf i).toNat)
          case atStart => exact ⟨0, rfl, by omega, (Below.refl _ _).alloc (Nat.le_refl _) _, by simp, by go_simp, trivial⟩
          case round =>
            obtain ⟨j, rfl, hj, HBw, f3, f2, HS⟩ := hrel
            by_cases hlt : j < 1
            · obtain ⟨t, ht⟩ : ∃ t, ps[j]? = some t := ⟨_, List.getElem?_eq_getElem (by rw [HN.out]; exact hlt)⟩
              obtain ⟨b, o, kd', di', db', ds', q, m, c, ps', rfl, hbl, rfl, d0, d1, d2, d3, d4, hP⟩ := (HD.out.below HBw.out).part ht
              have HT := Lib.hid (fairs_next ht)
              have CX : Hid (Calls Tryz.prog 66 #[.agg #[.int .i64 kd', .int .i64 di', .int .u64 db', .string ds', .slice q m c]] wr (FairPost (.mk kd' di' db' ds' ps') wr)) := IH.out wr kd' di' db' ds' q m c ps' hP
              have g1 : (j : Int) < (1 : Int) := by omega
              clear hP ht
              go_wp2_with fail
              refine CX.out.mono ?_
              rintro r' W ⟨b9, rfl, hiff, hb2⟩
              have HB2 := Lib.hid (HBw.out.trans (hb2.mono (Nat.le_of_lt f3)))
              have hs2 := hb2.size
              have f2' := (hb2.cell f3).trans f2
              clear hb2 d0 d1 d2 d3 d4 f2
              cases b9 with
              | true =>
                have HS2 : Hid (Fairs (ps.take (j + 1))) := HT.out.1.2 ⟨HS.out, hiff.1 rfl⟩
                clear hiff
                go_wp2_with fail
                go_roundw
                case rel => exact ⟨j + 1, by go_num, by omega, HB2.out, by omega, f2', HS2.out⟩
                case measure => simp [intOf]; omega
              | false =>
                have HNF : Hid (¬ Fairs ps) := fun h => absurd (hiff.2 (HT.out.2 h)) (by decide)
                clear hiff
                go_wp2_with fail
                rw [← HPP.out]
                exact ⟨false, rfl, ⟨fun h => (by cases h), fun h => absurd h.2 HNF.out⟩, HB2.out⟩
            · have hjn : j = 1 := by omega
              subst hjn
              have HS2 : Hid (Fairs ps) := by
                have h := HS.out
                rw [List.take_of_length_le (by rw [HN.out]; exact Nat.le_refl _)] at h
                exact h
              clear HS hlt hj
              go_wp2_with fail
              rw [← HPP.out]
              exact ⟨true, rfl, ⟨fun _ => ⟨by rw [HN.out]; exact HF.out, HS2.out⟩, fun _ => rfl⟩, HBw.out⟩
        · have hb1 : ((n : Int) == 1) = false := by simp; omega
          have hb2 : ((n : Int) != 1) = true := by simp [bne, hb1]
          clear HX
          have HNF : Hid (¬ FairV (11) di 0 ⟨#[]⟩ n) := fun h => by have h4 := h.2.2.2.2.2.2.2.2; omega
          go_enter Tryz.func66, Tryz.ntmps66
          go_wp2_with fail
          rw [← HPP.out]
          exact ⟨false, rfl, ⟨fun h => (by cases h), fun h => absurd h.1 (by rw [HN.out]; exact HNF.out)⟩, (Below.refl _ _).alloc (Nat.le_refl _) _⟩
      · obtain ⟨hb1, hb2, hb3⟩ := ds_ne hds
        clear HX
        have HNF : Hid (¬ FairV (11) di 0 ds n) := fun h => by (have h4 := h.2.2.2.2.2.1; rcases h4 with h4 | h4 | h4 | h4 | h4; omega; omega; omega; omega; exact hds h4)
        go_enter Tryz.func66, Tryz.ntmps66
        go_wp2_with fail
        rw [← HPP.out]
        exact ⟨false, rfl, ⟨fun h => (by cases h), fun h => absurd h.1 (by rw [HN.out]; exact HNF.out)⟩, (Below.refl _ _).alloc (Nat.le_refl _) _⟩
    · obtain ⟨hb1, hb2⟩ := int_ne hdb
      clear HX
      have HNF : Hid (¬ FairV (11) di db ds n) := fun h => by have h4 := h.2.2.2.2.1; omega
      go_enter Tryz.func66, Tryz.ntmps66
      go_wp2_with fail
      rw [← HPP.out]
      exact ⟨false, rfl, ⟨fun h => (by cases h), fun h => absurd h.1 (by rw [HN.out]; exact HNF.out)⟩, (Below.refl _ _).alloc (Nat.le_refl _) _⟩
  · have hl1 : di < 1 := by omega
    clear HX
    have HNF : Hid (¬ FairV (11) di db ds n) := fun h => hpre (h.2.2.2.2.2.2.2.1 rfl)
    go_enter Tryz.func66, Tryz.ntmps66
    go_wp2_with fail
    rw [← HPP.out]
    exact ⟨false, rfl, ⟨fun h => (by cases h), fun h => absurd h.1 (by rw [HN.out]; exact HNF.out)⟩, (Below.refl _ _).alloc (Nat.le_refl _) _⟩
end Go.Proofs.YtincmegllckcjaaGreatDoor
