/- WIRE: conduitref01.right, Valid, exactly. WIRE: conduitref01.right, exactly: kinds. WIRE: conduitref01.right, exactly: kinds. WIRE: conduitref01.right, exactly: kinds. WIRE: conduitref01.Valid, exactly. -/
import Derived.Test.YtmncpbfghabamaaDoorWireCnt
namespace Go.Proofs.YtmncpbfghabamaaDoor
open Go Go.RowKit

def FairV (kd di db : Int) (ds : ByteArray) (n : Nat) : Prop :=
  0 ≤ kd ∧ kd < 14 ∧ ds.size ≤ 65535 ∧ (kd = 1 ∨ kd = 2 ∨ kd = 6 ∨ kd = 10 ∨ kd = 11 ∨ di = 0) ∧ (kd = 3 ∨ db = 0) ∧ (kd = 4 ∨ kd = 5 ∨ kd = 7 ∨ kd = 10 ∨ ds = ⟨#[]⟩) ∧
  (kd = 6 → di = 0 ∨ di = 1) ∧ (kd = 11 → 1 ≤ di) ∧ (kd = 8 ∨ (kd = 9 ∧ n = 2) ∨ (kd = 11 ∧ n = 1) ∨ (kd ≠ 9 ∧ kd ≠ 11 ∧ n = 0))
mutual
def Dv.Fair : Dv → Prop
  | .mk kd di db ds l => FairV kd di db ds l.length ∧ Fairs l
def Fairs : List Dv → Prop
  | [] => True
  | t :: r => t.Fair ∧ Fairs r
end
theorem fairs_append : ∀ (a b : List Dv), Fairs (a ++ b) ↔ Fairs a ∧ Fairs b
  | [], b => by simp [Fairs]
  | t :: r, b => by simp [Fairs, fairs_append r b, and_assoc]
theorem fairs_next {ps : List Dv} {j : Nat} {t : Dv} (h : ps[j]? = some t) : (Fairs (ps.take (j + 1)) ↔ Fairs (ps.take j) ∧ t.Fair) ∧ (Fairs ps → t.Fair) := by
  have e : Fairs (ps.take (j + 1)) ↔ Fairs (ps.take j) ∧ t.Fair := by rw [List.take_add_one, h, fairs_append]; simp [Fairs]
  refine ⟨e, fun hf => ?_⟩
  rw [← List.take_append_drop (j + 1) ps, fairs_append] at hf
  exact (e.1 hf.1).2
def FairPost (t : Dv) (w : World) (r : Ending) (w' : World) : Prop := ∃ b : Bool, r = .returned (.bool b) ∧ (b = true ↔ t.Fair) ∧ Below w.heap.size w w'
theorem ds_ne {ds : ByteArray} (h : ds ≠ ⟨#[]⟩) : (ds == (⟨#[]⟩ : ByteArray)) = false ∧ (ds != (⟨#[]⟩ : ByteArray)) = true ∧ ¬ ds.toList = [] := by
  have h1 : (ds == (⟨#[]⟩ : ByteArray)) = false := by
    have h2 : ds.data ≠ #[] := fun e => h (by cases ds; simp at e; subst e; rfl)
    show (ds.data == #[]) = false
    simpa using h2
  exact ⟨h1, by simp [bne, h1], fun e => h (by rw [ByteArray.toList_eq] at e; cases ds; simp at e; subst e; rfl)⟩
theorem int_ne {x : Int} (h : x ≠ 0) : (x == 0) = false ∧ (x != 0) = true := by
  have h1 : (x == 0) = false := by simpa using h
  exact ⟨h1, by simp [bne, h1]⟩
def RC (k : Nat) : Prop := ∀ (w : World) (kd di db : Int) (ds : ByteArray) (p : Option Addr) (n cap : Nat) (ps : List Dv), DvIs w k [.int .i64 kd, .int .i64 di, .int .u64 db, .string ds, .slice p n cap] (.mk kd di db ds ps) →
    Calls Tryd.prog 32 #[.agg #[.int .i64 kd, .int .i64 di, .int .u64 db, .string ds, .slice p n cap]] w (FairPost (.mk kd di db ds ps) w)

set_option maxRecDepth 100000 in
set_option maxHeartbeats 8000000 in
theorem right_k0 (k : Nat) (ih : RC k) (w : World) (di db : Int) (ds : ByteArray) (p : Option Addr) (n cap : Nat) (ps : List Dv) (hD : DvIs w (k + 1) [.int .i64 0, .int .i64 di, .int .u64 db, .string ds, .slice p n cap] (.mk 0 di db ds ps)) :
    Calls Tryd.prog 32 #[.agg #[.int .i64 0, .int .i64 di, .int .u64 db, .string ds, .slice p n cap]] w (FairPost (.mk 0 di db ds ps) w) := by
  have IH := Lib.hid ih
  have HX := trivial
  obtain ⟨hn, -, -, -, k1, k2⟩ := hD.top
  have HN : Hid (ps.length = n) := hn.symm
  clear hn ih
  obtain ⟨PP, hPP⟩ : ∃ PP, FairPost (.mk 0 di db ds ps) w = PP := ⟨_, rfl⟩
  rw [hPP]
  have HPP := Lib.hid hPP
  have HD := Lib.hid hD
  clear hPP hD
  by_cases hdi : di = 0
  · subst hdi
    by_cases hdb : db = 0
    · subst hdb
      by_cases hds : ds = ⟨#[]⟩
      · subst hds
        by_cases hnn : n = 0
        · subst hnn
          have HF : Hid (FairV _ _ _ _ _) := (show FairV (0) 0 0 ⟨#[]⟩ 0 from ⟨by omega, by omega, by decide, by simp, by simp, by simp, by simp, by simp, by simp⟩)
          clear HX
          go_enter Tryd.func32, Tryd.ntmps32
          go_wp2_with fail
          go_loopw [7, 89] (fun u1 i wr => ∃ (j : Nat), i = .int .i64 (j : Nat) ∧ j ≤ 0 ∧ Hid (Below w.heap.size w wr) ∧ w.heap.size < wr.heap.size ∧ wr.cell? ⟨w.heap.size, 4, none⟩ = some (.slice p 0 cap) ∧ Hid (Fairs (ps.take j))) (fun _ i _ => 0 - (intOf i).toNat)
          case atStart => exact ⟨0, rfl, by omega, (Below.refl _ _).alloc (Nat.le_refl _) _, by simp, by go_simp, trivial⟩
          case round =>
            obtain ⟨j, rfl, hj, HBw, f3, f2, HS⟩ := hrel
            by_cases hlt : j < 0
            · exact absurd hlt (Nat.not_lt_zero _)
            · have hjn : j = 0 := by omega
              subst hjn
              have HS2 : Hid (Fairs ps) := by
                have h := HS.out
                rw [List.take_of_length_le (by rw [HN.out]; exact Nat.le_refl _)] at h
                exact h
              clear HS hlt hj
              go_wp2_with fail
              rw [← HPP.out]
              exact ⟨true, rfl, ⟨fun _ => ⟨by rw [HN.out]; exact HF.out, HS2.out⟩, fun _ => rfl⟩, HBw.out⟩
        · have hb1 : ((n : Int) == 0) = false := by simp; omega
          have hb2 : ((n : Int) != 0) = true := by simp [bne, hb1]
          clear HX
          have HNF : Hid (¬ FairV (0) 0 0 ⟨#[]⟩ n) := fun h => by have h4 := h.2.2.2.2.2.2.2.2; omega
          go_enter Tryd.func32, Tryd.ntmps32
          go_wp2_with fail
          rw [← HPP.out]
          exact ⟨false, rfl, ⟨fun h => (by cases h), fun h => absurd h.1 (by rw [HN.out]; exact HNF.out)⟩, (Below.refl _ _).alloc (Nat.le_refl _) _⟩
      · obtain ⟨hb1, hb2, hb3⟩ := ds_ne hds
        clear HX
        have HNF : Hid (¬ FairV (0) 0 0 ds n) := fun h => by (have h4 := h.2.2.2.2.2.1; rcases h4 with h4 | h4 | h4 | h4 | h4; omega; omega; omega; omega; exact hds h4)
        go_enter Tryd.func32, Tryd.ntmps32
        go_wp2_with fail
        rw [← HPP.out]
        exact ⟨false, rfl, ⟨fun h => (by cases h), fun h => absurd h.1 (by rw [HN.out]; exact HNF.out)⟩, (Below.refl _ _).alloc (Nat.le_refl _) _⟩
    · obtain ⟨hb1, hb2⟩ := int_ne hdb
      clear HX
      have HNF : Hid (¬ FairV (0) 0 db ds n) := fun h => by have h4 := h.2.2.2.2.1; omega
      go_enter Tryd.func32, Tryd.ntmps32
      go_wp2_with fail
      rw [← HPP.out]
      exact ⟨false, rfl, ⟨fun h => (by cases h), fun h => absurd h.1 (by rw [HN.out]; exact HNF.out)⟩, (Below.refl _ _).alloc (Nat.le_refl _) _⟩
  · obtain ⟨hb1, hb2⟩ := int_ne hdi
    clear HX
    have HNF : Hid (¬ FairV (0) di db ds n) := fun h => by have h4 := h.2.2.2.1; omega
    go_enter Tryd.func32, Tryd.ntmps32
    go_wp2_with fail
    rw [← HPP.out]
    exact ⟨false, rfl, ⟨fun h => (by cases h), fun h => absurd h.1 (by rw [HN.out]; exact HNF.out)⟩, (Below.refl _ _).alloc (Nat.le_refl _) _⟩
set_option maxRecDepth 100000 in
set_option maxHeartbeats 8000000 in
theorem right_k12 (k : Nat) (ih : RC k) (w : World) (di db : Int) (ds : ByteArray) (p : Option Addr) (n cap : Nat) (ps : List Dv) (hD : DvIs w (k + 1) [.int .i64 12, .int .i64 di, .int .u64 db, .string ds, .slice p n cap] (.mk 12 di db ds ps)) :
    Calls Tryd.prog 32 #[.agg #[.int .i64 12, .int .i64 di, .int .u64 db, .string ds, .slice p n cap]] w (FairPost (.mk 12 di db ds ps) w) := by
  have IH := Lib.hid ih
  have HX := trivial
  obtain ⟨hn, -, -, -, k1, k2⟩ := hD.top
  have HN : Hid (ps.length = n) := hn.symm
  clear hn ih
  obtain ⟨PP, hPP⟩ : ∃ PP, FairPost (.mk 12 di db ds ps) w = PP := ⟨_, rfl⟩
  rw [hPP]
  have HPP := Lib.hid hPP
  have HD := Lib.hid hD
  clear hPP hD
  by_cases hdi : di = 0
  · subst hdi
    by_cases hdb : db = 0
    · subst hdb
      by_cases hds : ds = ⟨#[]⟩
      · subst hds
        by_cases hnn : n = 0
        · subst hnn
          have HF : Hid (FairV _ _ _ _ _) := (show FairV (12) 0 0 ⟨#[]⟩ 0 from ⟨by omega, by omega, by decide, by simp, by simp, by simp, by simp, by simp, by simp⟩)
          clear HX
          go_enter Tryd.func32, Tryd.ntmps32
          go_wp2_with fail
          go_loopw [7, 89] (fun u1 i wr => ∃ (j : Nat), i = .int .i64 (j : Nat) ∧ j ≤ 0 ∧ Hid (Below w.heap.size w wr) ∧ w.heap.size < wr.heap.size ∧ wr.cell? ⟨w.heap.size, 4, none⟩ = some (.slice p 0 cap) ∧ Hid (Fairs (ps.take j))) (fun _ i _ => 0 - (intOf i).toNat)
          case atStart => exact ⟨0, rfl, by omega, (Below.refl _ _).alloc (Nat.le_refl _) _, by simp, by go_simp, trivial⟩
          case round =>
            obtain ⟨j, rfl, hj, HBw, f3, f2, HS⟩ := hrel
            by_cases hlt : j < 0
            · exact absurd hlt (Nat.not_lt_zero _)
            · have hjn : j = 0 := by omega
              subst hjn
              have HS2 : Hid (Fairs ps) := by
                have h := HS.out
                rw [List.take_of_length_le (by rw [HN.out]; exact Nat.le_refl _)] at h
                exact h
              clear HS hlt hj
              go_wp2_with fail
              rw [← HPP.out]
              exact ⟨true, rfl, ⟨fun _ => ⟨by rw [HN.out]; exact HF.out, HS2.out⟩, fun _ => rfl⟩, HBw.out⟩
        · have hb1 : ((n : Int) == 0) = false := by simp; omega
          have hb2 : ((n : Int) != 0) = true := by simp [bne, hb1]
          clear HX
          have HNF : Hid (¬ FairV (12) 0 0 ⟨#[]⟩ n) := fun h => by have h4 := h.2.2.2.2.2.2.2.2; omega
          go_enter Tryd.func32, Tryd.ntmps32
          go_wp2_with fail
          rw [← HPP.out]
          exact ⟨false, rfl, ⟨fun h => (by cases h), fun h => absurd h.1 (by rw [HN.out]; exact HNF.out)⟩, (Below.refl _ _).alloc (Nat.le_refl _) _⟩
      · obtain ⟨hb1, hb2, hb3⟩ := ds_ne hds
        clear HX
        have HNF : Hid (¬ FairV (12) 0 0 ds n) := fun h => by (have h4 := h.2.2.2.2.2.1; rcases h4 with h4 | h4 | h4 | h4 | h4; omega; omega; omega; omega; exact hds h4)
        go_enter Tryd.func32, Tryd.ntmps32
        go_wp2_with fail
        rw [← HPP.out]
        exact ⟨false, rfl, ⟨fun h => (by cases h), fun h => absurd h.1 (by rw [HN.out]; exact HNF.out)⟩, (Below.refl _ _).alloc (Nat.le_refl _) _⟩
    · obtain ⟨hb1, hb2⟩ := int_ne hdb
      clear HX
      have HNF : Hid (¬ FairV (12) 0 db ds n) := fun h => by have h4 := h.2.2.2.2.1; omega
      go_enter Tryd.func32, Tryd.ntmps32
      go_wp2_with fail
      rw [← HPP.out]
      exact ⟨false, rfl, ⟨fun h => (by cases h), fun h => absurd h.1 (by rw [HN.out]; exact HNF.out)⟩, (Below.refl _ _).alloc (Nat.le_refl _) _⟩
  · obtain ⟨hb1, hb2⟩ := int_ne hdi
    clear HX
    have HNF : Hid (¬ FairV (12) di db ds n) := fun h => by have h4 := h.2.2.2.1; omega
    go_enter Tryd.func32, Tryd.ntmps32
    go_wp2_with fail
    rw [← HPP.out]
    exact ⟨false, rfl, ⟨fun h => (by cases h), fun h => absurd h.1 (by rw [HN.out]; exact HNF.out)⟩, (Below.refl _ _).alloc (Nat.le_refl _) _⟩
set_option maxRecDepth 100000 in
set_option maxHeartbeats 8000000 in
theorem right_k13 (k : Nat) (ih : RC k) (w : World) (di db : Int) (ds : ByteArray) (p : Option Addr) (n cap : Nat) (ps : List Dv) (hD : DvIs w (k + 1) [.int .i64 13, .int .i64 di, .int .u64 db, .string ds, .slice p n cap] (.mk 13 di db ds ps)) :
    Calls Tryd.prog 32 #[.agg #[.int .i64 13, .int .i64 di, .int .u64 db, .string ds, .slice p n cap]] w (FairPost (.mk 13 di db ds ps) w) := by
  have IH := Lib.hid ih
  have HX := trivial
  obtain ⟨hn, -, -, -, k1, k2⟩ := hD.top
  have HN : Hid (ps.length = n) := hn.symm
  clear hn ih
  obtain ⟨PP, hPP⟩ : ∃ PP, FairPost (.mk 13 di db ds ps) w = PP := ⟨_, rfl⟩
  rw [hPP]
  have HPP := Lib.hid hPP
  have HD := Lib.hid hD
  clear hPP hD
  by_cases hdi : di = 0
  · subst hdi
    by_cases hdb : db = 0
    · subst hdb
      by_cases hds : ds = ⟨#[]⟩
      · subst hds
        by_cases hnn : n = 0
        · subst hnn
          have HF : Hid (FairV _ _ _ _ _) := (show FairV (13) 0 0 ⟨#[]⟩ 0 from ⟨by omega, by omega, by decide, by simp, by simp, by simp, by simp, by simp, by simp⟩)
          clear HX
          go_enter Tryd.func32, Tryd.ntmps32
          go_wp2_with fail
          go_loopw [7, 89] (fun u1 i wr => ∃ (j : Nat), i = .int .i64 (j : Nat) ∧ j ≤ 0 ∧ Hid (Below w.heap.size w wr) ∧ w.heap.size < wr.heap.size ∧ wr.cell? ⟨w.heap.size, 4, none⟩ = some (.slice p 0 cap) ∧ Hid (Fairs (ps.take j))) (fun _ i _ => 0 - (intOf i).toNat)
          case atStart => exact ⟨0, rfl, by omega, (Below.refl _ _).alloc (Nat.le_refl _) _, by simp, by go_simp, trivial⟩
          case round =>
            obtain ⟨j, rfl, hj, HBw, f3, f2, HS⟩ := hrel
            by_cases hlt : j < 0
            · exact absurd hlt (Nat.not_lt_zero _)
            · have hjn : j = 0 := by omega
              subst hjn
              have HS2 : Hid (Fairs ps) := by
                have h := HS.out
                rw [List.take_of_length_le (by rw [HN.out]; exact Nat.le_refl _)] at h
                exact h
              clear HS hlt hj
              go_wp2_with fail
              rw [← HPP.out]
              exact ⟨true, rfl, ⟨fun _ => ⟨by rw [HN.out]; exact HF.out, HS2.out⟩, fun _ => rfl⟩, HBw.out⟩
        · have hb1 : ((n : Int) == 0) = false := by simp; omega
          have hb2 : ((n : Int) != 0) = true := by simp [bne, hb1]
          clear HX
          have HNF : Hid (¬ FairV (13) 0 0 ⟨#[]⟩ n) := fun h => by have h4 := h.2.2.2.2.2.2.2.2; omega
          go_enter Tryd.func32, Tryd.ntmps32
          go_wp2_with fail
          rw [← HPP.out]
          exact ⟨false, rfl, ⟨fun h => (by cases h), fun h => absurd h.1 (by rw [HN.out]; exact HNF.out)⟩, (Below.refl _ _).alloc (Nat.le_refl _) _⟩
      · obtain ⟨hb1, hb2, hb3⟩ := ds_ne hds
        clear HX
        have HNF : Hid (¬ FairV (13) 0 0 ds n) := fun h => by (have h4 := h.2.2.2.2.2.1; rcases h4 with h4 | h4 | h4 | h4 | h4; omega; omega; omega; omega; exact hds h4)
        go_enter Tryd.func32, Tryd.ntmps32
        go_wp2_with fail
        rw [← HPP.out]
        exact ⟨false, rfl, ⟨fun h => (by cases h), fun h => absurd h.1 (by rw [HN.out]; exact HNF.out)⟩, (Below.refl _ _).alloc (Nat.le_refl _) _⟩
    · obtain ⟨hb1, hb2⟩ := int_ne hdb
      clear HX
      have HNF : Hid (¬ FairV (13) 0 db ds n) := fun h => by have h4 := h.2.2.2.2.1; omega
      go_enter Tryd.func32, Tryd.ntmps32
      go_wp2_with fail
      rw [← HPP.out]
      exact ⟨false, rfl, ⟨fun h => (by cases h), fun h => absurd h.1 (by rw [HN.out]; exact HNF.out)⟩, (Below.refl _ _).alloc (Nat.le_refl _) _⟩
  · obtain ⟨hb1, hb2⟩ := int_ne hdi
    clear HX
    have HNF : Hid (¬ FairV (13) di db ds n) := fun h => by have h4 := h.2.2.2.1; omega
    go_enter Tryd.func32, Tryd.ntmps32
    go_wp2_with fail
    rw [← HPP.out]
    exact ⟨false, rfl, ⟨fun h => (by cases h), fun h => absurd h.1 (by rw [HN.out]; exact HNF.out)⟩, (Below.refl _ _).alloc (Nat.le_refl _) _⟩
set_option maxRecDepth 100000 in
set_option maxHeartbeats 8000000 in
theorem right_k1 (k : Nat) (ih : RC k) (w : World) (di db : Int) (ds : ByteArray) (p : Option Addr) (n cap : Nat) (ps : List Dv) (hD : DvIs w (k + 1) [.int .i64 1, .int .i64 di, .int .u64 db, .string ds, .slice p n cap] (.mk 1 di db ds ps)) :
    Calls Tryd.prog 32 #[.agg #[.int .i64 1, .int .i64 di, .int .u64 db, .string ds, .slice p n cap]] w (FairPost (.mk 1 di db ds ps) w) := by
  have IH := Lib.hid ih
  have HX := trivial
  obtain ⟨hn, -, -, -, k1, k2⟩ := hD.top
  have HN : Hid (ps.length = n) := hn.symm
  clear hn ih
  obtain ⟨PP, hPP⟩ : ∃ PP, FairPost (.mk 1 di db ds ps) w = PP := ⟨_, rfl⟩
  rw [hPP]
  have HPP := Lib.hid hPP
  have HD := Lib.hid hD
  clear hPP hD
  by_cases hdb : db = 0
  · subst hdb
    by_cases hds : ds = ⟨#[]⟩
    · subst hds
      by_cases hnn : n = 0
      · subst hnn
        have HF : Hid (FairV _ _ _ _ _) := (show FairV (1) di 0 ⟨#[]⟩ 0 from ⟨by omega, by omega, by decide, by simp, by simp, by simp, by simp, by simp, by simp⟩)
        clear HX
        go_enter Tryd.func32, Tryd.ntmps32
        go_wp2_with fail
        go_loopw [7, 89] (fun u1 i wr => ∃ (j : Nat), i = .int .i64 (j : Nat) ∧ j ≤ 0 ∧ Hid (Below w.heap.size w wr) ∧ w.heap.size < wr.heap.size ∧ wr.cell? ⟨w.heap.size, 4, none⟩ = some (.slice p 0 cap) ∧ Hid (Fairs (ps.take j))) (fun _ i _ => 0 - (intOf i).toNat)
        case atStart => exact ⟨0, rfl, by omega, (Below.refl _ _).alloc (Nat.le_refl _) _, by simp, by go_simp, trivial⟩
        case round =>
          obtain ⟨j, rfl, hj, HBw, f3, f2, HS⟩ := hrel
          by_cases hlt : j < 0
          · exact absurd hlt (Nat.not_lt_zero _)
          · have hjn : j = 0 := by omega
            subst hjn
            have HS2 : Hid (Fairs ps) := by
              have h := HS.out
              rw [List.take_of_length_le (by rw [HN.out]; exact Nat.le_refl _)] at h
              exact h
            clear HS hlt hj
            go_wp2_with fail
            rw [← HPP.out]
            exact ⟨true, rfl, ⟨fun _ => ⟨by rw [HN.out]; exact HF.out, HS2.out⟩, fun _ => rfl⟩, HBw.out⟩
      · have hb1 : ((n : Int) == 0) = false := by simp; omega
        have hb2 : ((n : Int) != 0) = true := by simp [bne, hb1]
        clear HX
        have HNF : Hid (¬ FairV (1) di 0 ⟨#[]⟩ n) := fun h => by have h4 := h.2.2.2.2.2.2.2.2; omega
        go_enter Tryd.func32, Tryd.ntmps32
        go_wp2_with fail
        rw [← HPP.out]
        exact ⟨false, rfl, ⟨fun h => (by cases h), fun h => absurd h.1 (by rw [HN.out]; exact HNF.out)⟩, (Below.refl _ _).alloc (Nat.le_refl _) _⟩
    · obtain ⟨hb1, hb2, hb3⟩ := ds_ne hds
      clear HX
      have HNF : Hid (¬ FairV (1) di 0 ds n) := fun h => by (have h4 := h.2.2.2.2.2.1; rcases h4 with h4 | h4 | h4 | h4 | h4; omega; omega; omega; omega; exact hds h4)
      go_enter Tryd.func32, Tryd.ntmps32
      go_wp2_with fail
      rw [← HPP.out]
      exact ⟨false, rfl, ⟨fun h => (by cases h), fun h => absurd h.1 (by rw [HN.out]; exact HNF.out)⟩, (Below.refl _ _).alloc (Nat.le_refl _) _⟩
  · obtain ⟨hb1, hb2⟩ := int_ne hdb
    clear HX
    have HNF : Hid (¬ FairV (1) di db ds n) := fun h => by have h4 := h.2.2.2.2.1; omega
    go_enter Tryd.func32, Tryd.ntmps32
    go_wp2_with fail
    rw [← HPP.out]
    exact ⟨false, rfl, ⟨fun h => (by cases h), fun h => absurd h.1 (by rw [HN.out]; exact HNF.out)⟩, (Below.refl _ _).alloc (Nat.le_refl _) _⟩
set_option maxRecDepth 100000 in
set_option maxHeartbeats 8000000 in
theorem right_k2 (k : Nat) (ih : RC k) (w : World) (di db : Int) (ds : ByteArray) (p : Option Addr) (n cap : Nat) (ps : List Dv) (hD : DvIs w (k + 1) [.int .i64 2, .int .i64 di, .int .u64 db, .string ds, .slice p n cap] (.mk 2 di db ds ps)) :
    Calls Tryd.prog 32 #[.agg #[.int .i64 2, .int .i64 di, .int .u64 db, .string ds, .slice p n cap]] w (FairPost (.mk 2 di db ds ps) w) := by
  have IH := Lib.hid ih
  have HX := trivial
  obtain ⟨hn, -, -, -, k1, k2⟩ := hD.top
  have HN : Hid (ps.length = n) := hn.symm
  clear hn ih
  obtain ⟨PP, hPP⟩ : ∃ PP, FairPost (.mk 2 di db ds ps) w = PP := ⟨_, rfl⟩
  rw [hPP]
  have HPP := Lib.hid hPP
  have HD := Lib.hid hD
  clear hPP hD
  by_cases hdb : db = 0
  · subst hdb
    by_cases hds : ds = ⟨#[]⟩
    · subst hds
      by_cases hnn : n = 0
      · subst hnn
        have HF : Hid (FairV _ _ _ _ _) := (show FairV (2) di 0 ⟨#[]⟩ 0 from ⟨by omega, by omega, by decide, by simp, by simp, by simp, by simp, by simp, by simp⟩)
        clear HX
        go_enter Tryd.func32, Tryd.ntmps32
        go_wp2_with fail
        go_loopw [7, 89] (fun u1 i wr => ∃ (j : Nat), i = .int .i64 (j : Nat) ∧ j ≤ 0 ∧ Hid (Below w.heap.size w wr) ∧ w.heap.size < wr.heap.size ∧ wr.cell? ⟨w.heap.size, 4, none⟩ = some (.slice p 0 cap) ∧ Hid (Fairs (ps.take j))) (fun _ i _ => 0 - (intOf i).toNat)
        case atStart => exact ⟨0, rfl, by omega, (Below.refl _ _).alloc (Nat.le_refl _) _, by simp, by go_simp, trivial⟩
        case round =>
          obtain ⟨j, rfl, hj, HBw, f3, f2, HS⟩ := hrel
          by_cases hlt : j < 0
          · exact absurd hlt (Nat.not_lt_zero _)
          · have hjn : j = 0 := by omega
            subst hjn
            have HS2 : Hid (Fairs ps) := by
              have h := HS.out
              rw [List.take_of_length_le (by rw [HN.out]; exact Nat.le_refl _)] at h
              exact h
            clear HS hlt hj
            go_wp2_with fail
            rw [← HPP.out]
            exact ⟨true, rfl, ⟨fun _ => ⟨by rw [HN.out]; exact HF.out, HS2.out⟩, fun _ => rfl⟩, HBw.out⟩
      · have hb1 : ((n : Int) == 0) = false := by simp; omega
        have hb2 : ((n : Int) != 0) = true := by simp [bne, hb1]
        clear HX
        have HNF : Hid (¬ FairV (2) di 0 ⟨#[]⟩ n) := fun h => by have h4 := h.2.2.2.2.2.2.2.2; omega
        go_enter Tryd.func32, Tryd.ntmps32
        go_wp2_with fail
        rw [← HPP.out]
        exact ⟨false, rfl, ⟨fun h => (by cases h), fun h => absurd h.1 (by rw [HN.out]; exact HNF.out)⟩, (Below.refl _ _).alloc (Nat.le_refl _) _⟩
    · obtain ⟨hb1, hb2, hb3⟩ := ds_ne hds
      clear HX
      have HNF : Hid (¬ FairV (2) di 0 ds n) := fun h => by (have h4 := h.2.2.2.2.2.1; rcases h4 with h4 | h4 | h4 | h4 | h4; omega; omega; omega; omega; exact hds h4)
      go_enter Tryd.func32, Tryd.ntmps32
      go_wp2_with fail
      rw [← HPP.out]
      exact ⟨false, rfl, ⟨fun h => (by cases h), fun h => absurd h.1 (by rw [HN.out]; exact HNF.out)⟩, (Below.refl _ _).alloc (Nat.le_refl _) _⟩
  · obtain ⟨hb1, hb2⟩ := int_ne hdb
    clear HX
    have HNF : Hid (¬ FairV (2) di db ds n) := fun h => by have h4 := h.2.2.2.2.1; omega
    go_enter Tryd.func32, Tryd.ntmps32
    go_wp2_with fail
    rw [← HPP.out]
    exact ⟨false, rfl, ⟨fun h => (by cases h), fun h => absurd h.1 (by rw [HN.out]; exact HNF.out)⟩, (Below.refl _ _).alloc (Nat.le_refl _) _⟩
set_option maxRecDepth 100000 in
set_option maxHeartbeats 8000000 in
theorem right_k6 (k : Nat) (ih : RC k) (w : World) (di db : Int) (ds : ByteArray) (p : Option Addr) (n cap : Nat) (ps : List Dv) (hD : DvIs w (k + 1) [.int .i64 6, .int .i64 di, .int .u64 db, .string ds, .slice p n cap] (.mk 6 di db ds ps)) :
    Calls Tryd.prog 32 #[.agg #[.int .i64 6, .int .i64 di, .int .u64 db, .string ds, .slice p n cap]] w (FairPost (.mk 6 di db ds ps) w) := by
  have IH := Lib.hid ih
  have HX := trivial
  obtain ⟨hn, -, -, -, k1, k2⟩ := hD.top
  have HN : Hid (ps.length = n) := hn.symm
  clear hn ih
  obtain ⟨PP, hPP⟩ : ∃ PP, FairPost (.mk 6 di db ds ps) w = PP := ⟨_, rfl⟩
  rw [hPP]
  have HPP := Lib.hid hPP
  have HD := Lib.hid hD
  clear hPP hD
  by_cases hpre : di = 0 ∨ di = 1
  · have hd0 : (di == 0) = false ∨ di = 0 := by (by_cases h : di = 0; exact .inr h; exact .inl (by simpa using h))
    rcases hpre with rfl | rfl
    · have hpre : (0 : Int) = 0 ∨ (0 : Int) = 1 := by omega
      clear hd0
      by_cases hdb : db = 0
      · subst hdb
        by_cases hds : ds = ⟨#[]⟩
        · subst hds
          by_cases hnn : n = 0
          · subst hnn
            have HF : Hid (FairV _ _ _ _ _) := (show FairV (6) 0 0 ⟨#[]⟩ 0 from ⟨by omega, by omega, by decide, by simp, by simp, by simp, fun _ => hpre, by simp, by simp⟩)
            clear HX
            go_enter Tryd.func32, Tryd.ntmps32
            go_wp2_with fail
            go_loopw [7, 89] (fun u1 i wr => ∃ (j : Nat), i = .int .i64 (j : Nat) ∧ j ≤ 0 ∧ Hid (Below w.heap.size w wr) ∧ w.heap.size < wr.heap.size ∧ wr.cell? ⟨w.heap.size, 4, none⟩ = some (.slice p 0 cap) ∧ Hid (Fairs (ps.take j))) (fun _ i _ => 0 - (intOf i).toNat)
            case atStart => exact ⟨0, rfl, by omega, (Below.refl _ _).alloc (Nat.le_refl _) _, by simp, by go_simp, trivial⟩
            case round =>
              obtain ⟨j, rfl, hj, HBw, f3, f2, HS⟩ := hrel
              by_cases hlt : j < 0
              · exact absurd hlt (Nat.not_lt_zero _)
              · have hjn : j = 0 := by omega
                subst hjn
                have HS2 : Hid (Fairs ps) := by
                  have h := HS.out
                  rw [List.take_of_length_le (by rw [HN.out]; exact Nat.le_refl _)] at h
                  exact h
                clear HS hlt hj
                go_wp2_with fail
                rw [← HPP.out]
                exact ⟨true, rfl, ⟨fun _ => ⟨by rw [HN.out]; exact HF.out, HS2.out⟩, fun _ => rfl⟩, HBw.out⟩
          · have hb1 : ((n : Int) == 0) = false := by simp; omega
            have hb2 : ((n : Int) != 0) = true := by simp [bne, hb1]
            clear HX
            have HNF : Hid (¬ FairV (6) 0 0 ⟨#[]⟩ n) := fun h => by have h4 := h.2.2.2.2.2.2.2.2; omega
            go_enter Tryd.func32, Tryd.ntmps32
            go_wp2_with fail
            rw [← HPP.out]
            exact ⟨false, rfl, ⟨fun h => (by cases h), fun h => absurd h.1 (by rw [HN.out]; exact HNF.out)⟩, (Below.refl _ _).alloc (Nat.le_refl _) _⟩
        · obtain ⟨hb1, hb2, hb3⟩ := ds_ne hds
          clear HX
          have HNF : Hid (¬ FairV (6) 0 0 ds n) := fun h => by (have h4 := h.2.2.2.2.2.1; rcases h4 with h4 | h4 | h4 | h4 | h4; omega; omega; omega; omega; exact hds h4)
          go_enter Tryd.func32, Tryd.ntmps32
          go_wp2_with fail
          rw [← HPP.out]
          exact ⟨false, rfl, ⟨fun h => (by cases h), fun h => absurd h.1 (by rw [HN.out]; exact HNF.out)⟩, (Below.refl _ _).alloc (Nat.le_refl _) _⟩
      · obtain ⟨hb1, hb2⟩ := int_ne hdb
        clear HX
        have HNF : Hid (¬ FairV (6) 0 db ds n) := fun h => by have h4 := h.2.2.2.2.1; omega
        go_enter Tryd.func32, Tryd.ntmps32
        go_wp2_with fail
        rw [← HPP.out]
        exact ⟨false, rfl, ⟨fun h => (by cases h), fun h => absurd h.1 (by rw [HN.out]; exact HNF.out)⟩, (Below.refl _ _).alloc (Nat.le_refl _) _⟩
    · have hpre : (1 : Int) = 0 ∨ (1 : Int) = 1 := by omega
      clear hd0
      by_cases hdb : db = 0
      · subst hdb
        by_cases hds : ds = ⟨#[]⟩
        · subst hds
          by_cases hnn : n = 0
          · subst hnn
            have HF : Hid (FairV _ _ _ _ _) := (show FairV (6) 1 0 ⟨#[]⟩ 0 from ⟨by omega, by omega, by decide, by simp, by simp, by simp, fun _ => hpre, by simp, by simp⟩)
            clear HX
            go_enter Tryd.func32, Tryd.ntmps32
            go_wp2_with fail
            go_loopw [7, 89] (fun u1 i wr => ∃ (j : Nat), i = .int .i64 (j : Nat) ∧ j ≤ 0 ∧ Hid (Below w.heap.size w wr) ∧ w.heap.size < wr.heap.size ∧ wr.cell? ⟨w.heap.size, 4, none⟩ = some (.slice p 0 cap) ∧ Hid (Fairs (ps.take j))) (fun _ i _ => 0 - (intOf i).toNat)
            case atStart => exact ⟨0, rfl, by omega, (Below.refl _ _).alloc (Nat.le_refl _) _, by simp, by go_simp, trivial⟩
            case round =>
              obtain ⟨j, rfl, hj, HBw, f3, f2, HS⟩ := hrel
              by_cases hlt : j < 0
              · exact absurd hlt (Nat.not_lt_zero _)
              · have hjn : j = 0 := by omega
                subst hjn
                have HS2 : Hid (Fairs ps) := by
                  have h := HS.out
                  rw [List.take_of_length_le (by rw [HN.out]; exact Nat.le_refl _)] at h
                  exact h
                clear HS hlt hj
                go_wp2_with fail
                rw [← HPP.out]
                exact ⟨true, rfl, ⟨fun _ => ⟨by rw [HN.out]; exact HF.out, HS2.out⟩, fun _ => rfl⟩, HBw.out⟩
          · have hb1 : ((n : Int) == 0) = false := by simp; omega
            have hb2 : ((n : Int) != 0) = true := by simp [bne, hb1]
            clear HX
            have HNF : Hid (¬ FairV (6) 1 0 ⟨#[]⟩ n) := fun h => by have h4 := h.2.2.2.2.2.2.2.2; omega
            go_enter Tryd.func32, Tryd.ntmps32
            go_wp2_with fail
            rw [← HPP.out]
            exact ⟨false, rfl, ⟨fun h => (by cases h), fun h => absurd h.1 (by rw [HN.out]; exact HNF.out)⟩, (Below.refl _ _).alloc (Nat.le_refl _) _⟩
        · obtain ⟨hb1, hb2, hb3⟩ := ds_ne hds
          clear HX
          have HNF : Hid (¬ FairV (6) 1 0 ds n) := fun h => by (have h4 := h.2.2.2.2.2.1; rcases h4 with h4 | h4 | h4 | h4 | h4; omega; omega; omega; omega; exact hds h4)
          go_enter Tryd.func32, Tryd.ntmps32
          go_wp2_with fail
          rw [← HPP.out]
          exact ⟨false, rfl, ⟨fun h => (by cases h), fun h => absurd h.1 (by rw [HN.out]; exact HNF.out)⟩, (Below.refl _ _).alloc (Nat.le_refl _) _⟩
      · obtain ⟨hb1, hb2⟩ := int_ne hdb
        clear HX
        have HNF : Hid (¬ FairV (6) 1 db ds n) := fun h => by have h4 := h.2.2.2.2.1; omega
        go_enter Tryd.func32, Tryd.ntmps32
        go_wp2_with fail
        rw [← HPP.out]
        exact ⟨false, rfl, ⟨fun h => (by cases h), fun h => absurd h.1 (by rw [HN.out]; exact HNF.out)⟩, (Below.refl _ _).alloc (Nat.le_refl _) _⟩
  · have hn0 : di ≠ 0 := by omega
    have hn1 : di ≠ 1 := by omega
    have hb0 := int_ne hn0
    obtain ⟨hb1, hb2⟩ := hb0
    have hb3 : (di == 1) = false := by simpa using hn1
    have hb4 : (di != 1) = true := by simp [bne, hb3]
    clear HX
    have HNF : Hid (¬ FairV (6) di db ds n) := fun h => hpre (h.2.2.2.2.2.2.1 rfl)
    go_enter Tryd.func32, Tryd.ntmps32
    go_wp2_with fail
    rw [← HPP.out]
    exact ⟨false, rfl, ⟨fun h => (by cases h), fun h => absurd h.1 (by rw [HN.out]; exact HNF.out)⟩, (Below.refl _ _).alloc (Nat.le_refl _) _⟩

set_option maxRecDepth 100000 in
set_option maxHeartbeats 8000000 in
theorem right_k3 (k : Nat) (ih : RC k) (w : World) (di db : Int) (ds : ByteArray) (p : Option Addr) (n cap : Nat) (ps : List Dv) (hD : DvIs w (k + 1) [.int .i64 3, .int .i64 di, .int .u64 db, .string ds, .slice p n cap] (.mk 3 di db ds ps)) :
    Calls Tryd.prog 32 #[.agg #[.int .i64 3, .int .i64 di, .int .u64 db, .string ds, .slice p n cap]] w (FairPost (.mk 3 di db ds ps) w) := by
  have IH := Lib.hid ih
  have HX := trivial
  obtain ⟨hn, -, -, -, k1, k2⟩ := hD.top
  have HN : Hid (ps.length = n) := hn.symm
  clear hn ih
  obtain ⟨PP, hPP⟩ : ∃ PP, FairPost (.mk 3 di db ds ps) w = PP := ⟨_, rfl⟩
  rw [hPP]
  have HPP := Lib.hid hPP
  have HD := Lib.hid hD
  clear hPP hD
  by_cases hdi : di = 0
  · subst hdi
    by_cases hds : ds = ⟨#[]⟩
    · subst hds
      by_cases hnn : n = 0
      · subst hnn
        have HF : Hid (FairV _ _ _ _ _) := (show FairV (3) 0 db ⟨#[]⟩ 0 from ⟨by omega, by omega, by decide, by simp, by simp, by simp, by simp, by simp, by simp⟩)
        clear HX
        go_enter Tryd.func32, Tryd.ntmps32
        go_wp2_with fail
        go_loopw [7, 89] (fun u1 i wr => ∃ (j : Nat), i = .int .i64 (j : Nat) ∧ j ≤ 0 ∧ Hid (Below w.heap.size w wr) ∧ w.heap.size < wr.heap.size ∧ wr.cell? ⟨w.heap.size, 4, none⟩ = some (.slice p 0 cap) ∧ Hid (Fairs (ps.take j))) (fun _ i _ => 0 - (intOf i).toNat)
        case atStart => exact ⟨0, rfl, by omega, (Below.refl _ _).alloc (Nat.le_refl _) _, by simp, by go_simp, trivial⟩
        case round =>
          obtain ⟨j, rfl, hj, HBw, f3, f2, HS⟩ := hrel
          by_cases hlt : j < 0
          · exact absurd hlt (Nat.not_lt_zero _)
          · have hjn : j = 0 := by omega
            subst hjn
            have HS2 : Hid (Fairs ps) := by
              have h := HS.out
              rw [List.take_of_length_le (by rw [HN.out]; exact Nat.le_refl _)] at h
              exact h
            clear HS hlt hj
            go_wp2_with fail
            rw [← HPP.out]
            exact ⟨true, rfl, ⟨fun _ => ⟨by rw [HN.out]; exact HF.out, HS2.out⟩, fun _ => rfl⟩, HBw.out⟩
      · have hb1 : ((n : Int) == 0) = false := by simp; omega
        have hb2 : ((n : Int) != 0) = true := by simp [bne, hb1]
        clear HX
        have HNF : Hid (¬ FairV (3) 0 db ⟨#[]⟩ n) := fun h => by have h4 := h.2.2.2.2.2.2.2.2; omega
        go_enter Tryd.func32, Tryd.ntmps32
        go_wp2_with fail
        rw [← HPP.out]
        exact ⟨false, rfl, ⟨fun h => (by cases h), fun h => absurd h.1 (by rw [HN.out]; exact HNF.out)⟩, (Below.refl _ _).alloc (Nat.le_refl _) _⟩
    · obtain ⟨hb1, hb2, hb3⟩ := ds_ne hds
      clear HX
      have HNF : Hid (¬ FairV (3) 0 db ds n) := fun h => by (have h4 := h.2.2.2.2.2.1; rcases h4 with h4 | h4 | h4 | h4 | h4; omega; omega; omega; omega; exact hds h4)
      go_enter Tryd.func32, Tryd.ntmps32
      go_wp2_with fail
      rw [← HPP.out]
      exact ⟨false, rfl, ⟨fun h => (by cases h), fun h => absurd h.1 (by rw [HN.out]; exact HNF.out)⟩, (Below.refl _ _).alloc (Nat.le_refl _) _⟩
  · obtain ⟨hb1, hb2⟩ := int_ne hdi
    clear HX
    have HNF : Hid (¬ FairV (3) di db ds n) := fun h => by have h4 := h.2.2.2.1; omega
    go_enter Tryd.func32, Tryd.ntmps32
    go_wp2_with fail
    rw [← HPP.out]
    exact ⟨false, rfl, ⟨fun h => (by cases h), fun h => absurd h.1 (by rw [HN.out]; exact HNF.out)⟩, (Below.refl _ _).alloc (Nat.le_refl _) _⟩
set_option maxRecDepth 100000 in
set_option maxHeartbeats 8000000 in
theorem right_k4 (k : Nat) (ih : RC k) (w : World) (di db : Int) (ds : ByteArray) (p : Option Addr) (n cap : Nat) (ps : List Dv) (hD : DvIs w (k + 1) [.int .i64 4, .int .i64 di, .int .u64 db, .string ds, .slice p n cap] (.mk 4 di db ds ps)) :
    Calls Tryd.prog 32 #[.agg #[.int .i64 4, .int .i64 di, .int .u64 db, .string ds, .slice p n cap]] w (FairPost (.mk 4 di db ds ps) w) := by
  have IH := Lib.hid ih
  have HX := trivial
  obtain ⟨hn, -, -, -, k1, k2⟩ := hD.top
  have HN : Hid (ps.length = n) := hn.symm
  clear hn ih
  obtain ⟨PP, hPP⟩ : ∃ PP, FairPost (.mk 4 di db ds ps) w = PP := ⟨_, rfl⟩
  rw [hPP]
  have HPP := Lib.hid hPP
  have HD := Lib.hid hD
  clear hPP hD
  by_cases hdi : di = 0
  · subst hdi
    by_cases hdb : db = 0
    · subst hdb
      by_cases hnn : n = 0
      · subst hnn
        by_cases hts : ds.size ≤ 65535
        · have hsz : ¬ (65535 : Int) < (ds.size : Int) := by omega
          have HF : Hid (FairV _ _ _ _ _) := (show FairV (4) 0 0 ds 0 from ⟨by omega, by omega, hts, by simp, by simp, by simp, by simp, by simp, by simp⟩)
          clear HX
          go_enter Tryd.func32, Tryd.ntmps32
          go_wp2_with fail
          go_loopw [7, 89] (fun u1 i wr => ∃ (j : Nat), i = .int .i64 (j : Nat) ∧ j ≤ 0 ∧ Hid (Below w.heap.size w wr) ∧ w.heap.size < wr.heap.size ∧ wr.cell? ⟨w.heap.size, 4, none⟩ = some (.slice p 0 cap) ∧ Hid (Fairs (ps.take j))) (fun _ i _ => 0 - (intOf i).toNat)
          case atStart => exact ⟨0, rfl, by omega, (Below.refl _ _).alloc (Nat.le_refl _) _, by simp, by go_simp, trivial⟩
          case round =>
            obtain ⟨j, rfl, hj, HBw, f3, f2, HS⟩ := hrel
            by_cases hlt : j < 0
            · exact absurd hlt (Nat.not_lt_zero _)
            · have hjn : j = 0 := by omega
              subst hjn
              have HS2 : Hid (Fairs ps) := by
                have h := HS.out
                rw [List.take_of_length_le (by rw [HN.out]; exact Nat.le_refl _)] at h
                exact h
              clear HS hlt hj
              go_wp2_with fail
              rw [← HPP.out]
              exact ⟨true, rfl, ⟨fun _ => ⟨by rw [HN.out]; exact HF.out, HS2.out⟩, fun _ => rfl⟩, HBw.out⟩
        · have hsz : (65535 : Int) < (ds.size : Int) := by omega
          clear HX
          have HNF : Hid (¬ FairV (4) 0 0 ds 0) := fun h => hts h.2.2.1
          go_enter Tryd.func32, Tryd.ntmps32
          go_wp2_with fail
          rw [← HPP.out]
          exact ⟨false, rfl, ⟨fun h => (by cases h), fun h => absurd h.1 (by rw [HN.out]; exact HNF.out)⟩, (Below.refl _ _).alloc (Nat.le_refl _) _⟩
      · have hb1 : ((n : Int) == 0) = false := by simp; omega
        have hb2 : ((n : Int) != 0) = true := by simp [bne, hb1]
        clear HX
        have HNF : Hid (¬ FairV (4) 0 0 ds n) := fun h => by have h4 := h.2.2.2.2.2.2.2.2; omega
        go_enter Tryd.func32, Tryd.ntmps32
        go_wp2_with fail
        rw [← HPP.out]
        exact ⟨false, rfl, ⟨fun h => (by cases h), fun h => absurd h.1 (by rw [HN.out]; exact HNF.out)⟩, (Below.refl _ _).alloc (Nat.le_refl _) _⟩
    · obtain ⟨hb1, hb2⟩ := int_ne hdb
      clear HX
      have HNF : Hid (¬ FairV (4) 0 db ds n) := fun h => by have h4 := h.2.2.2.2.1; omega
      go_enter Tryd.func32, Tryd.ntmps32
      go_wp2_with fail
      rw [← HPP.out]
      exact ⟨false, rfl, ⟨fun h => (by cases h), fun h => absurd h.1 (by rw [HN.out]; exact HNF.out)⟩, (Below.refl _ _).alloc (Nat.le_refl _) _⟩
  · obtain ⟨hb1, hb2⟩ := int_ne hdi
    clear HX
    have HNF : Hid (¬ FairV (4) di db ds n) := fun h => by have h4 := h.2.2.2.1; omega
    go_enter Tryd.func32, Tryd.ntmps32
    go_wp2_with fail
    rw [← HPP.out]
    exact ⟨false, rfl, ⟨fun h => (by cases h), fun h => absurd h.1 (by rw [HN.out]; exact HNF.out)⟩, (Below.refl _ _).alloc (Nat.le_refl _) _⟩
set_option maxRecDepth 100000 in
set_option maxHeartbeats 8000000 in
theorem right_k5 (k : Nat) (ih : RC k) (w : World) (di db : Int) (ds : ByteArray) (p : Option Addr) (n cap : Nat) (ps : List Dv) (hD : DvIs w (k + 1) [.int .i64 5, .int .i64 di, .int .u64 db, .string ds, .slice p n cap] (.mk 5 di db ds ps)) :
    Calls Tryd.prog 32 #[.agg #[.int .i64 5, .int .i64 di, .int .u64 db, .string ds, .slice p n cap]] w (FairPost (.mk 5 di db ds ps) w) := by
  have IH := Lib.hid ih
  have HX := trivial
  obtain ⟨hn, -, -, -, k1, k2⟩ := hD.top
  have HN : Hid (ps.length = n) := hn.symm
  clear hn ih
  obtain ⟨PP, hPP⟩ : ∃ PP, FairPost (.mk 5 di db ds ps) w = PP := ⟨_, rfl⟩
  rw [hPP]
  have HPP := Lib.hid hPP
  have HD := Lib.hid hD
  clear hPP hD
  by_cases hdi : di = 0
  · subst hdi
    by_cases hdb : db = 0
    · subst hdb
      by_cases hnn : n = 0
      · subst hnn
        by_cases hts : ds.size ≤ 65535
        · have hsz : ¬ (65535 : Int) < (ds.size : Int) := by omega
          have HF : Hid (FairV _ _ _ _ _) := (show FairV (5) 0 0 ds 0 from ⟨by omega, by omega, hts, by simp, by simp, by simp, by simp, by simp, by simp⟩)
          clear HX
          go_enter Tryd.func32, Tryd.ntmps32
          go_wp2_with fail
          go_loopw [7, 89] (fun u1 i wr => ∃ (j : Nat), i = .int .i64 (j : Nat) ∧ j ≤ 0 ∧ Hid (Below w.heap.size w wr) ∧ w.heap.size < wr.heap.size ∧ wr.cell? ⟨w.heap.size, 4, none⟩ = some (.slice p 0 cap) ∧ Hid (Fairs (ps.take j))) (fun _ i _ => 0 - (intOf i).toNat)
          case atStart => exact ⟨0, rfl, by omega, (Below.refl _ _).alloc (Nat.le_refl _) _, by simp, by go_simp, trivial⟩
          case round =>
            obtain ⟨j, rfl, hj, HBw, f3, f2, HS⟩ := hrel
            by_cases hlt : j < 0
            · exact absurd hlt (Nat.not_lt_zero _)
            · have hjn : j = 0 := by omega
              subst hjn
              have HS2 : Hid (Fairs ps) := by
                have h := HS.out
                rw [List.take_of_length_le (by rw [HN.out]; exact Nat.le_refl _)] at h
                exact h
              clear HS hlt hj
              go_wp2_with fail
              rw [← HPP.out]
              exact ⟨true, rfl, ⟨fun _ => ⟨by rw [HN.out]; exact HF.out, HS2.out⟩, fun _ => rfl⟩, HBw.out⟩
        · have hsz : (65535 : Int) < (ds.size : Int) := by omega
          clear HX
          have HNF : Hid (¬ FairV (5) 0 0 ds 0) := fun h => hts h.2.2.1
          go_enter Tryd.func32, Tryd.ntmps32
          go_wp2_with fail
          rw [← HPP.out]
          exact ⟨false, rfl, ⟨fun h => (by cases h), fun h => absurd h.1 (by rw [HN.out]; exact HNF.out)⟩, (Below.refl _ _).alloc (Nat.le_refl _) _⟩
      · have hb1 : ((n : Int) == 0) = false := by simp; omega
        have hb2 : ((n : Int) != 0) = true := by simp [bne, hb1]
        clear HX
        have HNF : Hid (¬ FairV (5) 0 0 ds n) := fun h => by have h4 := h.2.2.2.2.2.2.2.2; omega
        go_enter Tryd.func32, Tryd.ntmps32
        go_wp2_with fail
        rw [← HPP.out]
        exact ⟨false, rfl, ⟨fun h => (by cases h), fun h => absurd h.1 (by rw [HN.out]; exact HNF.out)⟩, (Below.refl _ _).alloc (Nat.le_refl _) _⟩
    · obtain ⟨hb1, hb2⟩ := int_ne hdb
      clear HX
      have HNF : Hid (¬ FairV (5) 0 db ds n) := fun h => by have h4 := h.2.2.2.2.1; omega
      go_enter Tryd.func32, Tryd.ntmps32
      go_wp2_with fail
      rw [← HPP.out]
      exact ⟨false, rfl, ⟨fun h => (by cases h), fun h => absurd h.1 (by rw [HN.out]; exact HNF.out)⟩, (Below.refl _ _).alloc (Nat.le_refl _) _⟩
  · obtain ⟨hb1, hb2⟩ := int_ne hdi
    clear HX
    have HNF : Hid (¬ FairV (5) di db ds n) := fun h => by have h4 := h.2.2.2.1; omega
    go_enter Tryd.func32, Tryd.ntmps32
    go_wp2_with fail
    rw [← HPP.out]
    exact ⟨false, rfl, ⟨fun h => (by cases h), fun h => absurd h.1 (by rw [HN.out]; exact HNF.out)⟩, (Below.refl _ _).alloc (Nat.le_refl _) _⟩
set_option maxRecDepth 100000 in
set_option maxHeartbeats 8000000 in
theorem right_k7 (k : Nat) (ih : RC k) (w : World) (di db : Int) (ds : ByteArray) (p : Option Addr) (n cap : Nat) (ps : List Dv) (hD : DvIs w (k + 1) [.int .i64 7, .int .i64 di, .int .u64 db, .string ds, .slice p n cap] (.mk 7 di db ds ps)) :
    Calls Tryd.prog 32 #[.agg #[.int .i64 7, .int .i64 di, .int .u64 db, .string ds, .slice p n cap]] w (FairPost (.mk 7 di db ds ps) w) := by
  have IH := Lib.hid ih
  have HX := trivial
  obtain ⟨hn, -, -, -, k1, k2⟩ := hD.top
  have HN : Hid (ps.length = n) := hn.symm
  clear hn ih
  obtain ⟨PP, hPP⟩ : ∃ PP, FairPost (.mk 7 di db ds ps) w = PP := ⟨_, rfl⟩
  rw [hPP]
  have HPP := Lib.hid hPP
  have HD := Lib.hid hD
  clear hPP hD
  by_cases hdi : di = 0
  · subst hdi
    by_cases hdb : db = 0
    · subst hdb
      by_cases hnn : n = 0
      · subst hnn
        by_cases hts : ds.size ≤ 65535
        · have hsz : ¬ (65535 : Int) < (ds.size : Int) := by omega
          have HF : Hid (FairV _ _ _ _ _) := (show FairV (7) 0 0 ds 0 from ⟨by omega, by omega, hts, by simp, by simp, by simp, by simp, by simp, by simp⟩)
          clear HX
          go_enter Tryd.func32, Tryd.ntmps32
          go_wp2_with fail
          go_loopw [7, 89] (fun u1 i wr => ∃ (j : Nat), i = .int .i64 (j : Nat) ∧ j ≤ 0 ∧ Hid (Below w.heap.size w wr) ∧ w.heap.size < wr.heap.size ∧ wr.cell? ⟨w.heap.size, 4, none⟩ = some (.slice p 0 cap) ∧ Hid (Fairs (ps.take j))) (fun _ i _ => 0 - (intOf i).toNat)
          case atStart => exact ⟨0, rfl, by omega, (Below.refl _ _).alloc (Nat.le_refl _) _, by simp, by go_simp, trivial⟩
          case round =>
            obtain ⟨j, rfl, hj, HBw, f3, f2, HS⟩ := hrel
            by_cases hlt : j < 0
            · exact absurd hlt (Nat.not_lt_zero _)
            · have hjn : j = 0 := by omega
              subst hjn
              have HS2 : Hid (Fairs ps) := by
                have h := HS.out
                rw [List.take_of_length_le (by rw [HN.out]; exact Nat.le_refl _)] at h
                exact h
              clear HS hlt hj
              go_wp2_with fail
              rw [← HPP.out]
              exact ⟨true, rfl, ⟨fun _ => ⟨by rw [HN.out]; exact HF.out, HS2.out⟩, fun _ => rfl⟩, HBw.out⟩
        · have hsz : (65535 : Int) < (ds.size : Int) := by omega
          clear HX
          have HNF : Hid (¬ FairV (7) 0 0 ds 0) := fun h => hts h.2.2.1
          go_enter Tryd.func32, Tryd.ntmps32
          go_wp2_with fail
          rw [← HPP.out]
          exact ⟨false, rfl, ⟨fun h => (by cases h), fun h => absurd h.1 (by rw [HN.out]; exact HNF.out)⟩, (Below.refl _ _).alloc (Nat.le_refl _) _⟩
      · have hb1 : ((n : Int) == 0) = false := by simp; omega
        have hb2 : ((n : Int) != 0) = true := by simp [bne, hb1]
        clear HX
        have HNF : Hid (¬ FairV (7) 0 0 ds n) := fun h => by have h4 := h.2.2.2.2.2.2.2.2; omega
        go_enter Tryd.func32, Tryd.ntmps32
        go_wp2_with fail
        rw [← HPP.out]
        exact ⟨false, rfl, ⟨fun h => (by cases h), fun h => absurd h.1 (by rw [HN.out]; exact HNF.out)⟩, (Below.refl _ _).alloc (Nat.le_refl _) _⟩
    · obtain ⟨hb1, hb2⟩ := int_ne hdb
      clear HX
      have HNF : Hid (¬ FairV (7) 0 db ds n) := fun h => by have h4 := h.2.2.2.2.1; omega
      go_enter Tryd.func32, Tryd.ntmps32
      go_wp2_with fail
      rw [← HPP.out]
      exact ⟨false, rfl, ⟨fun h => (by cases h), fun h => absurd h.1 (by rw [HN.out]; exact HNF.out)⟩, (Below.refl _ _).alloc (Nat.le_refl _) _⟩
  · obtain ⟨hb1, hb2⟩ := int_ne hdi
    clear HX
    have HNF : Hid (¬ FairV (7) di db ds n) := fun h => by have h4 := h.2.2.2.1; omega
    go_enter Tryd.func32, Tryd.ntmps32
    go_wp2_with fail
    rw [← HPP.out]
    exact ⟨false, rfl, ⟨fun h => (by cases h), fun h => absurd h.1 (by rw [HN.out]; exact HNF.out)⟩, (Below.refl _ _).alloc (Nat.le_refl _) _⟩

set_option maxRecDepth 100000 in
set_option maxHeartbeats 8000000 in
theorem right_k8 (k : Nat) (ih : RC k) (w : World) (di db : Int) (ds : ByteArray) (p : Option Addr) (n cap : Nat) (ps : List Dv) (hD : DvIs w (k + 1) [.int .i64 8, .int .i64 di, .int .u64 db, .string ds, .slice p n cap] (.mk 8 di db ds ps)) :
    Calls Tryd.prog 32 #[.agg #[.int .i64 8, .int .i64 di, .int .u64 db, .string ds, .slice p n cap]] w (FairPost (.mk 8 di db ds ps) w) := by
  have IH := Lib.hid ih
  have HX := trivial
  obtain ⟨hn, -, -, -, k1, k2⟩ := hD.top
  have HN : Hid (ps.length = n) := hn.symm
  clear hn ih
  obtain ⟨PP, hPP⟩ : ∃ PP, FairPost (.mk 8 di db ds ps) w = PP := ⟨_, rfl⟩
  rw [hPP]
  have HPP := Lib.hid hPP
  have HD := Lib.hid hD
  clear hPP hD
  by_cases hdi : di = 0
  · subst hdi
    by_cases hdb : db = 0
    · subst hdb
      by_cases hds : ds = ⟨#[]⟩
      · subst hds
        have HF : Hid (FairV _ _ _ _ _) := (show FairV (8) 0 0 ⟨#[]⟩ n from ⟨by omega, by omega, by decide, by simp, by simp, by simp, by simp, by simp, by simp⟩)
        clear HX
        go_enter Tryd.func32, Tryd.ntmps32
        go_wp2_with fail
        go_loopw [7, 89] (fun u1 i wr => ∃ (j : Nat), i = .int .i64 (j : Nat) ∧ j ≤ n ∧ Hid (Below w.heap.size w wr) ∧ w.heap.size < wr.heap.size ∧ wr.cell? ⟨w.heap.size, 4, none⟩ = some (.slice p n cap) ∧ Hid (Fairs (ps.take j))) (fun _ i _ => n - (intOf i).toNat)
        case atStart => exact ⟨0, rfl, by omega, (Below.refl _ _).alloc (Nat.le_refl _) _, by simp, by go_simp, trivial⟩
        case round =>
          obtain ⟨j, rfl, hj, HBw, f3, f2, HS⟩ := hrel
          by_cases hlt : j < n
          · obtain ⟨t, ht⟩ : ∃ t, ps[j]? = some t := ⟨_, List.getElem?_eq_getElem (by rw [HN.out]; exact hlt)⟩
            obtain ⟨b, o, kd', di', db', ds', q, m, c, ps', rfl, hbl, rfl, d0, d1, d2, d3, d4, hP⟩ := (HD.out.below HBw.out).part ht
            have HT := Lib.hid (fairs_next ht)
            have CX : Hid (Calls Tryd.prog 32 #[.agg #[.int .i64 kd', .int .i64 di', .int .u64 db', .string ds', .slice q m c]] wr (FairPost (.mk kd' di' db' ds' ps') wr)) := IH.out wr kd' di' db' ds' q m c ps' hP
            have g1 : (j : Int) < (n : Int) := by omega
            clear hP ht
            go_wp2_with fail
            refine CX.out.mono ?_
            rintro r' W ⟨b9, rfl, hiff, hb2⟩
            have HB2 := Lib.hid (HBw.out.trans (hb2.mono (Nat.le_of_lt f3)))
            have hs2 := hb2.size
            have f2' := (hb2.cell f3).trans f2
            clear hb2 d0 d1 d2 d3 d4 f2
            cases b9 with
            | true =>
              have HS2 : Hid (Fairs (ps.take (j + 1))) := HT.out.1.2 ⟨HS.out, hiff.1 rfl⟩
              clear hiff
              go_wp2_with fail
              go_roundw
              case rel => exact ⟨j + 1, by go_num, by omega, HB2.out, by omega, f2', HS2.out⟩
              case measure => simp [intOf]; omega
            | false =>
              have HNF : Hid (¬ Fairs ps) := fun h => absurd (hiff.2 (HT.out.2 h)) (by decide)
              clear hiff
              go_wp2_with fail
              rw [← HPP.out]
              exact ⟨false, rfl, ⟨fun h => (by cases h), fun h => absurd h.2 HNF.out⟩, HB2.out⟩
          · have hjn : j = n := by omega
            subst hjn
            have HS2 : Hid (Fairs ps) := by
              have h := HS.out
              rw [List.take_of_length_le (by rw [HN.out]; exact Nat.le_refl _)] at h
              exact h
            clear HS hlt hj
            go_wp2_with fail
            rw [← HPP.out]
            exact ⟨true, rfl, ⟨fun _ => ⟨by rw [HN.out]; exact HF.out, HS2.out⟩, fun _ => rfl⟩, HBw.out⟩
      · obtain ⟨hb1, hb2, hb3⟩ := ds_ne hds
        clear HX
        have HNF : Hid (¬ FairV (8) 0 0 ds n) := fun h => by (have h4 := h.2.2.2.2.2.1; rcases h4 with h4 | h4 | h4 | h4 | h4; omega; omega; omega; omega; exact hds h4)
        go_enter Tryd.func32, Tryd.ntmps32
        go_wp2_with fail
        rw [← HPP.out]
        exact ⟨false, rfl, ⟨fun h => (by cases h), fun h => absurd h.1 (by rw [HN.out]; exact HNF.out)⟩, (Below.refl _ _).alloc (Nat.le_refl _) _⟩
    · obtain ⟨hb1, hb2⟩ := int_ne hdb
      clear HX
      have HNF : Hid (¬ FairV (8) 0 db ds n) := fun h => by have h4 := h.2.2.2.2.1; omega
      go_enter Tryd.func32, Tryd.ntmps32
      go_wp2_with fail
      rw [← HPP.out]
      exact ⟨false, rfl, ⟨fun h => (by cases h), fun h => absurd h.1 (by rw [HN.out]; exact HNF.out)⟩, (Below.refl _ _).alloc (Nat.le_refl _) _⟩
  · obtain ⟨hb1, hb2⟩ := int_ne hdi
    clear HX
    have HNF : Hid (¬ FairV (8) di db ds n) := fun h => by have h4 := h.2.2.2.1; omega
    go_enter Tryd.func32, Tryd.ntmps32
    go_wp2_with fail
    rw [← HPP.out]
    exact ⟨false, rfl, ⟨fun h => (by cases h), fun h => absurd h.1 (by rw [HN.out]; exact HNF.out)⟩, (Below.refl _ _).alloc (Nat.le_refl _) _⟩
set_option maxRecDepth 100000 in
set_option maxHeartbeats 8000000 in
theorem right_k9 (k : Nat) (ih : RC k) (w : World) (di db : Int) (ds : ByteArray) (p : Option Addr) (n cap : Nat) (ps : List Dv) (hD : DvIs w (k + 1) [.int .i64 9, .int .i64 di, .int .u64 db, .string ds, .slice p n cap] (.mk 9 di db ds ps)) :
    Calls Tryd.prog 32 #[.agg #[.int .i64 9, .int .i64 di, .int .u64 db, .string ds, .slice p n cap]] w (FairPost (.mk 9 di db ds ps) w) := by
  have IH := Lib.hid ih
  have HX := trivial
  obtain ⟨hn, -, -, -, k1, k2⟩ := hD.top
  have HN : Hid (ps.length = n) := hn.symm
  clear hn ih
  obtain ⟨PP, hPP⟩ : ∃ PP, FairPost (.mk 9 di db ds ps) w = PP := ⟨_, rfl⟩
  rw [hPP]
  have HPP := Lib.hid hPP
  have HD := Lib.hid hD
  clear hPP hD
  by_cases hdi : di = 0
  · subst hdi
    by_cases hdb : db = 0
    · subst hdb
      by_cases hds : ds = ⟨#[]⟩
      · subst hds
        by_cases hnn : n = 2
        · subst hnn
          have HF : Hid (FairV _ _ _ _ _) := (show FairV (9) 0 0 ⟨#[]⟩ 2 from ⟨by omega, by omega, by decide, by simp, by simp, by simp, by simp, by simp, by simp⟩)
          clear HX
          go_enter Tryd.func32, Tryd.ntmps32
          go_wp2_with fail
          go_loopw [7, 89] (fun u1 i wr => ∃ (j : Nat), i = .int .i64 (j : Nat) ∧ j ≤ 2 ∧ Hid (Below w.heap.size w wr) ∧ w.heap.size < wr.heap.size ∧ wr.cell? ⟨w.heap.size, 4, none⟩ = some (.slice p 2 cap) ∧ Hid (Fairs (ps.take j))) (fun _ i _ => 2 - (intOf i).toNat)
          case atStart => exact ⟨0, rfl, by omega, (Below.refl _ _).alloc (Nat.le_refl _) _, by simp, by go_simp, trivial⟩
          case round =>
            obtain ⟨j, rfl, hj, HBw, f3, f2, HS⟩ := hrel
            by_cases hlt : j < 2
            · obtain ⟨t, ht⟩ : ∃ t, ps[j]? = some t := ⟨_, List.getElem?_eq_getElem (by rw [HN.out]; exact hlt)⟩
              obtain ⟨b, o, kd', di', db', ds', q, m, c, ps', rfl, hbl, rfl, d0, d1, d2, d3, d4, hP⟩ := (HD.out.below HBw.out).part ht
              have HT := Lib.hid (fairs_next ht)
              have CX : Hid (Calls Tryd.prog 32 #[.agg #[.int .i64 kd', .int .i64 di', .int .u64 db', .string ds', .slice q m c]] wr (FairPost (.mk kd' di' db' ds' ps') wr)) := IH.out wr kd' di' db' ds' q m c ps' hP
              have g1 : (j : Int) < (2 : Int) := by omega
              clear hP ht
              go_wp2_with fail
              refine CX.out.mono ?_
              rintro r' W ⟨b9, rfl, hiff, hb2⟩
              have HB2 := Lib.hid (HBw.out.trans (hb2.mono (Nat.le_of_lt f3)))
              have hs2 := hb2.size
              have f2' := (hb2.cell f3).trans f2
              clear hb2 d0 d1 d2 d3 d4 f2
              cases b9 with
              | true =>
                have HS2 : Hid (Fairs (ps.take (j + 1))) := HT.out.1.2 ⟨HS.out, hiff.1 rfl⟩
                clear hiff
                go_wp2_with fail
                go_roundw
                case rel => exact ⟨j + 1, by go_num, by omega, HB2.out, by omega, f2', HS2.out⟩
                case measure => simp [intOf]; omega
              | false =>
                have HNF : Hid (¬ Fairs ps) := fun h => absurd (hiff.2 (HT.out.2 h)) (by decide)
                clear hiff
                go_wp2_with fail
                rw [← HPP.out]
                exact ⟨false, rfl, ⟨fun h => (by cases h), fun h => absurd h.2 HNF.out⟩, HB2.out⟩
            · have hjn : j = 2 := by omega
              subst hjn
              have HS2 : Hid (Fairs ps) := by
                have h := HS.out
                rw [List.take_of_length_le (by rw [HN.out]; exact Nat.le_refl _)] at h
                exact h
              clear HS hlt hj
              go_wp2_with fail
              rw [← HPP.out]
              exact ⟨true, rfl, ⟨fun _ => ⟨by rw [HN.out]; exact HF.out, HS2.out⟩, fun _ => rfl⟩, HBw.out⟩
        · have hb1 : ((n : Int) == 2) = false := by simp; omega
          have hb2 : ((n : Int) != 2) = true := by simp [bne, hb1]
          clear HX
          have HNF : Hid (¬ FairV (9) 0 0 ⟨#[]⟩ n) := fun h => by have h4 := h.2.2.2.2.2.2.2.2; omega
          go_enter Tryd.func32, Tryd.ntmps32
          go_wp2_with fail
          rw [← HPP.out]
          exact ⟨false, rfl, ⟨fun h => (by cases h), fun h => absurd h.1 (by rw [HN.out]; exact HNF.out)⟩, (Below.refl _ _).alloc (Nat.le_refl _) _⟩
      · obtain ⟨hb1, hb2, hb3⟩ := ds_ne hds
        clear HX
        have HNF : Hid (¬ FairV (9) 0 0 ds n) := fun h => by (have h4 := h.2.2.2.2.2.1; rcases h4 with h4 | h4 | h4 | h4 | h4; omega; omega; omega; omega; exact hds h4)
        go_enter Tryd.func32, Tryd.ntmps32
        go_wp2_with fail
        rw [← HPP.out]
        exact ⟨false, rfl, ⟨fun h => (by cases h), fun h => absurd h.1 (by rw [HN.out]; exact HNF.out)⟩, (Below.refl _ _).alloc (Nat.le_refl _) _⟩
    · obtain ⟨hb1, hb2⟩ := int_ne hdb
      clear HX
      have HNF : Hid (¬ FairV (9) 0 db ds n) := fun h => by have h4 := h.2.2.2.2.1; omega
      go_enter Tryd.func32, Tryd.ntmps32
      go_wp2_with fail
      rw [← HPP.out]
      exact ⟨false, rfl, ⟨fun h => (by cases h), fun h => absurd h.1 (by rw [HN.out]; exact HNF.out)⟩, (Below.refl _ _).alloc (Nat.le_refl _) _⟩
  · obtain ⟨hb1, hb2⟩ := int_ne hdi
    clear HX
    have HNF : Hid (¬ FairV (9) di db ds n) := fun h => by have h4 := h.2.2.2.1; omega
    go_enter Tryd.func32, Tryd.ntmps32
    go_wp2_with fail
    rw [← HPP.out]
    exact ⟨false, rfl, ⟨fun h => (by cases h), fun h => absurd h.1 (by rw [HN.out]; exact HNF.out)⟩, (Below.refl _ _).alloc (Nat.le_refl _) _⟩
set_option maxRecDepth 100000 in
set_option maxHeartbeats 8000000 in
theorem right_k10 (k : Nat) (ih : RC k) (w : World) (di db : Int) (ds : ByteArray) (p : Option Addr) (n cap : Nat) (ps : List Dv) (hD : DvIs w (k + 1) [.int .i64 10, .int .i64 di, .int .u64 db, .string ds, .slice p n cap] (.mk 10 di db ds ps)) :
    Calls Tryd.prog 32 #[.agg #[.int .i64 10, .int .i64 di, .int .u64 db, .string ds, .slice p n cap]] w (FairPost (.mk 10 di db ds ps) w) := by
  have IH := Lib.hid ih
  have HX := trivial
  obtain ⟨hn, -, -, -, k1, k2⟩ := hD.top
  have HN : Hid (ps.length = n) := hn.symm
  clear hn ih
  obtain ⟨PP, hPP⟩ : ∃ PP, FairPost (.mk 10 di db ds ps) w = PP := ⟨_, rfl⟩
  rw [hPP]
  have HPP := Lib.hid hPP
  have HD := Lib.hid hD
  clear hPP hD
  by_cases hdb : db = 0
  · subst hdb
    by_cases hnn : n = 0
    · subst hnn
      by_cases hts : ds.size ≤ 65535
      · have hsz : ¬ (65535 : Int) < (ds.size : Int) := by omega
        have HF : Hid (FairV _ _ _ _ _) := (show FairV (10) di 0 ds 0 from ⟨by omega, by omega, hts, by simp, by simp, by simp, by simp, by simp, by simp⟩)
        clear HX
        go_enter Tryd.func32, Tryd.ntmps32
        go_wp2_with fail
        go_loopw [7, 89] (fun u1 i wr => ∃ (j : Nat), i = .int .i64 (j : Nat) ∧ j ≤ 0 ∧ Hid (Below w.heap.size w wr) ∧ w.heap.size < wr.heap.size ∧ wr.cell? ⟨w.heap.size, 4, none⟩ = some (.slice p 0 cap) ∧ Hid (Fairs (ps.take j))) (fun _ i _ => 0 - (intOf i).toNat)
        case atStart => exact ⟨0, rfl, by omega, (Below.refl _ _).alloc (Nat.le_refl _) _, by simp, by go_simp, trivial⟩
        case round =>
          obtain ⟨j, rfl, hj, HBw, f3, f2, HS⟩ := hrel
          by_cases hlt : j < 0
          · exact absurd hlt (Nat.not_lt_zero _)
          · have hjn : j = 0 := by omega
            subst hjn
            have HS2 : Hid (Fairs ps) := by
              have h := HS.out
              rw [List.take_of_length_le (by rw [HN.out]; exact Nat.le_refl _)] at h
              exact h
            clear HS hlt hj
            go_wp2_with fail
            rw [← HPP.out]
            exact ⟨true, rfl, ⟨fun _ => ⟨by rw [HN.out]; exact HF.out, HS2.out⟩, fun _ => rfl⟩, HBw.out⟩
      · have hsz : (65535 : Int) < (ds.size : Int) := by omega
        clear HX
        have HNF : Hid (¬ FairV (10) di 0 ds 0) := fun h => hts h.2.2.1
        go_enter Tryd.func32, Tryd.ntmps32
        go_wp2_with fail
        rw [← HPP.out]
        exact ⟨false, rfl, ⟨fun h => (by cases h), fun h => absurd h.1 (by rw [HN.out]; exact HNF.out)⟩, (Below.refl _ _).alloc (Nat.le_refl _) _⟩
    · have hb1 : ((n : Int) == 0) = false := by simp; omega
      have hb2 : ((n : Int) != 0) = true := by simp [bne, hb1]
      clear HX
      have HNF : Hid (¬ FairV (10) di 0 ds n) := fun h => by have h4 := h.2.2.2.2.2.2.2.2; omega
      go_enter Tryd.func32, Tryd.ntmps32
      go_wp2_with fail
      rw [← HPP.out]
      exact ⟨false, rfl, ⟨fun h => (by cases h), fun h => absurd h.1 (by rw [HN.out]; exact HNF.out)⟩, (Below.refl _ _).alloc (Nat.le_refl _) _⟩
  · obtain ⟨hb1, hb2⟩ := int_ne hdb
    clear HX
    have HNF : Hid (¬ FairV (10) di db ds n) := fun h => by have h4 := h.2.2.2.2.1; omega
    go_enter Tryd.func32, Tryd.ntmps32
    go_wp2_with fail
    rw [← HPP.out]
    exact ⟨false, rfl, ⟨fun h => (by cases h), fun h => absurd h.1 (by rw [HN.out]; exact HNF.out)⟩, (Below.refl _ _).alloc (Nat.le_refl _) _⟩
set_option maxRecDepth 100000 in
set_option maxHeartbeats 8000000 in
theorem right_k11 (k : Nat) (ih : RC k) (w : World) (di db : Int) (ds : ByteArray) (p : Option Addr) (n cap : Nat) (ps : List Dv) (hD : DvIs w (k + 1) [.int .i64 11, .int .i64 di, .int .u64 db, .string ds, .slice p n cap] (.mk 11 di db ds ps)) :
    Calls Tryd.prog 32 #[.agg #[.int .i64 11, .int .i64 di, .int .u64 db, .string ds, .slice p n cap]] w (FairPost (.mk 11 di db ds ps) w) := by
  have IH := Lib.hid ih
  have HX := trivial
  obtain ⟨hn, -, -, -, k1, k2⟩ := hD.top
  have HN : Hid (ps.length = n) := hn.symm
  clear hn ih
  obtain ⟨PP, hPP⟩ : ∃ PP, FairPost (.mk 11 di db ds ps) w = PP := ⟨_, rfl⟩
  rw [hPP]
  have HPP := Lib.hid hPP
  have HD := Lib.hid hD
  clear hPP hD
  by_cases hpre : 1 ≤ di
  · have hl1 : ¬ di < 1 := by omega
    by_cases hdb : db = 0
    · subst hdb
      by_cases hds : ds = ⟨#[]⟩
      · subst hds
        by_cases hnn : n = 1
        · subst hnn
          have HF : Hid (FairV _ _ _ _ _) := (show FairV (11) di 0 ⟨#[]⟩ 1 from ⟨by omega, by omega, by decide, by simp, by simp, by simp, by simp, fun _ => hpre, by simp⟩)
          clear HX
          go_enter Tryd.func32, Tryd.ntmps32
          go_wp2_with fail
          go_loopw [7, 89] (fun u1 i wr => ∃ (j : Nat), i = .int .i64 (j : Nat) ∧ j ≤ 1 ∧ Hid (Below w.heap.size w wr) ∧ w.heap.size < wr.heap.size ∧ wr.cell? ⟨w.heap.size, 4, none⟩ = some (.slice p 1 cap) ∧ Hid (Fairs (ps.take j))) (fun _ i _ => 1 - (intOf i).toNat)
          case atStart => exact ⟨0, rfl, by omega, (Below.refl _ _).alloc (Nat.le_refl _) _, by simp, by go_simp, trivial⟩
          case round =>
            obtain ⟨j, rfl, hj, HBw, f3, f2, HS⟩ := hrel
            by_cases hlt : j < 1
            · obtain ⟨t, ht⟩ : ∃ t, ps[j]? = some t := ⟨_, List.getElem?_eq_getElem (by rw [HN.out]; exact hlt)⟩
              obtain ⟨b, o, kd', di', db', ds', q, m, c, ps', rfl, hbl, rfl, d0, d1, d2, d3, d4, hP⟩ := (HD.out.below HBw.out).part ht
              have HT := Lib.hid (fairs_next ht)
              have CX : Hid (Calls Tryd.prog 32 #[.agg #[.int .i64 kd', .int .i64 di', .int .u64 db', .string ds', .slice q m c]] wr (FairPost (.mk kd' di' db' ds' ps') wr)) := IH.out wr kd' di' db' ds' q m c ps' hP
              have g1 : (j : Int) < (1 : Int) := by omega
              clear hP ht
              go_wp2_with fail
              refine CX.out.mono ?_
              rintro r' W ⟨b9, rfl, hiff, hb2⟩
              have HB2 := Lib.hid (HBw.out.trans (hb2.mono (Nat.le_of_lt f3)))
              have hs2 := hb2.size
              have f2' := (hb2.cell f3).trans f2
              clear hb2 d0 d1 d2 d3 d4 f2
              cases b9 with
              | true =>
                have HS2 : Hid (Fairs (ps.take (j + 1))) := HT.out.1.2 ⟨HS.out, hiff.1 rfl⟩
                clear hiff
                go_wp2_with fail
                go_roundw
                case rel => exact ⟨j + 1, by go_num, by omega, HB2.out, by omega, f2', HS2.out⟩
                case measure => simp [intOf]; omega
              | false =>
                have HNF : Hid (¬ Fairs ps) := fun h => absurd (hiff.2 (HT.out.2 h)) (by decide)
                clear hiff
                go_wp2_with fail
                rw [← HPP.out]
                exact ⟨false, rfl, ⟨fun h => (by cases h), fun h => absurd h.2 HNF.out⟩, HB2.out⟩
            · have hjn : j = 1 := by omega
              subst hjn
              have HS2 : Hid (Fairs ps) := by
                have h := HS.out
                rw [List.take_of_length_le (by rw [HN.out]; exact Nat.le_refl _)] at h
                exact h
              clear HS hlt hj
              go_wp2_with fail
              rw [← HPP.out]
              exact ⟨true, rfl, ⟨fun _ => ⟨by rw [HN.out]; exact HF.out, HS2.out⟩, fun _ => rfl⟩, HBw.out⟩
        · have hb1 : ((n : Int) == 1) = false := by simp; omega
          have hb2 : ((n : Int) != 1) = true := by simp [bne, hb1]
          clear HX
          have HNF : Hid (¬ FairV (11) di 0 ⟨#[]⟩ n) := fun h => by have h4 := h.2.2.2.2.2.2.2.2; omega
          go_enter Tryd.func32, Tryd.ntmps32
          go_wp2_with fail
          rw [← HPP.out]
          exact ⟨false, rfl, ⟨fun h => (by cases h), fun h => absurd h.1 (by rw [HN.out]; exact HNF.out)⟩, (Below.refl _ _).alloc (Nat.le_refl _) _⟩
      · obtain ⟨hb1, hb2, hb3⟩ := ds_ne hds
        clear HX
        have HNF : Hid (¬ FairV (11) di 0 ds n) := fun h => by (have h4 := h.2.2.2.2.2.1; rcases h4 with h4 | h4 | h4 | h4 | h4; omega; omega; omega; omega; exact hds h4)
        go_enter Tryd.func32, Tryd.ntmps32
        go_wp2_with fail
        rw [← HPP.out]
        exact ⟨false, rfl, ⟨fun h => (by cases h), fun h => absurd h.1 (by rw [HN.out]; exact HNF.out)⟩, (Below.refl _ _).alloc (Nat.le_refl _) _⟩
    · obtain ⟨hb1, hb2⟩ := int_ne hdb
      clear HX
      have HNF : Hid (¬ FairV (11) di db ds n) := fun h => by have h4 := h.2.2.2.2.1; omega
      go_enter Tryd.func32, Tryd.ntmps32
      go_wp2_with fail
      rw [← HPP.out]
      exact ⟨false, rfl, ⟨fun h => (by cases h), fun h => absurd h.1 (by rw [HN.out]; exact HNF.out)⟩, (Below.refl _ _).alloc (Nat.le_refl _) _⟩
  · have hl1 : di < 1 := by omega
    clear HX
    have HNF : Hid (¬ FairV (11) di db ds n) := fun h => hpre (h.2.2.2.2.2.2.2.1 rfl)
    go_enter Tryd.func32, Tryd.ntmps32
    go_wp2_with fail
    rw [← HPP.out]
    exact ⟨false, rfl, ⟨fun h => (by cases h), fun h => absurd h.1 (by rw [HN.out]; exact HNF.out)⟩, (Below.refl _ _).alloc (Nat.le_refl _) _⟩

set_option maxRecDepth 100000 in
set_option maxHeartbeats 8000000 in
theorem right_all : ∀ k, RC k := by
  intro k
  induction k with
  | zero => intro w kd di db ds p n cap ps h; exact h.elim
  | succ k ih =>
    intro w kd di db ds p n cap ps hD
    by_cases h0 : kd = 0
    · subst h0; exact right_k0 k ih w di db ds p n cap ps hD
    by_cases h1 : kd = 1
    · subst h1; exact right_k1 k ih w di db ds p n cap ps hD
    by_cases h2 : kd = 2
    · subst h2; exact right_k2 k ih w di db ds p n cap ps hD
    by_cases h3 : kd = 3
    · subst h3; exact right_k3 k ih w di db ds p n cap ps hD
    by_cases h4 : kd = 4
    · subst h4; exact right_k4 k ih w di db ds p n cap ps hD
    by_cases h5 : kd = 5
    · subst h5; exact right_k5 k ih w di db ds p n cap ps hD
    by_cases h6 : kd = 6
    · subst h6; exact right_k6 k ih w di db ds p n cap ps hD
    by_cases h7 : kd = 7
    · subst h7; exact right_k7 k ih w di db ds p n cap ps hD
    by_cases h8 : kd = 8
    · subst h8; exact right_k8 k ih w di db ds p n cap ps hD
    by_cases h9 : kd = 9
    · subst h9; exact right_k9 k ih w di db ds p n cap ps hD
    by_cases h10 : kd = 10
    · subst h10; exact right_k10 k ih w di db ds p n cap ps hD
    by_cases h11 : kd = 11
    · subst h11; exact right_k11 k ih w di db ds p n cap ps hD
    by_cases h12 : kd = 12
    · subst h12; exact right_k12 k ih w di db ds p n cap ps hD
    by_cases h13 : kd = 13
    · subst h13; exact right_k13 k ih w di db ds p n cap ps hD
    · obtain ⟨PP, hPP⟩ : ∃ PP, FairPost (.mk kd di db ds ps) w = PP := ⟨_, rfl⟩
      rw [hPP]
      have HPP := Lib.hid hPP
      have HNF : Hid (¬ FairV kd di db ds ps.length) := fun h => by have h1 := h.1; have h2 := h.2.1; omega
      have b0 : (kd == 0) = false := by simpa using (show kd ≠ 0 by omega)
      have b1 : (kd == 1) = false := by simpa using (show kd ≠ 1 by omega)
      have b2 : (kd == 2) = false := by simpa using (show kd ≠ 2 by omega)
      have b3 : (kd == 3) = false := by simpa using (show kd ≠ 3 by omega)
      have b4 : (kd == 4) = false := by simpa using (show kd ≠ 4 by omega)
      have b5 : (kd == 5) = false := by simpa using (show kd ≠ 5 by omega)
      have b6 : (kd == 6) = false := by simpa using (show kd ≠ 6 by omega)
      have b7 : (kd == 7) = false := by simpa using (show kd ≠ 7 by omega)
      have b8 : (kd == 8) = false := by simpa using (show kd ≠ 8 by omega)
      have b9 : (kd == 9) = false := by simpa using (show kd ≠ 9 by omega)
      have b10 : (kd == 10) = false := by simpa using (show kd ≠ 10 by omega)
      have b11 : (kd == 11) = false := by simpa using (show kd ≠ 11 by omega)
      have b12 : (kd == 12) = false := by simpa using (show kd ≠ 12 by omega)
      have b13 : (kd == 13) = false := by simpa using (show kd ≠ 13 by omega)
      clear hPP hD h0 h1 h2 h3 h4 h5 h6 h7 h8 h9 h10 h11 h12 h13
      go_enter Tryd.func32, Tryd.ntmps32
      go_wp2_with fail
      rw [← HPP.out]
      exact ⟨false, rfl, ⟨fun h => (by cases h), fun h => absurd h.1 HNF.out⟩, (Below.refl _ _).alloc (Nat.le_refl _) _⟩
def VB (t : Dv) : Prop := (t.size ≤ 4096 ∧ t.deep ≤ 16) ∧ t.Fair
def ValPost (t : Dv) (w : World) (r : Ending) (w' : World) : Prop := ∃ b : Bool, r = .returned (.bool b) ∧ (b = true ↔ VB t) ∧ Below w.heap.size w w'
set_option maxRecDepth 100000 in
set_option maxHeartbeats 4000000 in
theorem valid_any (k : Nat) (w : World) (kd di db : Int) (ds : ByteArray) (p : Option Addr) (n cap : Nat) (ps : List Dv) (hD : DvIs w k [.int .i64 kd, .int .i64 di, .int .u64 db, .string ds, .slice p n cap] (.mk kd di db ds ps)) :
    Calls Tryd.prog 10 #[.agg #[.int .i64 kd, .int .i64 di, .int .u64 db, .string ds, .slice p n cap]] w (ValPost (.mk kd di db ds ps) w) := by
  have CC : Hid (∀ W, Below w.heap.size w W → Calls Tryd.prog 31 #[.agg #[.int .i64 kd, .int .i64 di, .int .u64 db, .string ds, .slice p n cap], .int .i64 ((1 : Nat) : Int), .int .i64 ((4096 : Nat) : Int)] W (CntPost (.mk kd di db ds ps) 1 4096 W)) := fun W hb => cnt_any k W kd di db ds p n cap ps 1 4096 (hD.below hb) (by omega) (by omega)
  have CR : Hid (∀ W, Below w.heap.size w W → Calls Tryd.prog 32 #[.agg #[.int .i64 kd, .int .i64 di, .int .u64 db, .string ds, .slice p n cap]] W (FairPost (.mk kd di db ds ps) W)) := fun W hb => right_all k W kd di db ds p n cap ps (hD.below hb)
  obtain ⟨PP, hPP⟩ : ∃ PP, ValPost (.mk kd di db ds ps) w = PP := ⟨_, rfl⟩
  rw [hPP]
  have HPP := Lib.hid hPP
  have HB0 : Hid (Below w.heap.size w (w.alloc (.cells #[.int .i64 kd, .int .i64 di, .int .u64 db, .string ds, .slice p n cap] 25))) := (Below.refl _ _).alloc (Nat.le_refl _) _
  have HK : Hid (∀ W, Below (w.alloc (.cells #[.int .i64 kd, .int .i64 di, .int .u64 db, .string ds, .slice p n cap] 25)).heap.size (w.alloc (.cells #[.int .i64 kd, .int .i64 di, .int .u64 db, .string ds, .slice p n cap] 25)) W → W.heap[w.heap.size]? = some (.cells #[.int .i64 kd, .int .i64 di, .int .u64 db, .string ds, .slice p n cap] 25 (0, 0))) := fun W hb => by
    have h := hb.block w.heap.size (by simp)
    rw [h]
    exact heap_alloc_new w _
  clear hPP hD
  go_enter Tryd.func10, Tryd.ntmps10
  go_wp2_with fail
  refine (CC.out _ HB0.out).mono ?_
  rintro e W1 ⟨a, b, rfl, hb, hres⟩
  have H1 := Lib.hid (HB0.out.trans (hb.mono (by simp)))
  obtain ⟨c0, c1, c2, c3, c4, hlt⟩ := cells5 (HK.out W1 hb)
  clear hb
  rcases hres with ⟨hg, rfl, hb⟩ | ⟨hg, rfl⟩
  · have HG := Lib.hid hg
    obtain ⟨g1, g2⟩ := hg
    obtain ⟨T, hT⟩ : ∃ T, (Dv.mk kd di db ds ps).size = T := ⟨_, rfl⟩
    obtain ⟨D, hD⟩ : ∃ D, (Dv.mk kd di db ds ps).deep = D := ⟨_, rfl⟩
    rw [hT] at g1
    rw [hD] at g2 hb
    have hbD : b = (D : Int) := by omega
    subst hbD
    rw [hT]
    have hT2 : (T : Int) ≤ 4096 := by omega
    have hD2 : (D : Int) ≤ 16 := by omega
    clear g1 g2 hb hT hD
    go_wp2_with fail
    refine (CR.out W1 H1.out).mono ?_
    rintro e W2 ⟨b2, rfl, hiff, hb2⟩
    have H2 := Lib.hid (H1.out.trans (hb2.mono H1.out.size))
    have HI := Lib.hid hiff
    clear hb2 hiff c0 c1 c2 c3 c4
    go_wp2_with fail
    rw [← HPP.out]
    exact ⟨b2, rfl, ⟨fun h => ⟨⟨HG.out.1, by have := HG.out.2; omega⟩, HI.out.1 h⟩, fun h => HI.out.2 h.2⟩, H2.out⟩
  · have HG := Lib.hid hg
    clear hg
    go_wp2_with fail
    rw [← HPP.out]
    exact ⟨false, rfl, ⟨fun h => (by cases h), fun h => absurd ⟨h.1.1, by have := h.1.2; omega⟩ HG.out⟩, H1.out⟩
mutual
theorem fair_right {w : World} : ∀ (k : Nat) (cs : List Value) (t : Dv), DvIs w k cs t → t.Fair → t.size ≤ 4096 → t.Right
  | 0, _, _, h, _, _ => h.elim
  | k + 1, cs, .mk kd di db ds l, h, hf, hs => by
    obtain ⟨hF, hr⟩ := hf
    have hl := sizes_len l
    have hs' : 1 + sizes l ≤ 4096 := hs
    obtain ⟨p, cap, e, i1, i2, i3, h2, h3, h4⟩ := h
    obtain ⟨f0, f1, f2, f3, f4, f5, f6, f7, f8⟩ := hF
    refine ⟨⟨f0, f1, i2, i3.1, i3.2, f2, f3, f4, f5, f6, f7, by omega, by omega⟩, ?_⟩
    exact fairs_right k l (fun j t hj => by
      obtain ⟨b, o, hp, hc⟩ := h4 (by have := (List.getElem?_eq_some_iff.1 hj).1; omega)
      obtain ⟨c0, c1, c2, c3, c4, -, -, -, -, -, ht⟩ := hc j t hj
      exact ⟨_, ht⟩) hr (by omega)
theorem fairs_right {w : World} : ∀ (k : Nat) (l : List Dv), (∀ (j : Nat) (t : Dv), l[j]? = some t → ∃ cs, DvIs w k cs t) → Fairs l → sizes l ≤ 4096 → Rights l
  | _, [], _, _, _ => trivial
  | k, t :: r, hc, hf, hs => by
    have hs' : t.size + sizes r ≤ 4096 := hs
    obtain ⟨cs, h⟩ := hc 0 t rfl
    exact ⟨fair_right k cs t h hf.1 (by omega), fairs_right k r (fun j t hj => hc (j + 1) t hj) hf.2 (by omega)⟩
end
mutual
theorem right_fair : ∀ t : Dv, t.Right → t.Fair
  | .mk kd di db ds l, h => by
    obtain ⟨⟨f0, f1, i2, i3, i4, f2, f3, f4, f5, f6, f7, f8, f9⟩, hr⟩ := h
    exact ⟨⟨f0, f1, f2, f3, f4, f5, f6, f7, f9⟩, rights_fairs l hr⟩
theorem rights_fairs : ∀ l : List Dv, Rights l → Fairs l
  | [], _ => trivial
  | t :: r, h => ⟨right_fair t h.1, rights_fairs r h.2⟩
end
end Go.Proofs.YtmncpbfghabamaaDoor
