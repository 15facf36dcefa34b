/- SHARE: count, exactly (out of the wire chapter) SHARE: right (out of the wire chapter) SHARE: right, a theorem a kind (out of the wire chapter) -/
import Derived.Deep.QuietTactic
import Derived.BigQuiet
import Derived.BigRegion
import Derived.Test.YtincmegllckcjaaGreatDoorDv
import Derived.Test.YtincmegllckcjaaGreatDoorShareOwn
namespace Go.Proofs.YtincmegllckcjaaGreatDoor
section
open Go Go.RowKit
mutual
/-- how many parts a value has -/
def Dv.size : Dv → Nat
  | .mk _ _ _ _ l => 1 + sizes l
def sizes : List Dv → Nat
  | [] => 0
  | t :: r => t.size + sizes r
end
mutual
/-- how deep it is -/
def Dv.deep : Dv → Nat
  | .mk _ _ _ _ l => 1 + deeps l
def deeps : List Dv → Nat
  | [] => 0
  | t :: r => max t.deep (deeps r)
end

theorem sizes_append : ∀ (a b : List Dv), sizes (a ++ b) = sizes a + sizes b
  | [], b => by simp [sizes]
  | t :: r, b => by simp [sizes, sizes_append r b]; omega
theorem deeps_append : ∀ (a b : List Dv), deeps (a ++ b) = max (deeps a) (deeps b)
  | [], b => by simp [deeps]
  | t :: r, b => by simp only [List.cons_append, deeps, deeps_append r b]; omega
theorem sizes_next {ps : List Dv} {j : Nat} {t : Dv} (h : ps[j]? = some t) : sizes (ps.take (j + 1)) = sizes (ps.take j) + t.size ∧ sizes (ps.take j) + t.size ≤ sizes ps := by
  have e : sizes (ps.take (j + 1)) = sizes (ps.take j) + t.size := by rw [List.take_add_one, h, sizes_append]; simp [sizes]
  have e2 : sizes ps = sizes (ps.take (j + 1)) + sizes (ps.drop (j + 1)) := by rw [← sizes_append, List.take_append_drop]
  omega
theorem deeps_next {ps : List Dv} {j : Nat} {t : Dv} (h : ps[j]? = some t) : deeps (ps.take (j + 1)) = max (deeps (ps.take j)) t.deep ∧ t.deep ≤ deeps ps := by
  have e : deeps (ps.take (j + 1)) = max (deeps (ps.take j)) t.deep := by rw [List.take_add_one, h, deeps_append]; simp [deeps]
  have e2 : deeps ps = max (deeps (ps.take (j + 1))) (deeps (ps.drop (j + 1))) := by rw [← deeps_append, List.take_append_drop]
  omega
def Good (t : Dv) (dp lf : Nat) : Prop := t.size ≤ lf ∧ dp + t.deep ≤ 17
def CntPost (t : Dv) (dp lf : Nat) (w : World) (r : Ending) (w' : World) : Prop := ∃ (a : Nat) (b : Int), r = .returned (.tuple #[.int .i64 (a : Nat), .int .i64 b]) ∧ Below w.heap.size w w' ∧ ((Good t dp lf ∧ a = t.size ∧ b + 1 = ((dp + t.deep : Nat) : Int)) ∨ (¬ Good t dp lf ∧ a = 4097))
set_option maxRecDepth 100000 in
set_option maxHeartbeats 8000000 in
theorem cnt_any : ∀ (k : Nat) (w : World) (kd di db : Int) (ds : ByteArray) (p : Option Addr) (n cap : Nat) (ps : List Dv) (dp lf : Nat), DvIs w k [.int .i64 kd, .int .i64 di, .int .u64 db, .string ds, .slice p n cap] (.mk kd di db ds ps) → dp ≤ 1000 → lf ≤ 4096 →
    Calls Tryz.prog 65 #[.agg #[.int .i64 kd, .int .i64 di, .int .u64 db, .string ds, .slice p n cap], .int .i64 (dp : Nat), .int .i64 (lf : Nat)] w (CntPost (.mk kd di db ds ps) dp lf w) := by
  intro k
  induction k with
  | zero => intro w kd di db ds p n cap ps dp lf h; exact h.elim
  | succ k ih =>
    intro w kd di db ds p n cap ps dp lf hD hdp hlf
    have IH := Lib.hid ih
    clear ih
    obtain ⟨hn, -, -, -, k1, k2⟩ := hD.top
    subst hn
    obtain ⟨n, hn⟩ : ∃ n, ps.length = n := ⟨_, rfl⟩
    have HN := Lib.hid hn
    rw [hn] at hD k1 ⊢
    have HD := Lib.hid hD
    obtain ⟨PP, hPP⟩ : ∃ PP, CntPost (.mk kd di db ds ps) dp lf w = PP := ⟨_, rfl⟩
    rw [hPP]
    have HPP := Lib.hid hPP
    clear hPP hD hn
    have HSZ : Hid ((Dv.mk kd di db ds ps).size = 1 + sizes ps ∧ (Dv.mk kd di db ds ps).deep = 1 + deeps ps) := ⟨rfl, rfl⟩
    have HB0 : Hid (Below w.heap.size w (w.alloc (.cells #[.int .i64 kd, .int .i64 di, .int .u64 db, .string ds, .slice p n cap] 34))) := (Below.refl _ _).alloc (Nat.le_refl _) _
    have HC : Hid (∀ W, Below (w.heap.size + 1) (w.alloc (.cells #[.int .i64 kd, .int .i64 di, .int .u64 db, .string ds, .slice p n cap] 34)) W → W.cell? ⟨w.heap.size, 4, none⟩ = some (.slice p n cap) ∧ w.heap.size < W.heap.size) := fun W hb =>
      ⟨by rw [hb.cell (Nat.lt_succ_self _)]; go_simp, by have := hb.size; simp at this; omega⟩
    have hdd : 16 < dp ∨ ¬ 16 < dp := by omega
    have hll : lf ≤ 0 ∨ ¬ lf ≤ 0 := by omega
    rcases hdd with hdd | hdd
    · have hdI : (16 : Int) < (dp : Int) := by omega
      go_enter Tryz.func65, Tryz.ntmps65
      go_wp2_with fail
      rw [← HPP.out]
      exact ⟨4097, _, rfl, HB0.out, .inr ⟨fun h => by have h1 := h.2; rw [HSZ.out.2] at h1; omega, rfl⟩⟩
    have hdI : ¬ (16 : Int) < (dp : Int) := by omega
    rcases hll with hll | hll
    · have hlI : (lf : Int) ≤ 0 := by omega
      go_enter Tryz.func65, Tryz.ntmps65
      go_wp2_with fail
      rw [← HPP.out]
      exact ⟨4097, _, rfl, HB0.out, .inr ⟨fun h => by have h1 := h.1; rw [HSZ.out.1] at h1; omega, rfl⟩⟩
    have hlI : ¬ (lf : Int) ≤ 0 := by omega
    go_enter Tryz.func65, Tryz.ntmps65
    go_wp2_with fail
    go_loopw [8, 9, 10, 11, 12, 24] (fun nn mo u1 u2 u3 i wr => ∃ (j X Y : Nat), i = .int .i64 (j : Nat) ∧ j ≤ n ∧ nn = .int .i64 (X : Nat) ∧ mo = .int .i64 (Y : Nat) ∧ Below (w.heap.size + 1) (w.alloc (.cells #[.int .i64 kd, .int .i64 di, .int .u64 db, .string ds, .slice p n cap] 34)) wr ∧ X ≤ lf ∧ Y ≤ 16 ∧ Hid (X = 1 + sizes (ps.take j) ∧ Y = dp + deeps (ps.take j))) (fun _ _ _ _ _ i _ => n - (intOf i).toNat)
    case atStart => exact ⟨0, 1, dp, rfl, by omega, rfl, rfl, Below.refl _ _, by omega, by omega, ⟨rfl, rfl⟩⟩
    case round =>
      obtain ⟨j, X, Y, rfl, hj, rfl, rfl, hb, hX, hY, HXY⟩ := hrel
      have HB := Lib.hid hb
      have HBw := Lib.hid (HB0.out.trans (hb.mono (Nat.le_succ _)))
      obtain ⟨f2, f3⟩ := HC.out wr hb
      by_cases hlt : j < n
      · obtain ⟨t, ht⟩ : ∃ t, ps[j]? = some t := ⟨_, List.getElem?_eq_getElem (by rw [HN.out]; exact hlt)⟩
        obtain ⟨b, o, kd', di', db', ds', q, m, c, ps', rfl, hbl, rfl, d0, d1, d2, d3, d4, hP⟩ := (HD.out.below HBw.out).part ht
        have HT := Lib.hid ht
        have CX : Hid (∀ W (u v : Nat), u ≤ 1000 → v ≤ 4096 → Below wr.heap.size wr W → Calls Tryz.prog 65 #[.agg #[.int .i64 kd', .int .i64 di', .int .u64 db', .string ds', .slice q m c], .int .i64 (u : Nat), .int .i64 (v : Nat)] W (CntPost (.mk kd' di' db' ds' ps') u v W)) := fun W u v hu hv hb => IH.out W kd' di' db' ds' q m c ps' u v (hP.below hb) hu hv
        have g1 : (j : Int) < (n : Int) := by omega
        have hs := HB.out.size
        obtain ⟨V, hV⟩ : ∃ V, lf - X = V := ⟨_, rfl⟩
        have hVI : IntKind.i64.wrap ((lf : Int) - (X : Int)) = (V : Int) := by rw [IntWalk.i64_in _ (by omega)]; omega
        have hVI2 : (lf : Int) - (X : Int) = (V : Int) := by omega
        have hV4 : V ≤ 4096 := by omega
        have HV := Lib.hid hV
        clear hP hb ht hV
        go_wp2_with fail
        refine (CX.out _ (dp + 1) V (by omega) hV4 (Below.refl _ _)).mono ?_
        rintro r' W ⟨a1, a2, rfl, hb2, hres⟩
        have HB2 := Lib.hid (HB.out.trans (hb2.mono (by omega)))
        have HBw2 := Lib.hid (HB0.out.trans (HB2.out.mono (Nat.le_succ _)))
        have hn1 := sizes_next HT.out
        have hn2 := deeps_next HT.out
        have hxy := HXY.out
        rcases hres with ⟨hg, rfl, h2⟩ | ⟨hg, rfl⟩
        · obtain ⟨T, hT⟩ : ∃ T, (Dv.mk kd' di' db' ds' ps').size = T := ⟨_, rfl⟩
          obtain ⟨D, hD⟩ : ∃ D, (Dv.mk kd' di' db' ds' ps').deep = D := ⟨_, rfl⟩
          obtain ⟨hg1, hg2⟩ := hg
          rw [hT] at hg1 hn1
          rw [hD] at hg2 h2 hn2
          have hV := HV.out
          have ha2 : a2 = ((dp + D : Nat) : Int) := by omega
          subst ha2
          obtain ⟨E, hE⟩ : ∃ E, dp + D = E := ⟨_, rfl⟩
          rw [hE, hT]
          have HX2 : Hid (X + T = 1 + sizes (ps.take (j + 1)) ∧ max Y E = dp + deeps (ps.take (j + 1))) := by
            refine ⟨?_, ?_⟩ <;> omega
          have hXT : X + T ≤ lf := by omega
          have hXI : ¬ (lf : Int) < (X : Int) + (T : Int) := by omega
          have hE16 : E ≤ 16 := by omega
          clear hb2 d0 d1 d2 d3 d4 f2 hT hD hn1 hn2 hxy h2 hV hg1 hg2 hE
          by_cases hYE : Y < E
          · have hYI : (Y : Int) < (E : Int) := by omega
            have hE2 : ¬ (16 : Int) < (E : Int) := by omega
            go_wp2_with fail
            go_roundw
            case rel => exact ⟨j + 1, X + T, E, by go_num, by omega, by go_num, by first | rfl | rw [if_pos hYE] | rw [Int.max_eq_right (by omega)], HB2.out, hXT, hE16, ⟨HX2.out.1, by have := HX2.out.2; omega⟩⟩
            case measure => simp [intOf]; omega
          · have hYI : ¬ (Y : Int) < (E : Int) := by omega
            have hE2 : ¬ (16 : Int) < (Y : Int) := by omega
            go_wp2_with fail
            go_roundw
            case rel => exact ⟨j + 1, X + T, Y, by go_num, by omega, by go_num, by first | rfl | rw [if_neg hYE] | rw [Int.max_eq_left (by omega)], HB2.out, hXT, hY, ⟨HX2.out.1, by have := HX2.out.2; omega⟩⟩
            case measure => simp [intOf]; omega
        · have HNG : Hid (¬ Good (.mk kd di db ds ps) dp lf) := fun h => hg (by
            have h1 := h.1
            have h2 := h.2
            have hV := HV.out
            rw [HSZ.out.1] at h1
            rw [HSZ.out.2] at h2
            exact ⟨by omega, by omega⟩)
          have hXI : (lf : Int) < (X : Int) + 4097 := by omega
          clear hb2 d0 d1 d2 d3 d4 f2 hn1 hn2 hxy hg
          go_wp2_with fail
          all_goals
            rw [← HPP.out]
            exact ⟨4097, _, rfl, HBw2.out, .inr ⟨HNG.out, rfl⟩⟩
      · obtain rfl : j = n := by omega
        have hxy := HXY.out
        rw [List.take_of_length_le (by rw [HN.out]; exact Nat.le_refl _)] at hxy
        have HXY2 := Lib.hid hxy
        clear hb hxy
        go_wp2_with fail
        rw [← HPP.out]
        have h1 := HXY2.out
        exact ⟨X, _, rfl, HBw.out, .inl ⟨⟨by rw [HSZ.out.1]; omega, by rw [HSZ.out.2]; omega⟩, by rw [HSZ.out.1]; omega, by rw [HSZ.out.2]; omega⟩⟩
end
section
open Go Go.RowKit

def FairV (kd di db : Int) (ds : ByteArray) (n : Nat) : Prop :=
  0 ≤ kd ∧ kd < 14 ∧ ds.size ≤ 65535 ∧ (kd = 1 ∨ kd = 2 ∨ kd = 6 ∨ kd = 10 ∨ kd = 11 ∨ di = 0) ∧ (kd = 3 ∨ db = 0) ∧ (kd = 4 ∨ kd = 5 ∨ kd = 7 ∨ kd = 10 ∨ ds = ⟨#[]⟩) ∧
  (kd = 6 → di = 0 ∨ di = 1) ∧ (kd = 11 → 1 ≤ di) ∧ (kd = 8 ∨ (kd = 9 ∧ n = 2) ∨ (kd = 11 ∧ n = 1) ∨ (kd ≠ 9 ∧ kd ≠ 11 ∧ n = 0))
mutual
def Dv.Fair : Dv → Prop
  | .mk kd di db ds l => FairV kd di db ds l.length ∧ Fairs l
def Fairs : List Dv → Prop
  | [] => True
  | t :: r => t.Fair ∧ Fairs r
end
theorem fairs_append : ∀ (a b : List Dv), Fairs (a ++ b) ↔ Fairs a ∧ Fairs b
  | [], b => by simp [Fairs]
  | t :: r, b => by simp [Fairs, fairs_append r b, and_assoc]
theorem fairs_next {ps : List Dv} {j : Nat} {t : Dv} (h : ps[j]? = some t) : (Fairs (ps.take (j + 1)) ↔ Fairs (ps.take j) ∧ t.Fair) ∧ (Fairs ps → t.Fair) := by
  have e : Fairs (ps.take (j + 1)) ↔ Fairs (ps.take j) ∧ t.Fair := by rw [List.take_add_one, h, fairs_append]; simp [Fairs]
  refine ⟨e, fun hf => ?_⟩
  rw [← List.take_append_drop (j + 1) ps, fairs_append] at hf
  exact (e.1 hf.1).2
def FairPost (t : Dv) (w : World) (r : Ending) (w' : World) : Prop := ∃ b : Bool, r = .returned (.bool b) ∧ (b = true ↔ t.Fair) ∧ Below w.heap.size w w'
theorem ds_ne {ds : ByteArray} (h : ds ≠ ⟨#[]⟩) : (ds == (⟨#[]⟩ : ByteArray)) = false ∧ (ds != (⟨#[]⟩ : ByteArray)) = true ∧ ¬ ds.toList = [] := by
  have h1 : (ds == (⟨#[]⟩ : ByteArray)) = false := by
    have h2 : ds.data ≠ #[] := fun e => h (by cases ds; simp at e; subst e; rfl)
    show (ds.data == #[]) = false
    simpa using h2
  exact ⟨h1, by simp [bne, h1], fun e => h (by rw [ByteArray.toList_eq] at e; cases ds; simp at e; subst e; rfl)⟩
theorem int_ne {x : Int} (h : x ≠ 0) : (x == 0) = false ∧ (x != 0) = true := by
  have h1 : (x == 0) = false := by simpa using h
  exact ⟨h1, by simp [bne, h1]⟩
def RC (k : Nat) : Prop := ∀ (w : World) (kd di db : Int) (ds : ByteArray) (p : Option Addr) (n cap : Nat) (ps : List Dv), DvIs w k [.int .i64 kd, .int .i64 di, .int .u64 db, .string ds, .slice p n cap] (.mk kd di db ds ps) →
    Calls Tryz.prog 66 #[.agg #[.int .i64 kd, .int .i64 di, .int .u64 db, .string ds, .slice p n cap]] w (FairPost (.mk kd di db ds ps) w)
end
section
open Go Go.RowKit

set_option maxRecDepth 100000 in
set_option maxHeartbeats 8000000 in
theorem right_k3 (k : Nat) (ih : RC k) (w : World) (di db : Int) (ds : ByteArray) (p : Option Addr) (n cap : Nat) (ps : List Dv) (hD : DvIs w (k + 1) [.int .i64 3, .int .i64 di, .int .u64 db, .string ds, .slice p n cap] (.mk 3 di db ds ps)) :
    Calls Tryz.prog 66 #[.agg #[.int .i64 3, .int .i64 di, .int .u64 db, .string ds, .slice p n cap]] w (FairPost (.mk 3 di db ds ps) w) := by
  have IH := Lib.hid ih
  have HX := trivial
  obtain ⟨hn, -, -, -, k1, k2⟩ := hD.top
  have HN : Hid (ps.length = n) := hn.symm
  clear hn ih
  obtain ⟨PP, hPP⟩ : ∃ PP, FairPost (.mk 3 di db ds ps) w = PP := ⟨_, rfl⟩
  rw [hPP]
  have HPP := Lib.hid hPP
  have HD := Lib.hid hD
  clear hPP hD
  by_cases hdi : di = 0
  · subst hdi
    by_cases hds : ds = ⟨#[]⟩
    · subst hds
      by_cases hnn : n = 0
      · subst hnn
        have HF : Hid (FairV _ _ _ _ _) := (show FairV (3) 0 db ⟨#[]⟩ 0 from ⟨by omega, by omega, by decide, by simp, by simp, by simp, by simp, by simp, by simp⟩)
        clear HX
        go_enter Tryz.func66, Tryz.ntmps66
        go_wp2_with fail
        go_loopw [7, 89] (fun u1 i wr => ∃ (j : Nat), i = .int .i64 (j : Nat) ∧ j ≤ 0 ∧ Hid (Below w.heap.size w wr) ∧ w.heap.size < wr.heap.size ∧ wr.cell? ⟨w.heap.size, 4, none⟩ = some (.slice p 0 cap) ∧ Hid (Fairs (ps.take j))) (fun _ i _ => 0 - (intOf i).toNat)
        case atStart => exact ⟨0, rfl, by omega, (Below.refl _ _).alloc (Nat.le_refl _) _, by simp, by go_simp, trivial⟩
        case round =>
          obtain ⟨j, rfl, hj, HBw, f3, f2, HS⟩ := hrel
          by_cases hlt : j < 0
          · exact absurd hlt (Nat.not_lt_zero _)
          · have hjn : j = 0 := by omega
            subst hjn
            have HS2 : Hid (Fairs ps) := by
              have h := HS.out
              rw [List.take_of_length_le (by rw [HN.out]; exact Nat.le_refl _)] at h
              exact h
            clear HS hlt hj
            go_wp2_with fail
            rw [← HPP.out]
            exact ⟨true, rfl, ⟨fun _ => ⟨by rw [HN.out]; exact HF.out, HS2.out⟩, fun _ => rfl⟩, HBw.out⟩
      · have hb1 : ((n : Int) == 0) = false := by simp; omega
        have hb2 : ((n : Int) != 0) = true := by simp [bne, hb1]
        clear HX
        have HNF : Hid (¬ FairV (3) 0 db ⟨#[]⟩ n) := fun h => by have h4 := h.2.2.2.2.2.2.2.2; omega
        go_enter Tryz.func66, Tryz.ntmps66
        go_wp2_with fail
        rw [← HPP.out]
        exact ⟨false, rfl, ⟨fun h => (by cases h), fun h => absurd h.1 (by rw [HN.out]; exact HNF.out)⟩, (Below.refl _ _).alloc (Nat.le_refl _) _⟩
    · obtain ⟨hb1, hb2, hb3⟩ := ds_ne hds
      clear HX
      have HNF : Hid (¬ FairV (3) 0 db ds n) := fun h => by (have h4 := h.2.2.2.2.2.1; rcases h4 with h4 | h4 | h4 | h4 | h4; omega; omega; omega; omega; exact hds h4)
      go_enter Tryz.func66, Tryz.ntmps66
      go_wp2_with fail
      rw [← HPP.out]
      exact ⟨false, rfl, ⟨fun h => (by cases h), fun h => absurd h.1 (by rw [HN.out]; exact HNF.out)⟩, (Below.refl _ _).alloc (Nat.le_refl _) _⟩
  · obtain ⟨hb1, hb2⟩ := int_ne hdi
    clear HX
    have HNF : Hid (¬ FairV (3) di db ds n) := fun h => by have h4 := h.2.2.2.1; omega
    go_enter Tryz.func66, Tryz.ntmps66
    go_wp2_with fail
    rw [← HPP.out]
    exact ⟨false, rfl, ⟨fun h => (by cases h), fun h => absurd h.1 (by rw [HN.out]; exact HNF.out)⟩, (Below.refl _ _).alloc (Nat.le_refl _) _⟩
set_option maxRecDepth 100000 in
set_option maxHeartbeats 8000000 in
theorem right_k4 (k : Nat) (ih : RC k) (w : World) (di db : Int) (ds : ByteArray) (p : Option Addr) (n cap : Nat) (ps : List Dv) (hD : DvIs w (k + 1) [.int .i64 4, .int .i64 di, .int .u64 db, .string ds, .slice p n cap] (.mk 4 di db ds ps)) :
    Calls Tryz.prog 66 #[.agg #[.int .i64 4, .int .i64 di, .int .u64 db, .string ds, .slice p n cap]] w (FairPost (.mk 4 di db ds ps) w) := by
  have IH := Lib.hid ih
  have HX := trivial
  obtain ⟨hn, -, -, -, k1, k2⟩ := hD.top
  have HN : Hid (ps.length = n) := hn.symm
  clear hn ih
  obtain ⟨PP, hPP⟩ : ∃ PP, FairPost (.mk 4 di db ds ps) w = PP := ⟨_, rfl⟩
  rw [hPP]
  have HPP := Lib.hid hPP
  have HD := Lib.hid hD
  clear hPP hD
  by_cases hdi : di = 0
  · subst hdi
    by_cases hdb : db = 0
    · subst hdb
      by_cases hnn : n = 0
      · subst hnn
        by_cases hts : ds.size ≤ 65535
        · have hsz : ¬ (65535 : Int) < (ds.size : Int) := by omega
          have HF : Hid (FairV _ _ _ _ _) := (show FairV (4) 0 0 ds 0 from ⟨by omega, by omega, hts, by simp, by simp, by simp, by simp, by simp, by simp⟩)
          clear HX
          go_enter Tryz.func66, Tryz.ntmps66
          go_wp2_with fail
          go_loopw [7, 89] (fun u1 i wr => ∃ (j : Nat), i = .int .i64 (j : Nat) ∧ j ≤ 0 ∧ Hid (Below w.heap.size w wr) ∧ w.heap.size < wr.heap.size ∧ wr.cell? ⟨w.heap.size, 4, none⟩ = some (.slice p 0 cap) ∧ Hid (Fairs (ps.take j))) (fun _ i _ => 0 - (intOf i).toNat)
          case atStart => exact ⟨0, rfl, by omega, (Below.refl _ _).alloc (Nat.le_refl _) _, by simp, by go_simp, trivial⟩
          case round =>
            obtain ⟨j, rfl, hj, HBw, f3, f2, HS⟩ := hrel
            by_cases hlt : j < 0
            · exact absurd hlt (Nat.not_lt_zero _)
            · have hjn : j = 0 := by omega
              subst hjn
              have HS2 : Hid (Fairs ps) := by
                have h := HS.out
                rw [List.take_of_length_le (by rw [HN.out]; exact Nat.le_refl _)] at h
                exact h
              clear HS hlt hj
              go_wp2_with fail
              rw [← HPP.out]
              exact ⟨true, rfl, ⟨fun _ => ⟨by rw [HN.out]; exact HF.out, HS2.out⟩, fun _ => rfl⟩, HBw.out⟩
        · have hsz : (65535 : Int) < (ds.size : Int) := by omega
          clear HX
          have HNF : Hid (¬ FairV (4) 0 0 ds 0) := fun h => hts h.2.2.1
          go_enter Tryz.func66, Tryz.ntmps66
          go_wp2_with fail
          rw [← HPP.out]
          exact ⟨false, rfl, ⟨fun h => (by cases h), fun h => absurd h.1 (by rw [HN.out]; exact HNF.out)⟩, (Below.refl _ _).alloc (Nat.le_refl _) _⟩
      · have hb1 : ((n : Int) == 0) = false := by simp; omega
        have hb2 : ((n : Int) != 0) = true := by simp [bne, hb1]
        clear HX
        have HNF : Hid (¬ FairV (4) 0 0 ds n) := fun h => by have h4 := h.2.2.2.2.2.2.2.2; omega
        go_enter Tryz.func66, Tryz.ntmps66
        go_wp2_with fail
        rw [← HPP.out]
        exact ⟨false, rfl, ⟨fun h => (by cases h), fun h => absurd h.1 (by rw [HN.out]; exact HNF.out)⟩, (Below.refl _ _).alloc (Nat.le_refl _) _⟩
    · obtain ⟨hb1, hb2⟩ := int_ne hdb
      clear HX
      have HNF : Hid (¬ FairV (4) 0 db ds n) := fun h => by have h4 := h.2.2.2.2.1; omega
      go_enter Tryz.func66, Tryz.ntmps66
      go_wp2_with fail
      rw [← HPP.out]
      exact ⟨false, rfl, ⟨fun h => (by cases h), fun h => absurd h.1 (by rw [HN.out]; exact HNF.out)⟩, (Below.refl _ _).alloc (Nat.le_refl _) _⟩
  · obtain ⟨hb1, hb2⟩ := int_ne hdi
    clear HX
    have HNF : Hid (¬ FairV (4) di db ds n) := fun h => by have h4 := h.2.2.2.1; omega
    go_enter Tryz.func66, Tryz.ntmps66
    go_wp2_with fail
    rw [← HPP.out]
    exact ⟨false, rfl, ⟨fun h => (by cases h), fun h => absurd h.1 (by rw [HN.out]; exact HNF.out)⟩, (Below.refl _ _).alloc (Nat.le_refl _) _⟩
set_option maxRecDepth 100000 in
set_option maxHeartbeats 8000000 in
theorem right_k5 (k : Nat) (ih : RC k) (w : World) (di db : Int) (ds : ByteArray) (p : Option Addr) (n cap : Nat) (ps : List Dv) (hD : DvIs w (k + 1) [.int .i64 5, .int .i64 di, .int .u64 db, .string ds, .slice p n cap] (.mk 5 di db ds ps)) :
    Calls Tryz.prog 66 #[.agg #[.int .i64 5, .int .i64 di, .int .u64 db, .string ds, .slice p n cap]] w (FairPost (.mk 5 di db ds ps) w) := by
  have IH := Lib.hid ih
  have HX := trivial
  obtain ⟨hn, -, -, -, k1, k2⟩ := hD.top
  have HN : Hid (ps.length = n) := hn.symm
  clear hn ih
  obtain ⟨PP, hPP⟩ : ∃ PP, FairPost (.mk 5 di db ds ps) w = PP := ⟨_, rfl⟩
  rw [hPP]
  have HPP := Lib.hid hPP
  have HD := Lib.hid hD
  clear hPP hD
  by_cases hdi : di = 0
  · subst hdi
    by_cases hdb : db = 0
    · subst hdb
      by_cases hnn : n = 0
      · subst hnn
        by_cases hts : ds.size ≤ 65535
        · have hsz : ¬ (65535 : Int) < (ds.size : Int) := by omega
          have HF : Hid (FairV _ _ _ _ _) := (show FairV (5) 0 0 ds 0 from ⟨by omega, by omega, hts, by simp, by simp, by simp, by simp, by simp, by simp⟩)
          clear HX
          go_enter Tryz.func66, Tryz.ntmps66
          go_wp2_with fail
          go_loopw [7, 89] (fun u1 i wr => ∃ (j : Nat), i = .int .i64 (j : Nat) ∧ j ≤ 0 ∧ Hid (Below w.heap.size w wr) ∧ w.heap.size < wr.heap.size ∧ wr.cell? ⟨w.heap.size, 4, none⟩ = some (.slice p 0 cap) ∧ Hid (Fairs (ps.take j))) (fun _ i _ => 0 - (intOf i).toNat)
          case atStart => exact ⟨0, rfl, by omega, (Below.refl _ _).alloc (Nat.le_refl _) _, by simp, by go_simp, trivial⟩
          case round =>
            obtain ⟨j, rfl, hj, HBw, f3, f2, HS⟩ := hrel
            by_cases hlt : j < 0
            · exact absurd hlt (Nat.not_lt_zero _)
            · have hjn : j = 0 := by omega
              subst hjn
              have HS2 : Hid (Fairs ps) := by
                have h := HS.out
                rw [List.take_of_length_le (by rw [HN.out]; exact Nat.le_refl _)] at h
                exact h
              clear HS hlt hj
              go_wp2_with fail
              rw [← HPP.out]
              exact ⟨true, rfl, ⟨fun _ => ⟨by rw [HN.out]; exact HF.out, HS2.out⟩, fun _ => rfl⟩, HBw.out⟩
        · have hsz : (65535 : Int) < (ds.size : Int) := by omega
          clear HX
          have HNF : Hid (¬ FairV (5) 0 0 ds 0) := fun h => hts h.2.2.1
          go_enter Tryz.func66, Tryz.ntmps66
          go_wp2_with fail
          rw [← HPP.out]
          exact ⟨false, rfl, ⟨fun h => (by cases h), fun h => absurd h.1 (by rw [HN.out]; exact HNF.out)⟩, (Below.refl _ _).alloc (Nat.le_refl _) _⟩
      · have hb1 : ((n : Int) == 0) = false := by simp; omega
        have hb2 : ((n : Int) != 0) = true := by simp [bne, hb1]
        clear HX
        have HNF : Hid (¬ FairV (5) 0 0 ds n) := fun h => by have h4 := h.2.2.2.2.2.2.2.2; omega
        go_enter Tryz.func66, Tryz.ntmps66
        go_wp2_with fail
        rw [← HPP.out]
        exact ⟨false, rfl, ⟨fun h => (by cases h), fun h => absurd h.1 (by rw [HN.out]; exact HNF.out)⟩, (Below.refl _ _).alloc (Nat.le_refl _) _⟩
    · obtain ⟨hb1, hb2⟩ := int_ne hdb
      clear HX
      have HNF : Hid (¬ FairV (5) 0 db ds n) := fun h => by have h4 := h.2.2.2.2.1; omega
      go_enter Tryz.func66, Tryz.ntmps66
      go_wp2_with fail
      rw [← HPP.out]
      exact ⟨false, rfl, ⟨fun h => (by cases h), fun h => absurd h.1 (by rw [HN.out]; exact HNF.out)⟩, (Below.refl _ _).alloc (Nat.le_refl _) _⟩
  · obtain ⟨hb1, hb2⟩ := int_ne hdi
    clear HX
    have HNF : Hid (¬ FairV (5) di db ds n) := fun h => by have h4 := h.2.2.2.1; omega
    go_enter Tryz.func66, Tryz.ntmps66
    go_wp2_with fail
    rw [← HPP.out]
    exact ⟨false, rfl, ⟨fun h => (by cases h), fun h => absurd h.1 (by rw [HN.out]; exact HNF.out)⟩, (Below.refl _ _).alloc (Nat.le_refl _) _⟩
set_option maxRecDepth 100000 in
set_option maxHeartbeats 8000000 in
theorem right_k7 (k : Nat) (ih : RC k) (w : World) (di db : Int) (ds : ByteArray) (p : Option Addr) (n cap : Nat) (ps : List Dv) (hD : DvIs w (k + 1) [.int .i64 7, .int .i64 di, .int .u64 db, .string ds, .slice p n cap] (.mk 7 di db ds ps)) :
    Calls Tryz.prog 66 #[.agg #[.int .i64 7, .int .i64 di, .int .u64 db, .string ds, .slice p n cap]] w (FairPost (.mk 7 di db ds ps) w) := by
  have IH := Lib.hid ih
  have HX := trivial
  obtain ⟨hn, -, -, -, k1, k2⟩ := hD.top
  have HN : Hid (ps.length = n) := hn.symm
  clear hn ih
  obtain ⟨PP, hPP⟩ : ∃ PP, FairPost (.mk 7 di db ds ps) w = PP := ⟨_, rfl⟩
  rw [hPP]
  have HPP := Lib.hid hPP
  have HD := Lib.hid hD
  clear hPP hD
  by_cases hdi : di = 0
  · subst hdi
    by_cases hdb : db = 0
    · subst hdb
      by_cases hnn : n = 0
      · subst hnn
        by_cases hts : ds.size ≤ 65535
        · have hsz : ¬ (65535 : Int) < (ds.size : Int) := by omega
          have HF : Hid (FairV _ _ _ _ _) := (show FairV (7) 0 0 ds 0 from ⟨by omega, by omega, hts, by simp, by simp, by simp, by simp, by simp, by simp⟩)
          clear HX
          go_enter Tryz.func66, Tryz.ntmps66
          go_wp2_with fail
          go_loopw [7, 89] (fun u1 i wr => ∃ (j : Nat), i = .int .i64 (j : Nat) ∧ j ≤ 0 ∧ Hid (Below w.heap.size w wr) ∧ w.heap.size < wr.heap.size ∧ wr.cell? ⟨w.heap.size, 4, none⟩ = some (.slice p 0 cap) ∧ Hid (Fairs (ps.take j))) (fun _ i _ => 0 - (intOf i).toNat)
          case atStart => exact ⟨0, rfl, by omega, (Below.refl _ _).alloc (Nat.le_refl _) _, by simp, by go_simp, trivial⟩
          case round =>
            obtain ⟨j, rfl, hj, HBw, f3, f2, HS⟩ := hrel
            by_cases hlt : j < 0
            · exact absurd hlt (Nat.not_lt_zero _)
            · have hjn : j = 0 := by omega
              subst hjn
              have HS2 : Hid (Fairs ps) := by
                have h := HS.out
                rw [List.take_of_length_le (by rw [HN.out]; exact Nat.le_refl _)] at h
                exact h
              clear HS hlt hj
              go_wp2_with fail
              rw [← HPP.out]
              exact ⟨true, rfl, ⟨fun _ => ⟨by rw [HN.out]; exact HF.out, HS2.out⟩, fun _ => rfl⟩, HBw.out⟩
        · have hsz : (65535 : Int) < (ds.size : Int) := by omega
          clear HX
          have HNF : Hid (¬ FairV (7) 0 0 ds 0) := fun h => hts h.2.2.1
          go_enter Tryz.func66, Tryz.ntmps66
          go_wp2_with fail
          rw [← HPP.out]
          exact ⟨false, rfl, ⟨fun h => (by cases h), fun h => absurd h.1 (by rw [HN.out]; exact HNF.out)⟩, (Below.refl _ _).alloc (Nat.le_refl _) _⟩
      · have hb1 : ((n : Int) == 0) = false := by simp; omega
        have hb2 : ((n : Int) != 0) = true := by simp [bne, hb1]
        clear HX
        have HNF : Hid (¬ FairV (7) 0 0 ds n) := fun h => by have h4 := h.2.2.2.2.2.2.2.2; omega
        go_enter Tryz.func66, Tryz.ntmps66
        go_wp2_with fail
        rw [← HPP.out]
        exact ⟨false, rfl, ⟨fun h => (by cases h), fun h => absurd h.1 (by rw [HN.out]; exact HNF.out)⟩, (Below.refl _ _).alloc (Nat.le_refl _) _⟩
    · obtain ⟨hb1, hb2⟩ := int_ne hdb
      clear HX
      have HNF : Hid (¬ FairV (7) 0 db ds n) := fun h => by have h4 := h.2.2.2.2.1; omega
      go_enter Tryz.func66, Tryz.ntmps66
      go_wp2_with fail
      rw [← HPP.out]
      exact ⟨false, rfl, ⟨fun h => (by cases h), fun h => absurd h.1 (by rw [HN.out]; exact HNF.out)⟩, (Below.refl _ _).alloc (Nat.le_refl _) _⟩
  · obtain ⟨hb1, hb2⟩ := int_ne hdi
    clear HX
    have HNF : Hid (¬ FairV (7) di db ds n) := fun h => by have h4 := h.2.2.2.1; omega
    go_enter Tryz.func66, Tryz.ntmps66
    go_wp2_with fail
    rw [← HPP.out]
    exact ⟨false, rfl, ⟨fun h => (by cases h), fun h => absurd h.1 (by rw [HN.out]; exact HNF.out)⟩, (Below.refl _ _).alloc (Nat.le_refl _) _⟩
end
end Go.Proofs.YtincmegllckcjaaGreatDoor
