/- WIRE: conduitref01.count, exactly. -/
import Derived.Test.YtmncpbfghabamaaDoorWireDSt
namespace Go.Proofs.YtmncpbfghabamaaDoor
open Go Go.RowKit

theorem sizes_append : ∀ (a b : List Dv), sizes (a ++ b) = sizes a + sizes b
  | [], b => by simp [sizes]
  | t :: r, b => by simp [sizes, sizes_append r b]; omega
theorem deeps_append : ∀ (a b : List Dv), deeps (a ++ b) = max (deeps a) (deeps b)
  | [], b => by simp [deeps]
  | t :: r, b => by simp only [List.cons_append, deeps, deeps_append r b]; omega
theorem sizes_next {ps : List Dv} {j : Nat} {t : Dv} (h : ps[j]? = some t) : sizes (ps.take (j + 1)) = sizes (ps.take j) + t.size ∧ sizes (ps.take j) + t.size ≤ sizes ps := by
  have e : sizes (ps.take (j + 1)) = sizes (ps.take j) + t.size := by rw [List.take_add_one, h, sizes_append]; simp [sizes]
  have e2 : sizes ps = sizes (ps.take (j + 1)) + sizes (ps.drop (j + 1)) := by rw [← sizes_append, List.take_append_drop]
  omega
theorem deeps_next {ps : List Dv} {j : Nat} {t : Dv} (h : ps[j]? = some t) : deeps (ps.take (j + 1)) = max (deeps (ps.take j)) t.deep ∧ t.deep ≤ deeps ps := by
  have e : deeps (ps.take (j + 1)) = max (deeps (ps.take j)) t.deep := by rw [List.take_add_one, h, deeps_append]; simp [deeps]
  have e2 : deeps ps = max (deeps (ps.take (j + 1))) (deeps (ps.drop (j + 1))) := by rw [← deeps_append, List.take_append_drop]
  omega
def Good (t : Dv) (dp lf : Nat) : Prop := t.size ≤ lf ∧ dp + t.deep ≤ 17
def CntPost (t : Dv) (dp lf : Nat) (w : World) (r : Ending) (w' : World) : Prop := ∃ (a : Nat) (b : Int), r = .returned (.tuple #[.int .i64 (a : Nat), .int .i64 b]) ∧ Below w.heap.size w w' ∧ ((Good t dp lf ∧ a = t.size ∧ b + 1 = ((dp + t.deep : Nat) : Int)) ∨ (¬ Good t dp lf ∧ a = 4097))
set_option maxRecDepth 100000 in
set_option maxHeartbeats 8000000 in
theorem cnt_any : ∀ (k : Nat) (w : World) (kd di db : Int) (ds : ByteArray) (p : Option Addr) (n cap : Nat) (ps : List Dv) (dp lf : Nat), DvIs w k [.int .i64 kd, .int .i64 di, .int .u64 db, .string ds, .slice p n cap] (.mk kd di db ds ps) → dp ≤ 1000 → lf ≤ 4096 →
    Calls Tryd.prog 31 #[.agg #[.int .i64 kd, .int .i64 di, .int .u64 db, .string ds, .slice p n cap], .int .i64 (dp : Nat), .int .i64 (lf : Nat)] w (CntPost (.mk kd di db ds ps) dp lf w) := by
  intro k
  induction k with
  | zero => intro w kd di db ds p n cap ps dp lf h; exact h.elim
  | succ k ih =>
    intro w kd di db ds p n cap ps dp lf hD hdp hlf
    have IH := Lib.hid ih
    clear ih
    obtain ⟨hn, -, -, -, k1, k2⟩ := hD.top
    subst hn
    obtain ⟨n, hn⟩ : ∃ n, ps.length = n := ⟨_, rfl⟩
    have HN := Lib.hid hn
    rw [hn] at hD k1 ⊢
    have HD := Lib.hid hD
    obtain ⟨PP, hPP⟩ : ∃ PP, CntPost (.mk kd di db ds ps) dp lf w = PP := ⟨_, rfl⟩
    rw [hPP]
    have HPP := Lib.hid hPP
    clear hPP hD hn
    have HSZ : Hid ((Dv.mk kd di db ds ps).size = 1 + sizes ps ∧ (Dv.mk kd di db ds ps).deep = 1 + deeps ps) := ⟨rfl, rfl⟩
    have HB0 : Hid (Below w.heap.size w (w.alloc (.cells #[.int .i64 kd, .int .i64 di, .int .u64 db, .string ds, .slice p n cap] 25))) := (Below.refl _ _).alloc (Nat.le_refl _) _
    have HC : Hid (∀ W, Below (w.heap.size + 1) (w.alloc (.cells #[.int .i64 kd, .int .i64 di, .int .u64 db, .string ds, .slice p n cap] 25)) W → W.cell? ⟨w.heap.size, 4, none⟩ = some (.slice p n cap) ∧ w.heap.size < W.heap.size) := fun W hb =>
      ⟨by rw [hb.cell (Nat.lt_succ_self _)]; go_simp, by have := hb.size; simp at this; omega⟩
    have hdd : 16 < dp ∨ ¬ 16 < dp := by omega
    have hll : lf ≤ 0 ∨ ¬ lf ≤ 0 := by omega
    rcases hdd with hdd | hdd
    · have hdI : (16 : Int) < (dp : Int) := by omega
      go_enter Tryd.func31, Tryd.ntmps31
      go_wp2_with fail
      rw [← HPP.out]
      exact ⟨4097, _, rfl, HB0.out, .inr ⟨fun h => by have h1 := h.2; rw [HSZ.out.2] at h1; omega, rfl⟩⟩
    have hdI : ¬ (16 : Int) < (dp : Int) := by omega
    rcases hll with hll | hll
    · have hlI : (lf : Int) ≤ 0 := by omega
      go_enter Tryd.func31, Tryd.ntmps31
      go_wp2_with fail
      rw [← HPP.out]
      exact ⟨4097, _, rfl, HB0.out, .inr ⟨fun h => by have h1 := h.1; rw [HSZ.out.1] at h1; omega, rfl⟩⟩
    have hlI : ¬ (lf : Int) ≤ 0 := by omega
    go_enter Tryd.func31, Tryd.ntmps31
    go_wp2_with fail
    go_loopw [8, 9, 10, 11, 12, 24] (fun nn mo u1 u2 u3 i wr => ∃ (j X Y : Nat), i = .int .i64 (j : Nat) ∧ j ≤ n ∧ nn = .int .i64 (X : Nat) ∧ mo = .int .i64 (Y : Nat) ∧ Below (w.heap.size + 1) (w.alloc (.cells #[.int .i64 kd, .int .i64 di, .int .u64 db, .string ds, .slice p n cap] 25)) wr ∧ X ≤ lf ∧ Y ≤ 16 ∧ Hid (X = 1 + sizes (ps.take j) ∧ Y = dp + deeps (ps.take j))) (fun _ _ _ _ _ i _ => n - (intOf i).toNat)
    case atStart => exact ⟨0, 1, dp, rfl, by omega, rfl, rfl, Below.refl _ _, by omega, by omega, ⟨rfl, rfl⟩⟩
    case round =>
      obtain ⟨j, X, Y, rfl, hj, rfl, rfl, hb, hX, hY, HXY⟩ := hrel
      have HB := Lib.hid hb
      have HBw := Lib.hid (HB0.out.trans (hb.mono (Nat.le_succ _)))
      obtain ⟨f2, f3⟩ := HC.out wr hb
      by_cases hlt : j < n
      · obtain ⟨t, ht⟩ : ∃ t, ps[j]? = some t := ⟨_, List.getElem?_eq_getElem (by rw [HN.out]; exact hlt)⟩
        obtain ⟨b, o, kd', di', db', ds', q, m, c, ps', rfl, hbl, rfl, d0, d1, d2, d3, d4, hP⟩ := (HD.out.below HBw.out).part ht
        have HT := Lib.hid ht
        have CX : Hid (∀ W (u v : Nat), u ≤ 1000 → v ≤ 4096 → Below wr.heap.size wr W → Calls Tryd.prog 31 #[.agg #[.int .i64 kd', .int .i64 di', .int .u64 db', .string ds', .slice q m c], .int .i64 (u : Nat), .int .i64 (v : Nat)] W (CntPost (.mk kd' di' db' ds' ps') u v W)) := fun W u v hu hv hb => IH.out W kd' di' db' ds' q m c ps' u v (hP.below hb) hu hv
        have g1 : (j : Int) < (n : Int) := by omega
        have hs := HB.out.size
        obtain ⟨V, hV⟩ : ∃ V, lf - X = V := ⟨_, rfl⟩
        have hVI : IntKind.i64.wrap ((lf : Int) - (X : Int)) = (V : Int) := by rw [IntWalk.i64_in _ (by omega)]; omega
        have hVI2 : (lf : Int) - (X : Int) = (V : Int) := by omega
        have hV4 : V ≤ 4096 := by omega
        have HV := Lib.hid hV
        clear hP hb ht hV
        go_wp2_with fail
        refine (CX.out _ (dp + 1) V (by omega) hV4 (Below.refl _ _)).mono ?_
        rintro r' W ⟨a1, a2, rfl, hb2, hres⟩
        have HB2 := Lib.hid (HB.out.trans (hb2.mono (by omega)))
        have HBw2 := Lib.hid (HB0.out.trans (HB2.out.mono (Nat.le_succ _)))
        have hn1 := sizes_next HT.out
        have hn2 := deeps_next HT.out
        have hxy := HXY.out
        rcases hres with ⟨hg, rfl, h2⟩ | ⟨hg, rfl⟩
        · obtain ⟨T, hT⟩ : ∃ T, (Dv.mk kd' di' db' ds' ps').size = T := ⟨_, rfl⟩
          obtain ⟨D, hD⟩ : ∃ D, (Dv.mk kd' di' db' ds' ps').deep = D := ⟨_, rfl⟩
          obtain ⟨hg1, hg2⟩ := hg
          rw [hT] at hg1 hn1
          rw [hD] at hg2 h2 hn2
          have hV := HV.out
          have ha2 : a2 = ((dp + D : Nat) : Int) := by omega
          subst ha2
          obtain ⟨E, hE⟩ : ∃ E, dp + D = E := ⟨_, rfl⟩
          rw [hE, hT]
          have HX2 : Hid (X + T = 1 + sizes (ps.take (j + 1)) ∧ max Y E = dp + deeps (ps.take (j + 1))) := by
            refine ⟨?_, ?_⟩ <;> omega
          have hXT : X + T ≤ lf := by omega
          have hXI : ¬ (lf : Int) < (X : Int) + (T : Int) := by omega
          have hE16 : E ≤ 16 := by omega
          clear hb2 d0 d1 d2 d3 d4 f2 hT hD hn1 hn2 hxy h2 hV hg1 hg2 hE
          by_cases hYE : Y < E
          · have hYI : (Y : Int) < (E : Int) := by omega
            have hE2 : ¬ (16 : Int) < (E : Int) := by omega
            go_wp2_with fail
            go_roundw
            case rel => exact ⟨j + 1, X + T, E, by go_num, by omega, by go_num, by first | rfl | rw [if_pos hYE], HB2.out, hXT, hE16, ⟨HX2.out.1, by have := HX2.out.2; omega⟩⟩
            case measure => simp [intOf]; omega
          · have hYI : ¬ (Y : Int) < (E : Int) := by omega
            have hE2 : ¬ (16 : Int) < (Y : Int) := by omega
            go_wp2_with fail
            go_roundw
            case rel => exact ⟨j + 1, X + T, Y, by go_num, by omega, by go_num, by first | rfl | rw [if_neg hYE], HB2.out, hXT, hY, ⟨HX2.out.1, by have := HX2.out.2; omega⟩⟩
            case measure => simp [intOf]; omega
        · have HNG : Hid (¬ Good (.mk kd di db ds ps) dp lf) := fun h => hg (by
            have h1 := h.1
            have h2 := h.2
            have hV := HV.out
            rw [HSZ.out.1] at h1
            rw [HSZ.out.2] at h2
            exact ⟨by omega, by omega⟩)
          have hXI : (lf : Int) < (X : Int) + 4097 := by omega
          clear hb2 d0 d1 d2 d3 d4 f2 hn1 hn2 hxy hg
          go_wp2_with fail
          all_goals
            rw [← HPP.out]
            exact ⟨4097, _, rfl, HBw2.out, .inr ⟨HNG.out, rfl⟩⟩
      · obtain rfl : j = n := by omega
        have hxy := HXY.out
        rw [List.take_of_length_le (by rw [HN.out]; exact Nat.le_refl _)] at hxy
        have HXY2 := Lib.hid hxy
        clear hb hxy
        go_wp2_with fail
        rw [← HPP.out]
        have h1 := HXY2.out
        exact ⟨X, _, rfl, HBw.out, .inl ⟨⟨by rw [HSZ.out.1]; omega, by rw [HSZ.out.2]; omega⟩, by rw [HSZ.out.1]; omega, by rw [HSZ.out.2]; omega⟩⟩
end Go.Proofs.YtmncpbfghabamaaDoor
