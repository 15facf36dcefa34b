/- ROUTE: the law's small functions: same, fit, awake. -/
import Derived.Test.YtpgdiekpeceicaaDoorRouteExplR
import Derived.Test.YtpgdiekpeceicaaDoorRouteRight
import Derived.Deep.QuietTactic
import Derived.BigQuiet
namespace Go.Proofs.YtpgdiekpeceicaaDoor
open Go Go.RowKit Go.Shelf

theorem draws_more {w wr : World} (h : ∃ q, wr = w.drewN q) (n : Nat) : ∃ q, wr.drewN n = w.drewN q := by
  obtain ⟨q, rfl⟩ := h
  exact ⟨q + n, by simp [World.drewN, Nat.add_assoc]⟩
theorem below_draws {B : Nat} {a w : World} (h : Below B a w) (q : Nat) : Below B a (w.drewN q) := ⟨h.os, h.tape, h.output, h.size, h.block⟩

set_option maxHeartbeats 2000000 in
theorem same_true {w : World} {a b : Value} {l : List Int} (hA : Zs w a l) (hB : Zs w b l) : Calls Tryd.prog 11 #[a, b] w (HoldPost w true) := by
  obtain ⟨p1, c1, rfl, k1, m1, h1⟩ := hA
  obtain ⟨p2, c2, rfl, k2, m2, h2⟩ := hB
  have H1 : Hid (∀ wr, (∃ q, wr = w.drewN q) → ∀ j x, l[j]? = some x → ∃ b o b' o', p1 = some ⟨b, o, none⟩ ∧ p2 = some ⟨b', o', none⟩ ∧ wr.cell? ⟨b, o + j, none⟩ = some (.int .i64 x) ∧ wr.cell? ⟨b', o' + j, none⟩ = some (.int .i64 x)) := fun wr hw j x hj => by
    have hl : 0 < l.length := by have := (List.getElem?_eq_some_iff.1 hj).1; omega
    obtain ⟨b, o, e1, q1⟩ := h1 hl
    obtain ⟨b', o', e2, q2⟩ := h2 hl
    obtain ⟨q, rfl⟩ := hw
    exact ⟨b, o, b', o', e1, e2, q1 j x hj, q2 j x hj⟩
  obtain ⟨PP, hPP⟩ : ∃ PP, HoldPost w true = PP := ⟨_, rfl⟩
  rw [hPP]
  have HPP := Lib.hid hPP
  clear h1 h2 hPP
  go_enter Tryd.func11, Tryd.ntmps11
  go_wp2
  go_loopw [13] (fun i wr => ∃ k : Nat, i = .int .i64 (k : Nat) ∧ k ≤ l.length ∧ ∃ q, wr = w.drewN q) (fun i _ => l.length - (intOf i).toNat)
  case atStart => exact ⟨0, rfl, by omega, 0, rfl⟩
  case round =>
    obtain ⟨k, rfl, hk, hw⟩ := hrel
    have HW := Lib.hid hw
    by_cases hlt : k < l.length
    · obtain ⟨x, hx⟩ : ∃ x, l[k]? = some x := ⟨_, List.getElem?_eq_getElem hlt⟩
      obtain ⟨b, o, b', o', rfl, rfl, d1, d2⟩ := H1.out wr hw k x hx
      have g4 : (k : Int) < (l.length : Int) := by omega
      clear hx hw
      go_wp2
      go_quiet (fail)
      go_wp2
      go_roundw
      case rel => exact ⟨k + 1, by go_num, by omega, draws_more HW.out _⟩
      case measure => simp [intOf]; omega
    · obtain rfl : k = l.length := by omega
      clear hw
      go_wp2
      rw [← HPP.out]
      obtain ⟨q, hq⟩ := HW.out
      exact ⟨rfl, by rw [hq]; exact below_draws (Below.refl _ _) _⟩

set_option maxHeartbeats 4000000 in
theorem fit_any (k : Nat) (p : Option Addr) (cap : Nat) (l : List Rt) (w : World) (hl : Rts w k p l) (hsz : ∀ r ∈ l, r.fi.size ≤ 1048576) (hT : Tabs w) (k2 : Nat)
    (kd : Int) (di : Int) (db : Int) (ds : ByteArray) (q : Option Addr) (m c : Nat) (id : Int) (tp : ByteArray) (at_ un : Int) (rp : ByteArray) (co pr hp : Int) (htp : tp.size ≤ 1048576) (hD : DtIs w k2 [.int .i64 kd, .int .i64 di, .int .u64 db, .string ds, .slice q m c]) :
    Calls Tryd.prog 7 #[.slice p l.length cap, .agg #[.int .i64 id, .string tp, .int .i64 kd, .int .i64 di, .int .u64 db, .string ds, .slice q m c, .int .i64 at_, .int .i64 un, .string rp, .int .i64 co, .int .i64 pr, .int .i64 hp]] w (FitPost w (l.length ≤ 400 ∧ (∀ r ∈ l, OkW k r.want) ∧ 0 ≤ kd ∧ kd < 14)) := by
  have CF : Hid (∀ W, Below w.heap.size w W → Calls Tryd.prog 19 #[.slice p l.length cap] W (FitPost W (∀ r ∈ l, OkW k r.want))) := fun W hb => refFit21_any k p cap l W (hl.below hb) hsz (hT.below hb)
  have CN : Hid (∀ W, Below w.heap.size w W → Calls Tryd.prog 20 #[.string tp] W (HoldPost W (nameB tp.data.toList))) := fun W hb => refName_any valid_said tp W (by omega) (hT.below hb)
  have CV : Hid (∀ W, Below w.heap.size w W → Calls Tryd.prog 18 #[.agg #[.int .i64 kd, .int .i64 di, .int .u64 db, .string ds, .slice q m c]] W (ValidPost W kd)) := fun W hb => valid_any k2 W kd di db ds q m c (hD.below hb)
  have HC : Hid (∀ W, Below (w.heap.size + 1) (w.alloc (.cells #[.int .i64 id, .string tp, .int .i64 kd, .int .i64 di, .int .u64 db, .string ds, .slice q m c, .int .i64 at_, .int .i64 un, .string rp, .int .i64 co, .int .i64 pr, .int .i64 hp] 28)) W → W.heap[w.heap.size]? = some (.cells #[.int .i64 id, .string tp, .int .i64 kd, .int .i64 di, .int .u64 db, .string ds, .slice q m c, .int .i64 at_, .int .i64 un, .string rp, .int .i64 co, .int .i64 pr, .int .i64 hp] 28 (0, 0))) := fun W hb =>
    (hb.block _ (by omega)).trans (heap_alloc_new _ _)
  have hll := hl.1
  obtain ⟨PP, hPP⟩ : ∃ PP, FitPost w (l.length ≤ 400 ∧ (∀ r ∈ l, OkW k r.want) ∧ 0 ≤ kd ∧ kd < 14) = PP := ⟨_, rfl⟩
  rw [hPP]
  have HPP := Lib.hid hPP
  have HB0 : Hid (Below w.heap.size w (w.alloc (.cells #[.int .i64 id, .string tp, .int .i64 kd, .int .i64 di, .int .u64 db, .string ds, .slice q m c, .int .i64 at_, .int .i64 un, .string rp, .int .i64 co, .int .i64 pr, .int .i64 hp] 28))) := (Below.refl _ _).alloc (Nat.le_refl _) _
  clear hPP hl hT hD hsz
  have h4 : l.length ≤ 400 ∨ ¬ l.length ≤ 400 := by omega
  rcases h4 with h4 | h4
  · have h4' : (l.length : Int) ≤ 400 := by omega
    go_enter Tryd.func7, Tryd.ntmps7
    go_wp2_with fail
    refine (CF.out _ HB0.out).mono ?_
    rintro e W1 ⟨b1, rfl, hf, hb1⟩
    have HF := Lib.hid hf
    have H1 : Hid (Below (w.heap.size + 1) (w.alloc (.cells #[.int .i64 id, .string tp, .int .i64 kd, .int .i64 di, .int .u64 db, .string ds, .slice q m c, .int .i64 at_, .int .i64 un, .string rp, .int .i64 co, .int .i64 pr, .int .i64 hp] 28)) W1) := by show Below _ _ _; simpa using hb1
    have HB1 := Lib.hid (HB0.out.trans (hb1.mono HB0.out.size))
    have hw1 : w.heap.size + 1 ≤ W1.heap.size := by have := hb1.size; simpa using this
    clear hb1 hf CF
    cases b1 with
    | false =>
      go_wp2_with fail
      rw [← HPP.out]; exact ⟨false, rfl, fun h => (by simp at h), HB1.out⟩
    | true =>
      obtain ⟨-, m1, -⟩ := msg_cells (HC.out W1 H1.out)
      go_wp2_with fail
      refine (CN.out _ HB1.out).mono ?_
      rintro e W2 ⟨rfl, hb2⟩
      have H2 := Lib.hid (H1.out.trans (hb2.mono hw1))
      have HB2 := Lib.hid (HB1.out.trans (hb2.mono HB1.out.size))
      have hw2 : w.heap.size + 1 ≤ W2.heap.size := by have := hb2.size; omega
      clear hb2 m1 CN
      cases nameB tp.data.toList with
      | false =>
        go_wp2_with fail
        rw [← HPP.out]; exact ⟨false, rfl, fun h => (by simp at h), HB2.out⟩
      | true =>
        obtain ⟨m0, m1, m2, m3, m4, m5, m6, -⟩ := msg_cells (HC.out W2 H2.out)
        clear m0 m1
        go_wp2_with fail
        refine (CV.out _ HB2.out).mono ?_
        rintro e W3 ⟨b3, rfl, hv, hb3⟩
        have HV := Lib.hid hv
        have HB3 := Lib.hid (HB2.out.trans (hb3.mono HB2.out.size))
        clear hb3 hv CV m2 m3 m4 m5 m6
        cases b3 with
        | false =>
          go_wp2_with fail
          rw [← HPP.out]; exact ⟨false, rfl, fun h => (by simp at h), HB3.out⟩
        | true =>
          go_wp2_with fail
          rw [← HPP.out]; exact ⟨true, rfl, fun _ => ⟨h4, HF.out (by trivial), HV.out (by trivial)⟩, HB3.out⟩
  · have h4' : ¬ (l.length : Int) ≤ 400 := by omega
    go_enter Tryd.func7, Tryd.ntmps7
    go_wp2_with fail
    rw [← HPP.out]; exact ⟨false, rfl, fun h => (by simp at h), HB0.out⟩

def awRts : List Rt := [⟨⟨#[97, 47, 35]⟩, .mk 2 4 [], 0, false⟩, ⟨⟨#[35]⟩, .mk 0 0 [], 1, true⟩]
theorem aw_ok : ∀ r ∈ awRts, OkR 1 r := by
  intro r hr
  simp only [awRts, List.mem_cons, List.not_mem_nil, or_false] at hr
  rcases hr with rfl | rfl
  · exact ⟨.inr (.inr (.inl ⟨rfl, by omega, by omega, rfl⟩)), by decide⟩
  · exact ⟨.inl rfl, by decide⟩
theorem aw_one : handsR awRts (findR (agFrom 1 ⟨#[97, 47, 98]⟩ 4 0 awRts)).1 = [0] := by kernel_rfl
theorem aw_two : handsR awRts (findR (agFrom 1 ⟨#[97, 47, 98]⟩ 0 0 awRts)).1 = [1] := by kernel_rfl
def awCells : Array Value := #[.string ⟨#[97, 47, 35]⟩, .int .i64 2, .int .i64 4, .slice none 0 0, .int .i64 0, .bool false, .string ⟨#[35]⟩, .int .i64 0, .int .i64 0, .slice none 0 0, .int .i64 1, .bool true]
theorem aw_rts {W : World} {B : Nat} {t : TypeId} (h : W.heap[B]? = some (.cells awCells t (0, 0))) : Rts W 1 (some ⟨B, 0, none⟩) awRts := by
  refine ⟨by decide, fun _ => ⟨B, 0, rfl, fun j r hj => ?_⟩⟩
  have cell : ∀ i v, awCells[i]? = some v → W.cell? ⟨B, i, none⟩ = some v := fun i v hv => by
    have := cell_of_row W B i _ _ _ h
    exact this.trans hv
  match j, hj with
  | 0, hj =>
    injection hj with hj; subst hj
    exact ⟨2, 4, none, 0, 0, cell 0 _ rfl, cell 1 _ rfl, cell 2 _ rfl, cell 3 _ rfl, cell 4 _ rfl, cell 5 _ rfl, none, 0, rfl, Nat.le_refl _, by omega, fun h => absurd h (by decide)⟩
  | 1, hj =>
    injection hj with hj; subst hj
    exact ⟨0, 0, none, 0, 0, cell 6 _ rfl, cell 7 _ rfl, cell 8 _ rfl, cell 9 _ rfl, cell 10 _ rfl, cell 11 _ rfl, none, 0, rfl, Nat.le_refl _, by omega, fun h => absurd h (by decide)⟩
  | j + 2, hj => cases hj

set_option maxHeartbeats 4000000 in
theorem awake_any (w : World) (hT : Tabs w) : Calls Tryd.prog 8 #[] w (HoldPost w true) := by
  have HB0 : Hid (Below w.heap.size w (w.alloc (.cells awCells 42))) := (Below.refl _ _).alloc (Nat.le_refl _) _
  have HR0 : Hid (Rts (w.alloc (.cells awCells 42)) 1 (some ⟨w.heap.size, 0, none⟩) awRts) := aw_rts (heap_alloc_new _ _)
  have C1 : Hid (∀ W, Below (w.alloc (.cells awCells 42)).heap.size (w.alloc (.cells awCells 42)) W → Calls Tryd.prog 12 #[.slice (some ⟨w.heap.size, 0, none⟩) 2 2, .agg #[.int .i64 0, .string ⟨#[97, 47, 98]⟩, .int .i64 4, .int .i64 0, .int .u64 0, .string ⟨#[]⟩, .slice none 0 0, .int .i64 0, .int .i64 0, .string ⟨#[]⟩, .int .i64 0, .int .i64 0, .int .i64 0]] W (ZsPost W [0])) := fun W hb => by
    rw [← aw_one]
    exact handlers_any 1 (some ⟨w.heap.size, 0, none⟩) 2 awRts W (HR0.out.below hb) aw_ok (hT.below (HB0.out.trans (hb.mono (by simp)))) 4 (by decide) 0 0 _ none 0 0 0 ⟨#[97, 47, 98]⟩ 0 0 _ 0 0 0 (by decide)
  have C2 : Hid (∀ W, Below (w.alloc (.cells awCells 42)).heap.size (w.alloc (.cells awCells 42)) W → Calls Tryd.prog 12 #[.slice (some ⟨w.heap.size, 0, none⟩) 2 2, .agg #[.int .i64 0, .string ⟨#[97, 47, 98]⟩, .int .i64 0, .int .i64 0, .int .u64 0, .string ⟨#[]⟩, .slice none 0 0, .int .i64 0, .int .i64 0, .string ⟨#[]⟩, .int .i64 0, .int .i64 0, .int .i64 0]] W (ZsPost W [1])) := fun W hb => by
    rw [← aw_two]
    exact handlers_any 1 (some ⟨w.heap.size, 0, none⟩) 2 awRts W (HR0.out.below hb) aw_ok (hT.below (HB0.out.trans (hb.mono (by simp)))) 0 (by decide) 0 0 _ none 0 0 0 ⟨#[97, 47, 98]⟩ 0 0 _ 0 0 0 (by decide)
  obtain ⟨PP, hPP⟩ : ∃ PP, HoldPost w true = PP := ⟨_, rfl⟩
  rw [hPP]
  have HPP := Lib.hid hPP
  clear hPP hT HR0
  unfold awCells at *
  go_enter Tryd.func8, Tryd.ntmps8
  go_wp2_with fail
  refine (C1.out _ (Below.refl _ _)).mono ?_
  rintro e W1 ⟨v, rfl, hz, hb1, -⟩
  have HZ := Lib.hid hz
  have HB1 := Lib.hid hb1
  obtain ⟨p1, cap1, rfl, -⟩ := hz
  clear hb1 C1
  go_wp2_with fail
  refine (C2.out _ HB1.out).mono ?_
  rintro e W2 ⟨v, rfl, hz2, hb2, -⟩
  obtain ⟨p2, cap2, rfl, -, -, h2⟩ := hz2
  obtain ⟨p1', cap1', e1, -, -, h1⟩ := HZ.out.below hb2
  injection e1 with e1 e2 e3
  subst e1; subst e3
  obtain ⟨b1, o1, rfl, g1⟩ := h1 (by decide)
  obtain ⟨b2, o2, rfl, g2⟩ := h2 (by decide)
  have d1 : W2.cell? ⟨b1, o1, none⟩ = some (.int .i64 0) := g1 0 0 rfl
  have d2 : W2.cell? ⟨b2, o2, none⟩ = some (.int .i64 1) := g2 0 1 rfl
  clear h1 h2 g1 g2
  have HB2 := Lib.hid (HB0.out.trans ((HB1.out.trans (hb2.mono HB1.out.size)).mono HB0.out.size))
  clear hb2 C2 HZ HB1
  go_wp2_with fail
  rw [← HPP.out]
  exact ⟨rfl, HB2.out⟩
end Go.Proofs.YtpgdiekpeceicaaDoor
