/- ROUTE: conduitref01.count. -/
import Derived.Test.YtpgdiekpeceicaaDoorRouteTyped
namespace Go.Proofs.YtpgdiekpeceicaaDoor
open Go Go.RowKit

/-- five cells that read as a value of so many levels at most -/
def DtIs (w : World) : Nat → List Value → Prop
  | 0, _ => False
  | k + 1, cs => ∃ (kd di : Int) (db : Int) (ds : ByteArray) (p : Option Addr) (n cap : Nat), cs = [.int .i64 kd, .int .i64 di, .int .u64 db, .string ds, .slice p n cap] ∧ n ≤ cap ∧ cap ≤ 9223372036854775807 ∧
      (0 < n → ∃ b o, p = some ⟨b, o, none⟩ ∧ ∀ j, j < n → ∃ c0 c1 c2 c3 c4, w.cell? ⟨b, o + j * 5, none⟩ = some c0 ∧ w.cell? ⟨b, o + j * 5 + 1, none⟩ = some c1 ∧ w.cell? ⟨b, o + j * 5 + 2, none⟩ = some c2 ∧ w.cell? ⟨b, o + j * 5 + 3, none⟩ = some c3 ∧ w.cell? ⟨b, o + j * 5 + 4, none⟩ = some c4 ∧ DtIs w k [c0, c1, c2, c3, c4])
theorem DtIs.below {w w' : World} (hb : Below w.heap.size w w') : ∀ {k : Nat} {cs : List Value}, DtIs w k cs → DtIs w' k cs := by
  intro k
  induction k with
  | zero => intro cs h; exact h
  | succ k ih =>
    intro cs h
    obtain ⟨kd, di, db, ds, p, n, cap, h1, h2, h3, h4⟩ := h
    refine ⟨kd, di, db, ds, p, n, cap, h1, h2, h3, fun hn => ?_⟩
    obtain ⟨b, o, hp, hc⟩ := h4 hn
    refine ⟨b, o, hp, fun j hj => ?_⟩
    obtain ⟨c0, c1, c2, c3, c4, q0, q1, q2, q3, q4, ht⟩ := hc j hj
    exact ⟨c0, c1, c2, c3, c4, (hb.cell (World.block_lt_of_cell? w _ q0)).trans q0, (hb.cell (World.block_lt_of_cell? w _ q1)).trans q1, (hb.cell (World.block_lt_of_cell? w _ q2)).trans q2, (hb.cell (World.block_lt_of_cell? w _ q3)).trans q3, (hb.cell (World.block_lt_of_cell? w _ q4)).trans q4, ih ht⟩
/-- a part of a value, as the walk reads it -/
theorem DtIs.part {w : World} {k : Nat} {p : Option Addr} {n cap : Nat} {kd di db : Int} {ds : ByteArray} (h : DtIs w (k + 1) [.int .i64 kd, .int .i64 di, .int .u64 db, .string ds, .slice p n cap]) {j : Nat} (hj : j < n) :
    ∃ b o kd' di' db' ds' q m c, p = some ⟨b, o, none⟩ ∧ b < w.heap.size ∧ w.cell? ⟨b, o + j * 5, none⟩ = some (.int .i64 kd') ∧ w.cell? ⟨b, o + j * 5 + 1, none⟩ = some (.int .i64 di') ∧ w.cell? ⟨b, o + j * 5 + 2, none⟩ = some (.int .u64 db') ∧ w.cell? ⟨b, o + j * 5 + 3, none⟩ = some (.string ds') ∧ w.cell? ⟨b, o + j * 5 + 4, none⟩ = some (.slice q m c) ∧ DtIs w k [.int .i64 kd', .int .i64 di', .int .u64 db', .string ds', .slice q m c] := by
  obtain ⟨kd0, di0, db0, ds0, p0, n0, cap0, e1, h2, h3, h4⟩ := h
  injection e1 with _ e1
  injection e1 with _ e1
  injection e1 with _ e1
  injection e1 with _ e1
  injection e1 with e1
  injection e1 with e1 e2
  subst e1; subst e2
  obtain ⟨b, o, hp, hc⟩ := h4 (by omega)
  obtain ⟨c0, c1, c2, c3, c4, q0, q1, q2, q3, q4, ht⟩ := hc j hj
  cases k with
  | zero => exact ht.elim
  | succ k =>
    have ⟨kd', di', db', ds', q, m, c, e2, _⟩ := ht
    injection e2 with e3 e2
    injection e2 with e4 e2
    injection e2 with e5 e2
    injection e2 with e6 e2
    injection e2 with e7
    subst e3; subst e4; subst e5; subst e6; subst e7
    exact ⟨b, o, kd', di', db', ds', q, m, c, hp, World.block_lt_of_cell? w _ q0, q0, q1, q2, q3, q4, ht⟩
theorem DtIs.bound {w : World} {k : Nat} {p : Option Addr} {n cap : Nat} {kd di db : Int} {ds : ByteArray} (h : DtIs w k [.int .i64 kd, .int .i64 di, .int .u64 db, .string ds, .slice p n cap]) : n ≤ cap ∧ cap ≤ 9223372036854775807 := by
  cases k with
  | zero => exact h.elim
  | succ k =>
    obtain ⟨kd0, di0, db0, ds0, p0, n0, cap0, e1, h2, h3, h4⟩ := h
    injection e1 with _ e1
    injection e1 with _ e1
    injection e1 with _ e1
    injection e1 with _ e1
    injection e1 with e1
    injection e1 with e1 e2 e3
    subst e2; subst e3
    exact ⟨h2, h3⟩

def CountPost (w : World) (r : Ending) (w' : World) : Prop := ∃ a b : Int, r = .returned (.tuple #[.int .i64 a, .int .i64 b]) ∧ Below w.heap.size w w'

set_option maxRecDepth 100000 in
set_option maxHeartbeats 8000000 in
theorem count_any : ∀ (k : Nat) (w : World) (kd di db : Int) (ds : ByteArray) (p : Option Addr) (n cap : Nat) (dp lf : Int), DtIs w k [.int .i64 kd, .int .i64 di, .int .u64 db, .string ds, .slice p n cap] →
    Calls Tryd.prog 31 #[.agg #[.int .i64 kd, .int .i64 di, .int .u64 db, .string ds, .slice p n cap], .int .i64 dp, .int .i64 lf] w (CountPost w) := by
  intro k
  induction k with
  | zero => intro w kd di db ds p n cap dp lf h; exact h.elim
  | succ k ih =>
    intro w kd di db ds p n cap dp lf hD
    have IH := Lib.hid ih
    clear ih
    obtain ⟨k1, k2⟩ := hD.bound
    have HD := Lib.hid hD
    obtain ⟨PP, hPP⟩ : ∃ PP, CountPost w = PP := ⟨_, rfl⟩
    rw [hPP]
    have HPP := Lib.hid hPP
    clear hPP hD
    have HB0 : Hid (Below w.heap.size w (w.alloc (.cells #[.int .i64 kd, .int .i64 di, .int .u64 db, .string ds, .slice p n cap] 26))) := (Below.refl _ _).alloc (Nat.le_refl _) _
    have HC : Hid (∀ W, Below (w.heap.size + 1) (w.alloc (.cells #[.int .i64 kd, .int .i64 di, .int .u64 db, .string ds, .slice p n cap] 26)) W → W.cell? ⟨w.heap.size, 4, none⟩ = some (.slice p n cap) ∧ w.heap.size < W.heap.size) := fun W hb =>
      ⟨by rw [hb.cell (Nat.lt_succ_self _)]; go_simp, by have := hb.size; simp at this; omega⟩
    have hdd : 16 < dp ∨ ¬ 16 < dp := by omega
    have hll : lf ≤ 0 ∨ ¬ lf ≤ 0 := by omega
    rcases hdd with hdd | hdd
    · go_enter Tryd.func31, Tryd.ntmps31
      go_wp2_with fail
      rw [← HPP.out]
      exact ⟨_, _, rfl, HB0.out⟩
    rcases hll with hll | hll
    · go_enter Tryd.func31, Tryd.ntmps31
      go_wp2_with fail
      rw [← HPP.out]
      exact ⟨_, _, rfl, HB0.out⟩
    go_enter Tryd.func31, Tryd.ntmps31
    go_wp2_with fail
    go_loopw [8, 9, 10, 11, 12, 24] (fun nn mo u1 u2 u3 i wr => ∃ (j : Nat) (x y : Int), i = .int .i64 (j : Nat) ∧ j ≤ n ∧ nn = .int .i64 x ∧ mo = .int .i64 y ∧ Below (w.heap.size + 1) (w.alloc (.cells #[.int .i64 kd, .int .i64 di, .int .u64 db, .string ds, .slice p n cap] 26)) wr) (fun _ _ _ _ _ i _ => n - (intOf i).toNat)
    case atStart => exact ⟨0, 1, dp, rfl, by omega, rfl, rfl, Below.refl _ _⟩
    case round =>
      obtain ⟨j, x, y, rfl, hj, rfl, rfl, hb⟩ := hrel
      have HB := Lib.hid hb
      have HBw := Lib.hid (HB0.out.trans (hb.mono (Nat.le_succ _)))
      obtain ⟨f2, f3⟩ := HC.out wr hb
      by_cases hlt : j < n
      · obtain ⟨b, o, kd', di', db', ds', q, m, c, rfl, hbl, d0, d1, d2, d3, d4, hP⟩ := (HD.out.below HBw.out).part hlt
        have CX : Hid (∀ W (u v : Int), Below wr.heap.size wr W → Calls Tryd.prog 31 #[.agg #[.int .i64 kd', .int .i64 di', .int .u64 db', .string ds', .slice q m c], .int .i64 u, .int .i64 v] W (CountPost W)) := fun W u v hb => IH.out W kd' di' db' ds' q m c u v (hP.below hb)
        have g1 : (j : Int) < (n : Int) := by omega
        have hs := HB.out.size
        clear hP hb
        go_wp2_with fail
        refine (CX.out _ _ _ (Below.refl _ _)).mono ?_
        rintro r' W ⟨a1, a2, rfl, hb2⟩
        have HB2 := Lib.hid (HB.out.trans (hb2.mono (by omega)))
        have HBw2 := Lib.hid (HB0.out.trans (HB2.out.mono (Nat.le_succ _)))
        clear hb2 d0 d1 d2 d3 d4 f2
        go_wp2_with fail
        all_goals first
          | (rw [← HPP.out]; exact ⟨_, _, rfl, HBw2.out⟩)
          | (go_roundw
             case rel => exact ⟨j + 1, _, _, by go_num, by omega, rfl, rfl, HB2.out⟩
             case measure => simp [intOf]; omega)
      · obtain rfl : j = n := by omega
        clear hb
        go_wp2_with fail
        rw [← HPP.out]
        exact ⟨_, _, rfl, HBw.out⟩
end Go.Proofs.YtpgdiekpeceicaaDoor
