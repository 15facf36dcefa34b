/- STATS: the law StatsMiddle, walked. -/
import Derived.Test.YtejehjlegfpgbaaStatsAwake
namespace Go.Proofs.Ytejehjlegfpgbaa
open Go Go.RowKit Go.Maps

def Adj (l : List Int) : Prop := ∀ (i : Nat) (x y : Int), l[i]? = some x → l[i + 1]? = some y → x ≤ y
theorem Adj.mono {l : List Int} (h : Adj l) : ∀ (d i : Nat) (x y : Int), l[i]? = some x → l[i + d]? = some y → x ≤ y := by
  intro d
  induction d with
  | zero => intro i x y h1 h2; rw [Nat.add_zero, h1] at h2; injection h2 with h2; omega
  | succ d ih =>
    intro i x y h1 h2
    have hl := (List.getElem?_eq_some_iff.1 h2).1
    have hz : l[i + d]? = some (l[i + d]'(by omega)) := List.getElem?_eq_getElem (by omega)
    have := ih i x _ h1 hz
    have := h (i + d) _ y hz h2
    omega
theorem least {p : Nat → Prop} (h : ∃ n, p n) : ∃ n, p n ∧ ∀ m, m < n → ¬ p m := by
  obtain ⟨n, hn⟩ := h
  induction n using Nat.strongRecOn with
  | _ n ih =>
    by_cases hm : ∃ m, m < n ∧ p m
    · obtain ⟨m, h1, h2⟩ := hm; exact ih m h1 h2
    · exact ⟨n, hn, fun m h1 h2 => hm ⟨m, h1, h2⟩⟩
theorem Adj.bad {l : List Int} (h : ¬ Adj l) : ∃ (n : Nat) (x y : Int), l[n]? = some x ∧ l[n + 1]? = some y ∧ y < x ∧ ∀ (i : Nat) (x y : Int), i < n → l[i]? = some x → l[i + 1]? = some y → x ≤ y := by
  have h1 : ∃ n, ∃ x y, l[n]? = some x ∧ l[n + 1]? = some y ∧ y < x := by
    apply Classical.byContradiction
    intro hn
    refine h (fun i x y h1 h2 => ?_)
    by_cases hxy : x ≤ y
    · exact hxy
    · exact absurd ⟨i, x, y, h1, h2, by omega⟩ hn
  obtain ⟨n, ⟨x, y, h1, h2, h3⟩, h4⟩ := least h1
  refine ⟨n, x, y, h1, h2, h3, fun i a b hi ha hb => ?_⟩
  by_cases hab : a ≤ b
  · exact hab
  · exact absurd ⟨a, b, ha, hb, by omega⟩ (h4 i hi)

theorem il_cells {w : World} {p : Option Addr} {n cap : Nat} {l : List Int} (h : Il w (.slice p n cap) l) : Hid (∀ wr, (∃ q, wr = w.drewN q) → ∀ (j : Nat) (x : Int), l[j]? = some x → ∃ b o, p = some ⟨b, o, none⟩ ∧ wr.cell? ⟨b, o + j, none⟩ = some (.int .i64 x)) := fun wr hw j x hj => by
  obtain ⟨p', cap', e, h1, h2, h3⟩ := h
  injection e with e1 e2 e3
  subst e1
  obtain ⟨b, o, hp, hc⟩ := h3 (by have := (List.getElem?_eq_some_iff.1 hj).1; omega)
  obtain ⟨q, rfl⟩ := hw
  exact ⟨b, o, hp, hc j x hj⟩
set_option maxHeartbeats 2000000 in
theorem rises_true {w : World} {v : Value} {l : List Int} (hV : Il w v l) (hl : l.length ≤ 1048576) (h : Adj l) : Calls Try.prog 13 #[v] w (QuietTo w (.bool true)) := by
  have ⟨p, cap, hv, k1, k2, _⟩ := hV
  subst hv
  have HC := il_cells hV
  have HA := Lib.hid h
  obtain ⟨PP, hPP⟩ : ∃ PP, QuietTo w (.bool true) = PP := ⟨_, rfl⟩
  rw [hPP]
  have HPP := Lib.hid hPP
  clear hPP hV h
  go_enter Try.func13, Try.ntmps13
  go_wp2
  go_loopw [3] (fun i wr => ∃ k : Nat, i = .int .i64 ((k : Int) + 1) ∧ k ≤ l.length ∧ ∃ q, wr = w.drewN q) (fun i _ => l.length + 1 - (intOf i).toNat)
  case atStart => exact ⟨0, by go_num, by omega, 0, rfl⟩
  case round =>
    obtain ⟨k, rfl, hk, hw⟩ := hrel
    have HW := Lib.hid hw
    by_cases hlt : k + 1 < l.length
    · obtain ⟨x, hx⟩ : ∃ x, l[k]? = some x := ⟨_, List.getElem?_eq_getElem (by omega)⟩
      obtain ⟨y, hy⟩ : ∃ y, l[k + 1]? = some y := ⟨_, List.getElem?_eq_getElem (by omega)⟩
      have hxy := HA.out k x y hx hy
      obtain ⟨b, o, rfl, d1⟩ := HC.out wr hw k x hx
      obtain ⟨b', o', e1, d2⟩ := HC.out wr hw (k + 1) y hy
      injection e1 with e1
      injection e1 with e1 e2
      subst e1; subst e2
      have g4 : (k : Int) + 1 < (l.length : Int) := by omega
      have g5 : (0 : Int) ≤ (k : Int) + 1 := by omega
      have g6 : IntKind.i64.wrap ((k : Int) + 1 - 1) = (k : Int) := by rw [show (k : Int) + 1 - 1 = k by omega]; exact IntWalk.i64_in _ (by omega)
      have g7 : ((k : Int) + 1).toNat = k + 1 := by omega
      clear hx hy hw
      go_wp2
      go_quiet (fail)
      clear g6 g7
      go_wp2
      go_roundw
      case rel => exact ⟨k + 1, by go_num, by omega, draws_more HW.out _⟩
      case measure => simp [intOf]; omega
    · have g4 : (l.length : Int) ≤ (k : Int) + 1 := by omega
      clear hw
      go_wp2
      rw [← HPP.out]
      exact ⟨rfl, HW.out⟩
set_option maxHeartbeats 2000000 in
theorem rises_false {w : World} {v : Value} {l : List Int} (hV : Il w v l) (_hl : l.length ≤ 1048576) (h : ¬ Adj l) : Calls Try.prog 13 #[v] w (QuietTo w (.bool false)) := by
  have ⟨p, cap, hv, k1, k2, _⟩ := hV
  subst hv
  have HC := il_cells hV
  obtain ⟨n, x0, y0, hx0, hy0, hlt0, hok⟩ := Adj.bad h
  have hnl := (List.getElem?_eq_some_iff.1 hy0).1
  have HA := Lib.hid hok
  have HX := Lib.hid hx0
  have HY := Lib.hid hy0
  obtain ⟨PP, hPP⟩ : ∃ PP, QuietTo w (.bool false) = PP := ⟨_, rfl⟩
  rw [hPP]
  have HPP := Lib.hid hPP
  clear hPP hV h hok hx0 hy0
  go_enter Try.func13, Try.ntmps13
  go_wp2
  go_loopw [3] (fun i wr => ∃ k : Nat, i = .int .i64 ((k : Int) + 1) ∧ k ≤ n ∧ ∃ q, wr = w.drewN q) (fun i _ => n + 1 - (intOf i).toNat)
  case atStart => exact ⟨0, by go_num, by omega, 0, rfl⟩
  case round =>
    obtain ⟨k, rfl, hk, hw⟩ := hrel
    have HW := Lib.hid hw
    have g4 : (k : Int) + 1 < (l.length : Int) := by omega
    have g5 : (0 : Int) ≤ (k : Int) + 1 := by omega
    have g6 : IntKind.i64.wrap ((k : Int) + 1 - 1) = (k : Int) := by rw [show (k : Int) + 1 - 1 = k by omega]; exact IntWalk.i64_in _ (by omega)
    have g7 : ((k : Int) + 1).toNat = k + 1 := by omega
    by_cases hlt : k < n
    · obtain ⟨x, hx⟩ : ∃ x, l[k]? = some x := ⟨_, List.getElem?_eq_getElem (by omega)⟩
      obtain ⟨y, hy⟩ : ∃ y, l[k + 1]? = some y := ⟨_, List.getElem?_eq_getElem (by omega)⟩
      have hxy := HA.out k x y hlt hx hy
      obtain ⟨b, o, rfl, d1⟩ := HC.out wr hw k x hx
      obtain ⟨b', o', e1, d2⟩ := HC.out wr hw (k + 1) y hy
      injection e1 with e1
      injection e1 with e1 e2
      subst e1; subst e2
      clear hx hy hw
      go_wp2
      go_quiet (fail)
      clear g6 g7
      go_wp2
      go_roundw
      case rel => exact ⟨k + 1, by go_num, by omega, draws_more HW.out _⟩
      case measure => simp [intOf]; omega
    · obtain rfl : k = n := by omega
      obtain ⟨b, o, rfl, d1⟩ := HC.out wr hw k x0 HX.out
      obtain ⟨b', o', e1, d2⟩ := HC.out wr hw (k + 1) y0 HY.out
      injection e1 with e1
      injection e1 with e1 e2
      subst e1; subst e2
      clear hw
      go_wp2
      go_quiet (fail)
      clear g6 g7
      go_wp2
      rw [← HPP.out]
      exact ⟨rfl, draws_more HW.out _⟩

theorem mid_at {f : FuncId} {v : Value} {l : List Int} {w0 : World} {t : Int} (C : ∀ W, Below w0.heap.size w0 W → Calls Try.prog f #[v, .int .i64 t] W (MidPost W l t)) (k : Nat) (hk : (t * ((l.length : Int) - 1) / 1000).toNat = k) {x : Int} (hx : l[k]? = some x) :
    Hid (∀ W, Below w0.heap.size w0 W → Calls Try.prog f #[v, .int .i64 t] W fun r w' => r = .returned (.tuple #[.int .i64 x, .bool true]) ∧ W = w') := fun W hb => by
  refine (C W hb).mono ?_
  rintro r w' ⟨⟨h, -⟩ | ⟨y, hy, rfl⟩, rfl⟩
  · subst h; simp at hx
  · rw [hk, hx] at hy; injection hy with hy; subst hy; exact ⟨rfl, rfl⟩
theorem mid_no {f : FuncId} {v : Value} {l : List Int} {w0 : World} {t : Int} (C : ∀ W, Below w0.heap.size w0 W → Calls Try.prog f #[v, .int .i64 t] W (MidPost W l t)) (hl : l = []) :
    Hid (∀ W, Below w0.heap.size w0 W → Calls Try.prog f #[v, .int .i64 t] W fun r w' => r = .returned (.tuple #[.int .i64 0, .bool false]) ∧ W = w') := fun W hb => by
  refine (C W hb).mono ?_
  rintro r w' ⟨⟨-, rfl⟩ | ⟨y, hy, -⟩, rfl⟩
  · exact ⟨rfl, rfl⟩
  · subst hl; simp at hy
theorem idx_mono {n : Nat} {t u : Int} (hn : 0 < n) (h0 : 0 ≤ t) (h1 : t ≤ u) (h2 : u ≤ 1000) : (t * ((n : Int) - 1) / 1000).toNat ≤ (u * ((n : Int) - 1) / 1000).toNat ∧ (u * ((n : Int) - 1) / 1000).toNat < n := by
  have a1 : t * ((n : Int) - 1) ≤ u * ((n : Int) - 1) := Int.mul_le_mul_of_nonneg_right h1 (by omega)
  have a2 : u * ((n : Int) - 1) ≤ 1000 * ((n : Int) - 1) := Int.mul_le_mul_of_nonneg_right h2 (by omega)
  have a3 : 0 ≤ t * ((n : Int) - 1) := Int.mul_nonneg h0 (by omega)
  generalize t * ((n : Int) - 1) = A at *
  generalize u * ((n : Int) - 1) = B at *
  omega
set_option maxRecDepth 100000 in
set_option maxHeartbeats 8000000 in
theorem statsMiddle_any (l : List Int) (v : Value) (t : Int) (_ht : Wf t) (u : Int) (_hu : Wf u) (w : World) (hV : Il w v l) (hl : l.length ≤ 1048576) (_hx : True) :
    Calls Try.prog 4 #[v, .int .i64 t, .int .i64 u] w (AwPost w) := by
  obtain ⟨PP, hPP⟩ : ∃ PP, AwPost w = PP := ⟨_, rfl⟩
  rw [hPP]
  have HPP := Lib.hid hPP
  clear hPP
  by_cases hadj : Adj l
  case neg =>
    have CR := Lib.hid (rises_false hV hl hadj)
    clear hV hadj
    go_enter Try.func4, Try.ntmps4
    go_wp2_with fail
    refine CR.out.mono ?_
    rintro r' W' ⟨rfl, q, rfl⟩
    go_wp2_with fail
    refine (awake_any _).mono ?_
    rintro r' W' ⟨rfl, hb⟩
    have HB := Lib.hid hb
    clear hb
    go_wp2
    rw [← HPP.out]
    exact ⟨rfl, (below_drewN (Below.refl _ _) q).trans HB.out⟩
  case pos =>
    have CR := Lib.hid (rises_true hV hl hadj)
    have hcase : t < 0 ∨ (0 ≤ t ∧ 1000 < t) ∨ (0 ≤ t ∧ t ≤ 1000 ∧ u < t) ∨ (0 ≤ t ∧ t ≤ 1000 ∧ t ≤ u ∧ 1000 < u) ∨ (0 ≤ t ∧ t ≤ 1000 ∧ t ≤ u ∧ u ≤ 1000) := by omega
    rcases hcase with h1 | ⟨h1, h2⟩ | ⟨h1, h2, h3⟩ | ⟨h1, h2, h3, h4⟩ | ⟨h1, h2, h3, h4⟩
    case inr.inr.inr.inr =>
      have Ct : ∀ W, Below w.heap.size w W → Calls Try.prog 14 #[v, .int .i64 t] W (MidPost W l t) := fun W hb => mid_any (hV.below hb) hl t (by omega) (by omega)
      have Cu : ∀ W, Below w.heap.size w W → Calls Try.prog 14 #[v, .int .i64 u] W (MidPost W l u) := fun W hb => mid_any (hV.below hb) hl u (by omega) (by omega)
      have Cr : ∀ W, Below w.heap.size w W → Calls Try.prog 15 #[v, .int .i64 t] W (MidPost W l t) := fun W hb => refMid_any (hV.below hb) hl t (by omega) (by omega)
      have C0 : ∀ W, Below w.heap.size w W → Calls Try.prog 14 #[v, .int .i64 0] W (MidPost W l 0) := fun W hb => mid_any (hV.below hb) hl 0 (by omega) (by omega)
      have C1 : ∀ W, Below w.heap.size w W → Calls Try.prog 14 #[v, .int .i64 1000] W (MidPost W l 1000) := fun W hb => mid_any (hV.below hb) hl 1000 (by omega) (by omega)
      by_cases hn : l = []
      · have Ct := mid_no Ct hn
        have Cu := mid_no Cu hn
        have Cr := mid_no Cr hn
        have C0 := mid_no C0 hn
        have C1 := mid_no C1 hn
        have hz : l.length = 0 := by rw [hn]; rfl
        have HZ := Lib.hid hz
        obtain ⟨p, cap, rfl, k1, k2, -⟩ := hV
        have hb : (((l.length : Nat) : Int) == 0) = true := by simp [hz]
        have hb2 : (l.length == 0) = true := by simp [hz]
        clear hn hz hadj
        go_enter Try.func4, Try.ntmps4
        go_wp2_with fail
        refine CR.out.mono ?_
        rintro r' W' ⟨rfl, q, rfl⟩
        refine k_world (fun W => Below w.heap.size w W) (by exact below_drewN (Below.refl _ _) q) (fun W hb => ?_)
        have Ct := Lib.hid (Ct.out W hb)
        have Cu := Lib.hid (Cu.out W hb)
        have Cr := Lib.hid (Cr.out W hb)
        have C0 := Lib.hid (C0.out W hb)
        have C1 := Lib.hid (C1.out W hb)
        have HB := Lib.hid hb
        clear hb
        go_wp2_with fail
        refine Ct.out.mono ?_
        rintro r' W' ⟨rfl, rfl⟩
        go_wp2_with fail
        refine Cu.out.mono ?_
        rintro r' W' ⟨rfl, rfl⟩
        go_wp2_with fail
        refine Cr.out.mono ?_
        rintro r' W' ⟨rfl, rfl⟩
        go_wp2_with fail
        refine C0.out.mono ?_
        rintro r' W' ⟨rfl, rfl⟩
        go_wp2_with fail
        refine C1.out.mono ?_
        rintro r' W' ⟨rfl, rfl⟩
        go_wp2_with fail
        refine (awake_any _).mono ?_
        rintro r' W' ⟨rfl, hb⟩
        have HB2 := Lib.hid hb
        clear hb
        go_wp2
        rw [← HPP.out]
        exact ⟨rfl, HB.out.trans (HB2.out.mono HB.out.size)⟩
      · have hn0 : 0 < l.length := List.length_pos_iff.2 hn
        obtain ⟨a1, a2⟩ := idx_mono hn0 h1 h3 h4
        obtain ⟨i, hi⟩ : ∃ i, (t * ((l.length : Int) - 1) / 1000).toNat = i := ⟨_, rfl⟩
        obtain ⟨j, hj⟩ : ∃ j, (u * ((l.length : Int) - 1) / 1000).toNat = j := ⟨_, rfl⟩
        rw [hi, hj] at a1
        rw [hj] at a2
        obtain ⟨x, hx⟩ : ∃ x, l[i]? = some x := ⟨_, List.getElem?_eq_getElem (by omega)⟩
        obtain ⟨y, hy⟩ : ∃ y, l[j]? = some y := ⟨_, List.getElem?_eq_getElem (by omega)⟩
        obtain ⟨z0, hz0⟩ : ∃ z, l[0]? = some z := ⟨_, List.getElem?_eq_getElem (by omega)⟩
        obtain ⟨z1, hz1⟩ : ∃ z, l[l.length - 1]? = some z := ⟨_, List.getElem?_eq_getElem (by omega)⟩
        have hxy : x ≤ y := hadj.mono (j - i) i x y hx (by rw [show i + (j - i) = j by omega]; exact hy)
        have Ct := mid_at Ct i hi hx
        have Cu := mid_at Cu j hj hy
        have Cr := mid_at Cr i hi hx
        have C0 := mid_at C0 0 (by simp) hz0
        have C1 := mid_at C1 (l.length - 1) (by omega) hz1
        have HC : Hid (∀ W, Below w.heap.size w W → ∃ b o cap, v = .slice (some ⟨b, o, none⟩) l.length cap ∧ W.cell? ⟨b, o, none⟩ = some (.int .i64 z0) ∧ W.cell? ⟨b, o + (l.length - 1), none⟩ = some (.int .i64 z1)) := fun W hb => by
          obtain ⟨p, cap, hv, k1, k2, hc⟩ := hV.below hb
          obtain ⟨b, o, rfl, hq⟩ := hc hn0
          exact ⟨b, o, cap, hv, hq 0 _ hz0, hq _ _ hz1⟩
        have hb : (((l.length : Nat) : Int) == 0) = false := beq_eq_false_iff_ne.2 (by omega)
        have hb2 : (l.length == 0) = false := beq_eq_false_iff_ne.2 (by omega)
        have g1 : (1 : Int) ≤ (l.length : Int) := by omega
        have g2 : ((l.length : Int) - 1).toNat = l.length - 1 := by omega
        clear hn hadj hi hj hx hy hz0 hz1 a1 a2
        go_enter Try.func4, Try.ntmps4
        go_wp2_with fail
        refine CR.out.mono ?_
        rintro r' W' ⟨rfl, q, rfl⟩
        refine k_world (fun W => Below w.heap.size w W) (by exact below_drewN (Below.refl _ _) q) (fun W hb => ?_)
        obtain ⟨b, o, cap, hv, d0, d1⟩ := HC.out W hb
        have Ct := Ct.out W hb
        have Cu := Cu.out W hb
        have Cr := Cr.out W hb
        have C0 := C0.out W hb
        have C1 := C1.out W hb
        subst hv
        have Ct := Lib.hid Ct
        have Cu := Lib.hid Cu
        have Cr := Lib.hid Cr
        have C0 := Lib.hid C0
        have C1 := Lib.hid C1
        have HB := Lib.hid hb
        clear hb HC CR hV
        go_wp2_with fail
        refine Ct.out.mono ?_
        rintro r' W' ⟨rfl, rfl⟩
        go_wp2_with fail
        refine Cu.out.mono ?_
        rintro r' W' ⟨rfl, rfl⟩
        go_wp2_with fail
        refine Cr.out.mono ?_
        rintro r' W' ⟨rfl, rfl⟩
        go_wp2_with fail
        refine C0.out.mono ?_
        rintro r' W' ⟨rfl, rfl⟩
        go_wp2_with fail
        refine C1.out.mono ?_
        rintro r' W' ⟨rfl, rfl⟩
        go_wp2_with fail
        refine (awake_any _).mono ?_
        rintro r' W' ⟨rfl, hb⟩
        have HB2 := Lib.hid hb
        clear hb
        go_wp2
        rw [← HPP.out]
        exact ⟨rfl, HB.out.trans (HB2.out.mono HB.out.size)⟩
    all_goals
      clear hV hadj
      go_enter Try.func4, Try.ntmps4
      go_wp2_with fail
      refine CR.out.mono ?_
      rintro r' W' ⟨rfl, q, rfl⟩
      go_wp2_with fail
      refine (awake_any _).mono ?_
      rintro r' W' ⟨rfl, hb⟩
      have HB := Lib.hid hb
      clear hb
      go_wp2
      rw [← HPP.out]
      exact ⟨rfl, (below_drewN (Below.refl _ _) q).trans HB.out⟩
end Go.Proofs.Ytejehjlegfpgbaa
