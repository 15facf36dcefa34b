/- ROUTE: conduitref02.look, Fit; conduitref21.Zero. -/
import Derived.Test.YtpgdiekpeceicaaDoorRouteRefKinds
namespace Go.Proofs.YtpgdiekpeceicaaDoor
open Go Go.RowKit

def LookPost (w : World) (F : Prop) (r : Ending) (w' : World) : Prop := ∃ v : Int, r = .returned (.int .i64 v) ∧ (v = -1 ∨ (0 ≤ v ∧ v ≤ 16384 ∧ F)) ∧ Below w.heap.size w w'
theorem takeW_snoc {l : List Wt} {j : Nat} {x : Wt} (h : l[j]? = some x) {P : Wt → Prop} (hp : ∀ t ∈ l.take j, P t) (hx : P x) : ∀ t ∈ l.take (j + 1), P t := by
  rw [List.take_add_one, h]
  intro t ht
  rcases List.mem_append.1 ht with ht | ht
  · exact hp t ht
  · obtain rfl := List.mem_singleton.1 ht
    exact hx

set_option maxRecDepth 100000 in
set_option maxHeartbeats 8000000 in
theorem look_any : ∀ (k : Nat) (t : Wt) (w : World) (op num : Int) (p : Option Addr) (n cap : Nat) (dp sn : Int), WtIs w k [.int .i64 op, .int .i64 num, .slice p n cap] t → 0 ≤ dp → dp ≤ 129 → 0 ≤ sn → sn ≤ 16385 →
    Calls Tryd.prog 42 #[.agg #[.int .i64 op, .int .i64 num, .slice p n cap], .int .i64 dp, .int .i64 sn] w (LookPost w (FitF k t)) := by
  intro k
  induction k with
  | zero => intro t w op num p n cap dp sn h; exact h.elim
  | succ k ih =>
    intro t w op num p n cap dp sn hW hd1 hd2 hs1 hs2
    obtain ⟨op', num', l⟩ := t
    have ⟨p', cap', e1, k1, k2, _⟩ := hW
    injection e1 with e2 e1
    injection e1 with e3 e1
    injection e1 with e4
    injection e2 with _ e2
    injection e3 with _ e3
    injection e4 with e4 e5 e6
    subst e2; subst e3; subst e4; subst e5; subst e6
    have IH := Lib.hid ih
    clear ih
    have HW := Lib.hid hW
    obtain ⟨PP, hPP⟩ : ∃ PP, LookPost w (FitF (k + 1) (.mk op num l)) = PP := ⟨_, rfl⟩
    rw [hPP]
    have HPP := Lib.hid hPP
    clear hPP hW
    have HB0 : Hid (Below w.heap.size w (w.alloc (.cells #[.int .i64 op, .int .i64 num, .slice p l.length cap] 40))) := (Below.refl _ _).alloc (Nat.le_refl _) _
    have HC : Hid (∀ W, Below (w.heap.size + 1) (w.alloc (.cells #[.int .i64 op, .int .i64 num, .slice p l.length cap] 40)) W → W.cell? ⟨w.heap.size, 0, none⟩ = some (.int .i64 op) ∧ W.cell? ⟨w.heap.size, 1, none⟩ = some (.int .i64 num) ∧ W.cell? ⟨w.heap.size, 2, none⟩ = some (.slice p l.length cap) ∧ w.heap.size < W.heap.size) := fun W hb =>
      ⟨by rw [hb.cell (Nat.lt_succ_self _)]; go_simp, by rw [hb.cell (Nat.lt_succ_self _)]; go_simp, by rw [hb.cell (Nat.lt_succ_self _)]; go_simp, by have := hb.size; simp at this; omega⟩
    by_cases hdd : 128 < dp
    · go_enter Tryd.func42, Tryd.ntmps42
      go_wp2_with fail
      rw [← HPP.out]
      exact ⟨-1, rfl, .inl rfl, HB0.out⟩
    by_cases hss : 16384 < sn
    · go_enter Tryd.func42, Tryd.ntmps42
      go_wp2_with fail
      rw [← HPP.out]
      exact ⟨-1, rfl, .inl rfl, HB0.out⟩
    have hlen : (0 : Int) ≤ (l.length : Int) := by omega
    by_cases ho1 : op = 1
    · subst ho1
      by_cases hn : num = 0
      · subst hn
        by_cases hl : l.length = 0
        · obtain rfl : l = [] := List.length_eq_zero_iff.1 hl
          go_enter Tryd.func42, Tryd.ntmps42
          go_wp2_with fail
          go_loopw [2, 8] (fun s i wr => i = .int .i64 0 ∧ s = .int .i64 sn ∧ wr = (w.alloc (.cells #[.int .i64 1, .int .i64 0, .slice p 0 cap] 40))) (fun _ _ _ => 0)
          case atStart => exact ⟨rfl, rfl, rfl⟩
          case round =>
            obtain ⟨rfl, rfl, rfl⟩ := hrel
            go_wp2_with fail
            rw [← HPP.out]
            exact ⟨sn, rfl, .inr ⟨by omega, by omega, .inl ⟨rfl, rfl, rfl⟩⟩, HB0.out⟩
        · have hl2 : ¬ ((l.length : Int) = 0) := by omega
          go_enter Tryd.func42, Tryd.ntmps42
          go_wp2_with fail
          rw [← HPP.out]
          exact ⟨-1, rfl, .inl rfl, HB0.out⟩
      · go_enter Tryd.func42, Tryd.ntmps42
        go_wp2_with fail
        rw [← HPP.out]
        exact ⟨-1, rfl, .inl rfl, HB0.out⟩
    by_cases ho2 : op = 2
    · subst ho2
      by_cases hn : num < 0
      · go_enter Tryd.func42, Tryd.ntmps42
        go_wp2_with fail
        rw [← HPP.out]
        exact ⟨-1, rfl, .inl rfl, HB0.out⟩
      by_cases hn2 : 14 ≤ num
      · go_enter Tryd.func42, Tryd.ntmps42
        go_wp2_with fail
        rw [← HPP.out]
        exact ⟨-1, rfl, .inl rfl, HB0.out⟩
      by_cases hl : l.length = 0
      · obtain rfl : l = [] := List.length_eq_zero_iff.1 hl
        go_enter Tryd.func42, Tryd.ntmps42
        go_wp2_with fail
        go_loopw [2, 8] (fun s i wr => i = .int .i64 0 ∧ s = .int .i64 sn ∧ wr = (w.alloc (.cells #[.int .i64 2, .int .i64 num, .slice p 0 cap] 40))) (fun _ _ _ => 0)
        case atStart => exact ⟨rfl, rfl, rfl⟩
        case round =>
          obtain ⟨rfl, rfl, rfl⟩ := hrel
          go_wp2_with fail
          rw [← HPP.out]
          exact ⟨sn, rfl, .inr ⟨by omega, by omega, .inr (.inl ⟨rfl, by omega, by omega, rfl⟩)⟩, HB0.out⟩
      · have hl2 : ¬ ((l.length : Int) = 0) := by omega
        go_enter Tryd.func42, Tryd.ntmps42
        go_wp2_with fail
        rw [← HPP.out]
        exact ⟨-1, rfl, .inl rfl, HB0.out⟩
    by_cases ho3 : op = 3
    · subst ho3
      by_cases hn : num < 0
      · go_enter Tryd.func42, Tryd.ntmps42
        go_wp2_with fail
        rw [← HPP.out]
        exact ⟨-1, rfl, .inl rfl, HB0.out⟩
      by_cases hn2 : 10 ≤ num
      · go_enter Tryd.func42, Tryd.ntmps42
        go_wp2_with fail
        rw [← HPP.out]
        exact ⟨-1, rfl, .inl rfl, HB0.out⟩
      by_cases hl : l.length = 0
      · obtain rfl : l = [] := List.length_eq_zero_iff.1 hl
        go_enter Tryd.func42, Tryd.ntmps42
        go_wp2_with fail
        go_loopw [2, 8] (fun s i wr => i = .int .i64 0 ∧ s = .int .i64 sn ∧ wr = (w.alloc (.cells #[.int .i64 3, .int .i64 num, .slice p 0 cap] 40))) (fun _ _ _ => 0)
        case atStart => exact ⟨rfl, rfl, rfl⟩
        case round =>
          obtain ⟨rfl, rfl, rfl⟩ := hrel
          go_wp2_with fail
          rw [← HPP.out]
          exact ⟨sn, rfl, .inr ⟨by omega, by omega, .inr (.inr (.inl ⟨rfl, by omega, by omega, rfl⟩))⟩, HB0.out⟩
      · have hl2 : ¬ ((l.length : Int) = 0) := by omega
        go_enter Tryd.func42, Tryd.ntmps42
        go_wp2_with fail
        rw [← HPP.out]
        exact ⟨-1, rfl, .inl rfl, HB0.out⟩
    by_cases ho4 : op = 4
    · subst ho4
      by_cases hn : num = 0
      · subst hn
        by_cases hl : l.length < 2
        · have hl2 : (l.length : Int) < 2 := by omega
          go_enter Tryd.func42, Tryd.ntmps42
          go_wp2_with fail
          rw [← HPP.out]
          exact ⟨-1, rfl, .inl rfl, HB0.out⟩
        · have hl2 : ¬ ((l.length : Int) < 2) := by omega
          go_enter Tryd.func42, Tryd.ntmps42
          go_wp2_with fail
          go_loopw [2, 8] (fun s i wr => ∃ j : Nat, ∃ sv : Int, i = .int .i64 (j : Nat) ∧ j ≤ l.length ∧ s = .int .i64 sv ∧ 0 ≤ sv ∧ sv ≤ 16384 ∧ (∀ t ∈ l.take j, FitF k t) ∧ Below (w.heap.size + 1) (w.alloc (.cells #[.int .i64 4, .int .i64 0, .slice p l.length cap] 40)) wr) (fun _ i _ => l.length - (intOf i).toNat)
          case atStart => exact ⟨0, sn, rfl, by omega, rfl, by omega, by omega, by simp, Below.refl _ _⟩
          case round =>
            obtain ⟨j, sv, rfl, hj, rfl, hv1, hv2, hf, hb⟩ := hrel
            have HB := Lib.hid hb
            have HF := Lib.hid hf
            have HBw := Lib.hid (HB0.out.trans (hb.mono (Nat.le_succ _)))
            obtain ⟨f0, f1, f2, f3⟩ := HC.out wr hb
            clear f0 f1 hf
            by_cases hlt : j < l.length
            · obtain ⟨x, hx⟩ : ∃ x, l[j]? = some x := ⟨_, List.getElem?_eq_getElem hlt⟩
              obtain ⟨b, o, op', num', q, n', c', rfl, hbl, d0, d1, d2, hP⟩ := (HW.out.below HBw.out).part hx
              have HX := Lib.hid hx
              have CX : Hid (∀ W, Below wr.heap.size wr W → Calls Tryd.prog 42 #[.agg #[.int .i64 op', .int .i64 num', .slice q n' c'], .int .i64 (dp + 1), .int .i64 (sv + 1)] W (LookPost W (FitF k x))) := fun W hb => IH.out x W op' num' q n' c' (dp + 1) (sv + 1) (hP.below hb) (by omega) (by omega) (by omega) (by omega)
              have g1 : (j : Int) < (l.length : Int) := by omega
              have w1 : wrap64 (dp + 1) = dp + 1 := by unfold wrap64; omega
              have w2 : wrap64 (sv + 1) = sv + 1 := by unfold wrap64; omega
              have hs := HB.out.size
              clear hx hP hb
              go_wp2_with fail
              refine (CX.out _ (Below.refl _ _)).mono ?_
              rintro r' W ⟨v, rfl, hv, hb2⟩
              have HB2 := Lib.hid (HB.out.trans (hb2.mono (by omega)))
              have HBw2 := Lib.hid (HB0.out.trans (HB2.out.mono (Nat.le_succ _)))
              clear hb2 d0 d1 d2 f2
              rcases hv with hv | ⟨hv3, hv4, hv5⟩
              · subst hv
                go_wp2_with fail
                rw [← HPP.out]
                exact ⟨-1, rfl, .inl rfl, HBw2.out⟩
              · have HFX := Lib.hid hv5
                have g3 : ¬ (v < 0) := by omega
                clear hv5
                go_wp2_with fail
                go_roundw
                case rel => exact ⟨j + 1, v, by go_num, by omega, rfl, hv3, hv4, takeW_snoc HX.out HF.out HFX.out, HB2.out⟩
                case measure => simp [intOf]; omega
            · obtain rfl : j = l.length := by omega
              clear hb
              go_wp2_with fail
              rw [← HPP.out]
              refine ⟨sv, rfl, .inr ⟨hv1, hv2, ?_⟩, HBw.out⟩
              have hF := HF.out
              rw [List.take_length] at hF
              exact .inr (.inr (.inr (.inl ⟨.inl rfl, rfl, by omega, hF⟩)))
      · go_enter Tryd.func42, Tryd.ntmps42
        go_wp2_with fail
        rw [← HPP.out]
        exact ⟨-1, rfl, .inl rfl, HB0.out⟩
    by_cases ho5 : op = 5
    · subst ho5
      by_cases hn : num = 0
      · subst hn
        by_cases hl : l.length < 2
        · have hl2 : (l.length : Int) < 2 := by omega
          go_enter Tryd.func42, Tryd.ntmps42
          go_wp2_with fail
          rw [← HPP.out]
          exact ⟨-1, rfl, .inl rfl, HB0.out⟩
        · have hl2 : ¬ ((l.length : Int) < 2) := by omega
          go_enter Tryd.func42, Tryd.ntmps42
          go_wp2_with fail
          go_loopw [2, 8] (fun s i wr => ∃ j : Nat, ∃ sv : Int, i = .int .i64 (j : Nat) ∧ j ≤ l.length ∧ s = .int .i64 sv ∧ 0 ≤ sv ∧ sv ≤ 16384 ∧ (∀ t ∈ l.take j, FitF k t) ∧ Below (w.heap.size + 1) (w.alloc (.cells #[.int .i64 5, .int .i64 0, .slice p l.length cap] 40)) wr) (fun _ i _ => l.length - (intOf i).toNat)
          case atStart => exact ⟨0, sn, rfl, by omega, rfl, by omega, by omega, by simp, Below.refl _ _⟩
          case round =>
            obtain ⟨j, sv, rfl, hj, rfl, hv1, hv2, hf, hb⟩ := hrel
            have HB := Lib.hid hb
            have HF := Lib.hid hf
            have HBw := Lib.hid (HB0.out.trans (hb.mono (Nat.le_succ _)))
            obtain ⟨f0, f1, f2, f3⟩ := HC.out wr hb
            clear f0 f1 hf
            by_cases hlt : j < l.length
            · obtain ⟨x, hx⟩ : ∃ x, l[j]? = some x := ⟨_, List.getElem?_eq_getElem hlt⟩
              obtain ⟨b, o, op', num', q, n', c', rfl, hbl, d0, d1, d2, hP⟩ := (HW.out.below HBw.out).part hx
              have HX := Lib.hid hx
              have CX : Hid (∀ W, Below wr.heap.size wr W → Calls Tryd.prog 42 #[.agg #[.int .i64 op', .int .i64 num', .slice q n' c'], .int .i64 (dp + 1), .int .i64 (sv + 1)] W (LookPost W (FitF k x))) := fun W hb => IH.out x W op' num' q n' c' (dp + 1) (sv + 1) (hP.below hb) (by omega) (by omega) (by omega) (by omega)
              have g1 : (j : Int) < (l.length : Int) := by omega
              have w1 : wrap64 (dp + 1) = dp + 1 := by unfold wrap64; omega
              have w2 : wrap64 (sv + 1) = sv + 1 := by unfold wrap64; omega
              have hs := HB.out.size
              clear hx hP hb
              go_wp2_with fail
              refine (CX.out _ (Below.refl _ _)).mono ?_
              rintro r' W ⟨v, rfl, hv, hb2⟩
              have HB2 := Lib.hid (HB.out.trans (hb2.mono (by omega)))
              have HBw2 := Lib.hid (HB0.out.trans (HB2.out.mono (Nat.le_succ _)))
              clear hb2 d0 d1 d2 f2
              rcases hv with hv | ⟨hv3, hv4, hv5⟩
              · subst hv
                go_wp2_with fail
                rw [← HPP.out]
                exact ⟨-1, rfl, .inl rfl, HBw2.out⟩
              · have HFX := Lib.hid hv5
                have g3 : ¬ (v < 0) := by omega
                clear hv5
                go_wp2_with fail
                go_roundw
                case rel => exact ⟨j + 1, v, by go_num, by omega, rfl, hv3, hv4, takeW_snoc HX.out HF.out HFX.out, HB2.out⟩
                case measure => simp [intOf]; omega
            · obtain rfl : j = l.length := by omega
              clear hb
              go_wp2_with fail
              rw [← HPP.out]
              refine ⟨sv, rfl, .inr ⟨hv1, hv2, ?_⟩, HBw.out⟩
              have hF := HF.out
              rw [List.take_length] at hF
              exact .inr (.inr (.inr (.inl ⟨.inr rfl, rfl, by omega, hF⟩)))
      · go_enter Tryd.func42, Tryd.ntmps42
        go_wp2_with fail
        rw [← HPP.out]
        exact ⟨-1, rfl, .inl rfl, HB0.out⟩
    by_cases ho6 : op = 6
    · subst ho6
      by_cases hn : num = 0
      · subst hn
        by_cases hl : l.length = 1
        · have HL := Lib.hid hl
          have hl2 : ((l.length : Int) != 1) = false := by simp [hl]
          clear hl
          go_enter Tryd.func42, Tryd.ntmps42
          go_wp2_with fail
          go_loopw [2, 8] (fun s i wr => ∃ j : Nat, ∃ sv : Int, i = .int .i64 (j : Nat) ∧ j ≤ l.length ∧ s = .int .i64 sv ∧ 0 ≤ sv ∧ sv ≤ 16384 ∧ (∀ t ∈ l.take j, FitF k t) ∧ Below (w.heap.size + 1) (w.alloc (.cells #[.int .i64 6, .int .i64 0, .slice p l.length cap] 40)) wr) (fun _ i _ => l.length - (intOf i).toNat)
          case atStart => exact ⟨0, sn, rfl, by omega, rfl, by omega, by omega, by simp, Below.refl _ _⟩
          case round =>
            obtain ⟨j, sv, rfl, hj, rfl, hv1, hv2, hf, hb⟩ := hrel
            have HB := Lib.hid hb
            have HF := Lib.hid hf
            have HBw := Lib.hid (HB0.out.trans (hb.mono (Nat.le_succ _)))
            obtain ⟨f0, f1, f2, f3⟩ := HC.out wr hb
            clear f0 f1 hf
            by_cases hlt : j < l.length
            · obtain ⟨x, hx⟩ : ∃ x, l[j]? = some x := ⟨_, List.getElem?_eq_getElem hlt⟩
              obtain ⟨b, o, op', num', q, n', c', rfl, hbl, d0, d1, d2, hP⟩ := (HW.out.below HBw.out).part hx
              have HX := Lib.hid hx
              have CX : Hid (∀ W, Below wr.heap.size wr W → Calls Tryd.prog 42 #[.agg #[.int .i64 op', .int .i64 num', .slice q n' c'], .int .i64 (dp + 1), .int .i64 (sv + 1)] W (LookPost W (FitF k x))) := fun W hb => IH.out x W op' num' q n' c' (dp + 1) (sv + 1) (hP.below hb) (by omega) (by omega) (by omega) (by omega)
              have g1 : (j : Int) < (l.length : Int) := by omega
              have w1 : wrap64 (dp + 1) = dp + 1 := by unfold wrap64; omega
              have w2 : wrap64 (sv + 1) = sv + 1 := by unfold wrap64; omega
              have hs := HB.out.size
              clear hx hP hb
              go_wp2_with fail
              refine (CX.out _ (Below.refl _ _)).mono ?_
              rintro r' W ⟨v, rfl, hv, hb2⟩
              have HB2 := Lib.hid (HB.out.trans (hb2.mono (by omega)))
              have HBw2 := Lib.hid (HB0.out.trans (HB2.out.mono (Nat.le_succ _)))
              clear hb2 d0 d1 d2 f2
              rcases hv with hv | ⟨hv3, hv4, hv5⟩
              · subst hv
                go_wp2_with fail
                rw [← HPP.out]
                exact ⟨-1, rfl, .inl rfl, HBw2.out⟩
              · have HFX := Lib.hid hv5
                have g3 : ¬ (v < 0) := by omega
                clear hv5
                go_wp2_with fail
                go_roundw
                case rel => exact ⟨j + 1, v, by go_num, by omega, rfl, hv3, hv4, takeW_snoc HX.out HF.out HFX.out, HB2.out⟩
                case measure => simp [intOf]; omega
            · obtain rfl : j = l.length := by omega
              clear hb
              go_wp2_with fail
              rw [← HPP.out]
              refine ⟨sv, rfl, .inr ⟨hv1, hv2, ?_⟩, HBw.out⟩
              have hF := HF.out
              rw [List.take_length] at hF
              exact .inr (.inr (.inr (.inr ⟨rfl, rfl, HL.out, hF⟩)))
        · have hl2 : ¬ ((l.length : Int) = 1) := by omega
          go_enter Tryd.func42, Tryd.ntmps42
          go_wp2_with fail
          rw [← HPP.out]
          exact ⟨-1, rfl, .inl rfl, HB0.out⟩
      · go_enter Tryd.func42, Tryd.ntmps42
        go_wp2_with fail
        rw [← HPP.out]
        exact ⟨-1, rfl, .inl rfl, HB0.out⟩
    go_enter Tryd.func42, Tryd.ntmps42
    go_wp2_with fail
    rw [← HPP.out]
    exact ⟨-1, rfl, .inl rfl, HB0.out⟩
end Go.Proofs.YtpgdiekpeceicaaDoor
