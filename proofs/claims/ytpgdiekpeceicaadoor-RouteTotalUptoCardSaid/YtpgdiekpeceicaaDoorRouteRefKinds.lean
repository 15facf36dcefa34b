/- ROUTE: conduitref02.Kinds, Match. -/
import Derived.Test.YtpgdiekpeceicaaDoorRouteLacks
import Derived.Test.YtpgdiekpeceicaaDoorRouteHolds
namespace Go.Proofs.YtpgdiekpeceicaaDoor
open Go Go.RowKit

theorem typed_any (n : Nat) (hn : n < 14) (w : World) : Calls Tryd.prog 44 #[.int .i64 (n : Nat)] w (fun r w' => r = .returned (.int .u32 (mk (isB 2 n) 14 : Nat)) ∧ w = w') := by
  have : n = 0 ∨ n = 1 ∨ n = 2 ∨ n = 3 ∨ n = 4 ∨ n = 5 ∨ n = 6 ∨ n = 7 ∨ n = 8 ∨ n = 9 ∨ n = 10 ∨ n = 11 ∨ n = 12 ∨ n = 13 := by omega
  rcases this with rfl | rfl | rfl | rfl | rfl | rfl | rfl | rfl | rfl | rfl | rfl | rfl | rfl | rfl <;>
  · go_enter Tryd.func44, Tryd.ntmps44
    go_wp2
    go_ret
    exact ⟨rfl, rfl⟩

set_option maxRecDepth 100000 in
set_option maxHeartbeats 8000000 in
theorem refKinds_any : ∀ (k : Nat) (t : Wt) (w : World) (op num : Int) (p : Option Addr) (n cap : Nat), WtIs w k [.int .i64 op, .int .i64 num, .slice p n cap] t → FitF k t →
    Calls Tryd.prog 38 #[.agg #[.int .i64 op, .int .i64 num, .slice p n cap]] w (MaskPost w (KnF k t)) := by
  intro k
  induction k with
  | zero => intro t w op num p n cap h; exact h.elim
  | succ k ih =>
    intro t w op num p n cap hW hF
    obtain ⟨op', num', l⟩ := t
    have ⟨p', cap', e1, k1, k2, _⟩ := hW
    injection e1 with e2 e1
    injection e1 with e3 e1
    injection e1 with e4
    injection e2 with _ e2
    injection e3 with _ e3
    injection e4 with e4 e5 e6
    subst e2; subst e3; subst e4; subst e5; subst e6
    have IH := Lib.hid ih
    clear ih
    have HW := Lib.hid hW
    obtain ⟨PP, hPP⟩ : ∃ PP, MaskPost w (KnF (k + 1) (.mk op num l)) = PP := ⟨_, rfl⟩
    rw [hPP]
    have HPP := Lib.hid hPP
    clear hPP hW
    have HB0 : Hid (Below w.heap.size w (w.alloc (.cells #[.int .i64 op, .int .i64 num, .slice p l.length cap] 40))) := (Below.refl _ _).alloc (Nat.le_refl _) _
    have HC : Hid (∀ W, Below (w.heap.size + 1) (w.alloc (.cells #[.int .i64 op, .int .i64 num, .slice p l.length cap] 40)) W → W.cell? ⟨w.heap.size, 0, none⟩ = some (.int .i64 op) ∧ W.cell? ⟨w.heap.size, 1, none⟩ = some (.int .i64 num) ∧ W.cell? ⟨w.heap.size, 2, none⟩ = some (.slice p l.length cap) ∧ w.heap.size < W.heap.size) := fun W hb =>
      ⟨by rw [hb.cell (Nat.lt_succ_self _)]; go_simp, by rw [hb.cell (Nat.lt_succ_self _)]; go_simp, by rw [hb.cell (Nat.lt_succ_self _)]; go_simp, by have := hb.size; simp at this; omega⟩
    have hleaf : (op = 1 ∨ op = 2 ∨ op = 3) → PP = MaskPost w (mk (isB op num) 14) := fun h => by
      rw [← HPP.out]; unfold KnF
      rw [if_neg (by omega), if_neg (by omega), if_neg (by omega)]
    have HLEAF := Lib.hid hleaf
    clear hleaf
    rcases hF with ⟨h1, h2, h3⟩ | ⟨h1, h2, h3, h4⟩ | ⟨h1, h2, h3, h4⟩ | ⟨h1, h2, h3, h4⟩ | ⟨h1, h2, h3, h4⟩
    case inr.inr.inr.inl =>
      have HFl := Lib.hid h4
      subst h2
      rcases h1 with h1 | h1
      · subst h1
        have HK : Hid (KnF (k + 1) (.mk 4 0 l) = l.foldl (fun s t => s ||| KnF k t) 0) := by show _ = _; exact if_pos rfl
        clear h4 HLEAF
        go_enter Tryd.func38, Tryd.ntmps38
        go_wp2_with fail
        go_loopw [5, 6] (fun s i wr => ∃ j : Nat, i = .int .i64 (j : Nat) ∧ j ≤ l.length ∧ s = .int .u32 ((l.take j).foldl (fun s t => s ||| KnF k t) 0 : Nat) ∧ Below (w.heap.size + 1) (w.alloc (.cells #[.int .i64 4, .int .i64 0, .slice p l.length cap] 40)) wr) (fun _ i _ => l.length - (intOf i).toNat)
        case atStart => exact ⟨0, rfl, by omega, rfl, Below.refl _ _⟩
        case round =>
          obtain ⟨j, rfl, hj, rfl, hb⟩ := hrel
          have HB := Lib.hid hb
          have HBw := Lib.hid (HB0.out.trans (hb.mono (Nat.le_succ _)))
          obtain ⟨f0, f1, f2, f3⟩ := HC.out wr hb
          clear f0 f1
          by_cases hlt : j < l.length
          · obtain ⟨x, hx⟩ : ∃ x, l[j]? = some x := ⟨_, List.getElem?_eq_getElem hlt⟩
            obtain ⟨b, o, op', num', q, n', c', rfl, hbl, d0, d1, d2, hP⟩ := (HW.out.below HBw.out).part hx
            have HS := Lib.hid (foldl_snoc (fun s t => s ||| KnF k t) 0 l j x hx)
            have hlm : (l.take j).foldl (fun s t => s ||| KnF k t) 0 < 16384 := orL_lt _ 0 (by omega) (fun t _ => KnF_lt k t)
            have CX : Hid (∀ W, Below wr.heap.size wr W → Calls Tryd.prog 38 #[.agg #[.int .i64 op', .int .i64 num', .slice q n' c']] W (MaskPost W (KnF k x))) := fun W hb => IH.out x W op' num' q n' c' (hP.below hb) (HFl.out x (List.mem_of_getElem? hx))
            have g1 : (j : Int) < (l.length : Int) := by omega
            have hkx := KnF_lt k x
            have hs := HB.out.size
            generalize (l.take j).foldl (fun s t => s ||| KnF k t) 0 = m at *
            generalize KnF k x = mx at *
            clear hx hP hb
            go_wp2_with fail
            refine (CX.out _ (Below.refl _ _)).mono ?_
            rintro r' W ⟨rfl, hb2⟩
            have HB2 := Lib.hid (HB.out.trans (hb2.mono (by omega)))
            clear hb2 d0 d1 d2 f2
            go_wp2_with fail
            go_roundw
            case rel => exact ⟨j + 1, by go_num, by omega, by rw [HS.out]; exact congrArg (Value.int .u32) (u32_or_ hlm hkx), HB2.out⟩
            case measure => simp [intOf]; omega
          · obtain rfl : j = l.length := by omega
            clear hb
            go_wp2_with fail
            rw [← HPP.out, HK.out]
            rw [List.take_length]
            exact ⟨rfl, HBw.out⟩
      · subst h1
        have HK : Hid (KnF (k + 1) (.mk 5 0 l) = l.foldl (fun s t => s &&& KnF k t) 16383) := by show _ = _; exact (if_neg (by decide)).trans (if_pos rfl)
        clear h4 HLEAF
        go_enter Tryd.func38, Tryd.ntmps38
        go_wp2_with fail
        go_loopw [7, 8] (fun s i wr => ∃ j : Nat, i = .int .i64 (j : Nat) ∧ j ≤ l.length ∧ s = .int .u32 ((l.take j).foldl (fun s t => s &&& KnF k t) 16383 : Nat) ∧ Below (w.heap.size + 1) (w.alloc (.cells #[.int .i64 5, .int .i64 0, .slice p l.length cap] 40)) wr) (fun _ i _ => l.length - (intOf i).toNat)
        case atStart => exact ⟨0, rfl, by omega, rfl, Below.refl _ _⟩
        case round =>
          obtain ⟨j, rfl, hj, rfl, hb⟩ := hrel
          have HB := Lib.hid hb
          have HBw := Lib.hid (HB0.out.trans (hb.mono (Nat.le_succ _)))
          obtain ⟨f0, f1, f2, f3⟩ := HC.out wr hb
          clear f0 f1
          by_cases hlt : j < l.length
          · obtain ⟨x, hx⟩ : ∃ x, l[j]? = some x := ⟨_, List.getElem?_eq_getElem hlt⟩
            obtain ⟨b, o, op', num', q, n', c', rfl, hbl, d0, d1, d2, hP⟩ := (HW.out.below HBw.out).part hx
            have HS := Lib.hid (foldl_snoc (fun s t => s &&& KnF k t) 16383 l j x hx)
            have hlm : (l.take j).foldl (fun s t => s &&& KnF k t) 16383 < 16384 := andL_lt _ 16383 (by omega)
            have CX : Hid (∀ W, Below wr.heap.size wr W → Calls Tryd.prog 38 #[.agg #[.int .i64 op', .int .i64 num', .slice q n' c']] W (MaskPost W (KnF k x))) := fun W hb => IH.out x W op' num' q n' c' (hP.below hb) (HFl.out x (List.mem_of_getElem? hx))
            have g1 : (j : Int) < (l.length : Int) := by omega
            have hkx := KnF_lt k x
            have hs := HB.out.size
            generalize (l.take j).foldl (fun s t => s &&& KnF k t) 16383 = m at *
            generalize KnF k x = mx at *
            clear hx hP hb
            go_wp2_with fail
            refine (CX.out _ (Below.refl _ _)).mono ?_
            rintro r' W ⟨rfl, hb2⟩
            have HB2 := Lib.hid (HB.out.trans (hb2.mono (by omega)))
            clear hb2 d0 d1 d2 f2
            go_wp2_with fail
            go_roundw
            case rel => exact ⟨j + 1, by go_num, by omega, by rw [HS.out]; exact congrArg (Value.int .u32) (u32_and_ hlm hkx), HB2.out⟩
            case measure => simp [intOf]; omega
          · obtain rfl : j = l.length := by omega
            clear hb
            go_wp2_with fail
            rw [← HPP.out, HK.out]
            rw [List.take_length]
            exact ⟨rfl, HBw.out⟩
    case inr.inr.inr.inr =>
      obtain ⟨x, rfl⟩ : ∃ x, l = [x] := by
        match l, h3 with
        | [x], _ => exact ⟨x, rfl⟩
      subst h1; subst h2
      have HK : Hid (KnF (k + 1) (.mk 6 0 [x]) = 16383 &&& (4294967295 - KnF k x)) := by show _ = _; exact ((if_neg (by decide)).trans (if_neg (by decide))).trans (if_pos rfl)
      obtain ⟨b, o, op', num', q, n', c', rfl, hbl, d0, d1, d2, hP⟩ := HW.out.part (j := 0) (t := x) rfl
      have CX : Hid (∀ W, Below w.heap.size w W → Calls Tryd.prog 38 #[.agg #[.int .i64 op', .int .i64 num', .slice q n' c']] W (MaskPost W (KnF k x))) := fun W hb => IH.out x W op' num' q n' c' (hP.below hb) (h4 x (by simp))
      have hkx := KnF_lt k x
      rw [Nat.zero_mul, Nat.add_zero] at d0 d1 d2
      generalize KnF k x = mx at *
      clear h4 h3 hP HLEAF
      go_enter Tryd.func38, Tryd.ntmps38
      go_wp2_with fail
      refine (CX.out _ HB0.out).mono ?_
      rintro r' W ⟨rfl, hb2⟩
      have HB2 := Lib.hid (HB0.out.trans (hb2.mono HB0.out.size))
      clear hb2 d0 d1 d2
      go_wp2_with fail
      rw [← HPP.out, HK.out]
      exact ⟨congrArg (fun z => Ending.returned (Value.int .u32 z)) (u32_not_ hkx), HB2.out⟩
    case inl =>
      subst h1; subst h2
      have HE := Lib.hid (HLEAF.out (.inl rfl))
      clear h3 HLEAF
      go_enter Tryd.func38, Tryd.ntmps38
      go_wp2_with fail
      rw [HE.out]
      exact ⟨rfl, HB0.out⟩
    case inr.inl =>
      subst h1
      obtain ⟨nn, rfl⟩ : ∃ nn : Nat, num = (nn : Nat) := ⟨num.toNat, by omega⟩
      have HE := Lib.hid (HLEAF.out (.inr (.inl rfl)))
      have CT := Lib.hid (typed_any nn (by omega))
      clear h2 h3 h4 HLEAF
      go_enter Tryd.func38, Tryd.ntmps38
      go_wp2_with fail
      refine (CT.out _).mono ?_
      rintro r' W ⟨rfl, rfl⟩
      go_wp2_with fail
      rw [HE.out]
      exact ⟨rfl, HB0.out⟩
    case inr.inr.inl =>
      subst h1
      obtain ⟨f, rfl⟩ : ∃ f : Nat, num = (f : Nat) := ⟨num.toNat, by omega⟩
      have HE := Lib.hid (HLEAF.out (.inr (.inr rfl)))
      have hf : f < 10 := by omega
      clear h2 h3 h4 HLEAF
      have HIS : Hid (∀ j, isB 3 (f : Int) j = faceB j f) := fun j => rfl
      go_enter Tryd.func38, Tryd.ntmps38
      go_wp2_with fail
      go_loopw [3, 4] (fun s i wr => ∃ j : Nat, i = .int .i64 (j : Nat) ∧ j ≤ 14 ∧ s = .int .u32 (mk (isB 3 f) j : Nat) ∧ Below (w.heap.size + 1) (w.alloc (.cells #[.int .i64 3, .int .i64 f, .slice p l.length cap] 40)) wr) (fun _ i _ => 14 - (intOf i).toNat)
      case atStart => exact ⟨0, rfl, by omega, rfl, Below.refl _ _⟩
      case round =>
        obtain ⟨j, rfl, hj, rfl, hb⟩ := hrel
        have HB := Lib.hid hb
        obtain ⟨f0, f1, f2, f3⟩ := HC.out wr hb
        clear f0 f2
        by_cases hlt : j < 14
        · have CI := Lib.hid (impl_any j hlt f hf)
          have g1 : (j : Int) < 14 := by omega
          have g2 : (0 : Int) ≤ (j : Int) := by omega
          have hs := HB.out.size
          have HS : Hid (mk (isB 3 f) (j + 1) = if faceB j f then mk (isB 3 f) j ||| 2 ^ j else mk (isB 3 f) j) := rfl
          have hm1 : mk (isB 3 f) j < 16384 := Nat.lt_of_lt_of_le (mk_lt _ j) (Nat.pow_le_pow_right (by omega) (by omega) : 2 ^ j ≤ 2 ^ 14)
          clear hb
          go_wp2_with fail
          refine (CI.out _).mono ?_
          rintro r' W ⟨rfl, hb2⟩
          have HB2 := Lib.hid (HB.out.trans (hb2.mono (by omega)))
          clear hb2 f1
          cases hx : faceB j f with
          | false =>
            go_wp2_with fail
            go_roundw
            case rel => exact ⟨j + 1, by go_num, by omega, by rw [HS.out, hx]; rfl, HB2.out⟩
            case measure => simp [intOf]; omega
          | true =>
            go_wp2_with fail
            go_roundw
            case rel => exact ⟨j + 1, by go_num, by omega, by rw [HS.out, hx]; exact congrArg (Value.int .u32) (or_bit hm1 hlt), HB2.out⟩
            case measure => simp [intOf]; omega
        · obtain rfl : j = 14 := by omega
          have HBw := Lib.hid (HB0.out.trans (hb.mono (Nat.le_succ _)))
          clear hb
          go_wp2_with fail
          rw [HE.out]
          exact ⟨rfl, HBw.out⟩

set_option maxHeartbeats 4000000 in
theorem refMatch2_any (k : Nat) (t : Wt) (w : World) (op num : Int) (p : Option Addr) (n cap : Nat) (hW : WtIs w k [.int .i64 op, .int .i64 num, .slice p n cap] t) (hF : FitF k t)
    (dk : Nat) (hdk : dk < 14) (di : Int) (db : Int) (ds : ByteArray) (q : Option Addr) (m c : Nat) :
    Calls Tryd.prog 28 #[.agg #[.int .i64 op, .int .i64 num, .slice p n cap], .agg #[.int .i64 (dk : Nat), .int .i64 di, .int .u64 db, .string ds, .slice q m c]] w (HoldPost w (bit (KnF k t) dk)) := by
  have CK : Hid (∀ W, Below w.heap.size w W → Calls Tryd.prog 38 #[.agg #[.int .i64 op, .int .i64 num, .slice p n cap]] W (MaskPost W (KnF k t))) := fun W hb => refKinds_any k t W op num p n cap (hW.below hb) hF
  have hk := KnF_lt k t
  obtain ⟨PP, hPP⟩ : ∃ PP, HoldPost w (bit (KnF k t) dk) = PP := ⟨_, rfl⟩
  rw [hPP]
  have HPP := Lib.hid hPP
  clear hPP hW hF
  generalize KnF k t = M at *
  have hB : Below w.heap.size w ((w.alloc (.cells #[.int .i64 op, .int .i64 num, .slice p n cap] 40)).alloc (.cells #[.int .i64 (dk : Nat), .int .i64 di, .int .u64 db, .string ds, .slice q m c] 26)) := ((Below.refl _ _).alloc (Nat.le_refl _) _).alloc (by simp) _
  have HB := Lib.hid hB
  clear hB
  go_enter Tryd.func28, Tryd.ntmps28
  go_wp2_with fail
  have c0 : Hid (∀ W, Below (w.heap.size + 2) ((w.alloc (.cells #[.int .i64 op, .int .i64 num, .slice p n cap] 40)).alloc (.cells #[.int .i64 (dk : Nat), .int .i64 di, .int .u64 db, .string ds, .slice q m c] 26)) W → W.cell? ⟨w.heap.size + 1, 0, none⟩ = some (.int .i64 (dk : Nat))) := fun W hb => by
    rw [hb.cell (by simp)]
    go_simp
  go_region_with (first | (go_at_call 38; refine (CK.out _ (by exact HB.out.drew)).mono ?_; rintro e1 W1 ⟨rfl, hb1⟩; have HB1 := Lib.hid (HB.out.drew.trans (hb1.mono HB.out.size)); have q0 := c0.out W1 ((Below.refl _ _).drew.trans (by have h2 := hb1; simpa using h2)); clear hb1))
  all_goals
    go_simp
    go_wp2_with fail
    rw [← HPP.out]
    refine ⟨?_, HB1.out⟩
    refine congrArg (fun z => Ending.returned (.bool z)) ?_
    have e1 : ((M : Int) / 2 ^ dk) = ((M / 2 ^ dk : Nat) : Int) := by simp
    rw [e1, show (1 : Int) = ((1 : Nat) : Int) from rfl, u32_and_nat _ _ (Nat.lt_of_le_of_lt (Nat.div_le_self _ _) (by omega)) (by omega), Nat.and_one_is_mod]
    unfold bit
    rcases Nat.mod_two_eq_zero_or_one (M / 2 ^ dk) with e | e <;> rw [e] <;> rfl
end Go.Proofs.YtpgdiekpeceicaaDoor
