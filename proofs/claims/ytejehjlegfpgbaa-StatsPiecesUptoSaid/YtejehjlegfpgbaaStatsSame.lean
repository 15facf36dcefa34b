/- STATS: the law's small functions. -/
import Derived.Test.YtejehjlegfpgbaaStatsRefF
import Derived.Laws.StructEq
namespace Go.Proofs.Ytejehjlegfpgbaa
open Go Go.RowKit Go.Maps

theorem neq_counts (x : Nat → Int) (w : World) : (binOp .neq 30 (.agg (c9 x)) (.agg (c9 x))).run Try.prog w = .ok (.bool false) w := by
  have u3 := Try.underlying2
  have a3 := Try.isAgg2
  have z3 := Try.sizeOf2
  have hS : Try.prog.underlying 30 = some (.struct (Try.prog.fieldsOf 30)) := by kernel_rfl
  have hp : Try.prog.stoodInHeld 30 = false := by kernel_rfl
  unfold c9
  rw [run_neq_struct, show (10000 : Nat) = 9999 + 1 from rfl, run_equalIn_agg w 9999 30 _ _ hS hp]
  simp only [Program.fieldsOf, Try.underlying30]
  go_simp

def QuietTo (w : World) (v : Value) (r : Ending) (w' : World) : Prop := r = .returned v ∧ ∃ q, w' = w.drewN q
set_option maxHeartbeats 2000000 in
theorem same_true {w : World} {a b : Value} {l : List Int} (hA : Il w a l) (hB : Il w b l) : Calls Try.prog 12 #[a, b] w (QuietTo w (.bool true)) := by
  obtain ⟨p1, c1, rfl, k1, m1, h1⟩ := hA
  obtain ⟨p2, c2, rfl, k2, m2, h2⟩ := hB
  have H1 : Hid (∀ wr, (∃ q, wr = w.drewN q) → ∀ j x, l[j]? = some x → ∃ b o b' o', p1 = some ⟨b, o, none⟩ ∧ p2 = some ⟨b', o', none⟩ ∧ wr.cell? ⟨b, o + j, none⟩ = some (.int .i64 x) ∧ wr.cell? ⟨b', o' + j, none⟩ = some (.int .i64 x)) := fun wr hw j x hj => by
    have hl : 0 < l.length := by have := (List.getElem?_eq_some_iff.1 hj).1; omega
    obtain ⟨b, o, e1, q1⟩ := h1 hl
    obtain ⟨b', o', e2, q2⟩ := h2 hl
    obtain ⟨q, rfl⟩ := hw
    exact ⟨b, o, b', o', e1, e2, q1 j x hj, q2 j x hj⟩
  obtain ⟨PP, hPP⟩ : ∃ PP, QuietTo w (.bool true) = PP := ⟨_, rfl⟩
  rw [hPP]
  have HPP := Lib.hid hPP
  clear h1 h2 hPP
  go_enter Try.func12, Try.ntmps12
  go_wp2
  go_loopw [5] (fun i wr => ∃ k : Nat, i = .int .i64 (k : Nat) ∧ k ≤ l.length ∧ ∃ q, wr = w.drewN q) (fun i _ => l.length - (intOf i).toNat)
  case atStart => exact ⟨0, rfl, by omega, 0, rfl⟩
  case round =>
    obtain ⟨k, rfl, hk, hw⟩ := hrel
    have HW := Lib.hid hw
    by_cases hlt : k < l.length
    · obtain ⟨x, hx⟩ : ∃ x, l[k]? = some x := ⟨_, List.getElem?_eq_getElem hlt⟩
      obtain ⟨b, o, b', o', rfl, rfl, d1, d2⟩ := H1.out wr hw k x hx
      have g4 : (k : Int) < (l.length : Int) := by omega
      clear hx hw
      go_wp2
      go_quiet (fail)
      go_wp2
      go_roundw
      case rel => exact ⟨k + 1, by go_num, by omega, draws_more HW.out _⟩
      case measure => simp [intOf]; omega
    · obtain rfl : k = l.length := by omega
      clear hw
      go_wp2
      rw [← HPP.out]
      exact ⟨rfl, HW.out⟩

theorem fit_true {w : World} (l : List Ev) {v : Value} (hV : Evs w v l) (hl : l.length ≤ 1048576) (hfit : FitL l) : Calls Try.prog 6 #[v] w fun r w' => r = .returned (.bool true) ∧ w = w' := by
  have HV := Lib.hid hV
  have HF := Lib.hid hfit
  obtain ⟨p, cap, rfl, hc1, hc2, -⟩ := hV
  clear hfit
  go_enter Try.func6, Try.ntmps6
  go_wp2
  go_loop [3] (fun i => ∃ k : Nat, i = .int .i64 (k : Nat) ∧ k ≤ l.length) (fun i => l.length - (intOf i).toNat)
  case atStart => exact ⟨0, rfl, by omega⟩
  case round =>
    obtain ⟨k, rfl, hk⟩ := hrel
    by_cases hlt : k < l.length
    · obtain ⟨b, o, cap', e1, hbl, hcells⟩ := HV.out.all15 (by omega)
      obtain ⟨e, he⟩ : ∃ e, l[k]? = some e := ⟨_, List.getElem?_eq_getElem hlt⟩
      injection e1 with e1 e2 e3
      subst e1; subst e3
      obtain ⟨-, d1, -⟩ := hcells k e he
      have ⟨f1, f2⟩ := HF.out e (List.mem_of_getElem? he)
      have g4 : (k : Int) < (l.length : Int) := by omega
      clear hcells he
      go_wp2
      go_round
      case rel => exact ⟨k + 1, by go_num, by omega⟩
      case measure => simp [intOf]; omega
    · obtain rfl : k = l.length := by omega
      go_wp2
      go_ret
      exact ⟨rfl, rfl⟩
theorem fit_bad {l : List Ev} (h : ¬ FitL l) : ∃ (k : Nat) (e : Ev), l[k]? = some e ∧ ¬ FitE e ∧ ∀ (j : Nat) (x : Ev), j < k → l[j]? = some x → FitE x := by
  induction l with
  | nil => exact absurd (fun e he => by cases he) h
  | cons a l ih =>
    by_cases ha : FitE a
    · have : ¬ FitL l := fun hl => h (fun e he => by rcases List.mem_cons.1 he with rfl | he; exact ha; exact hl e he)
      obtain ⟨k, e, h1, h2, h3⟩ := ih this
      refine ⟨k + 1, e, by simpa using h1, h2, fun j x hj hx => ?_⟩
      cases j with
      | zero => simp at hx; subst hx; exact ha
      | succ j => exact h3 j x (by omega) (by simpa using hx)
    · exact ⟨0, a, rfl, ha, fun j x hj => by omega⟩
theorem fit_false {w : World} (l : List Ev) {v : Value} (hV : Evs w v l) (hl : l.length ≤ 1048576) (hfit : ¬ FitL l) : Calls Try.prog 6 #[v] w fun r w' => r = .returned (.bool false) ∧ w = w' := by
  obtain ⟨n, e0, hn, hbad, hok⟩ := fit_bad hfit
  have HV := Lib.hid hV
  have HF := Lib.hid hok
  have HN := Lib.hid hn
  have HBAD := Lib.hid hbad
  have hnl := (List.getElem?_eq_some_iff.1 hn).1
  obtain ⟨p, cap, rfl, hc1, hc2, -⟩ := hV
  clear hfit hn hbad hok
  go_enter Try.func6, Try.ntmps6
  go_wp2
  go_loop [3] (fun i => ∃ k : Nat, i = .int .i64 (k : Nat) ∧ k ≤ n) (fun i => n - (intOf i).toNat)
  case atStart => exact ⟨0, rfl, by omega⟩
  case round =>
    obtain ⟨k, rfl, hk⟩ := hrel
    obtain ⟨b, o, cap', e1, hbl, hcells⟩ := HV.out.all15 (by omega)
    obtain ⟨e, he⟩ : ∃ e, l[k]? = some e := ⟨_, List.getElem?_eq_getElem (by omega)⟩
    injection e1 with e1 e2 e3
    subst e1; subst e3
    obtain ⟨-, d1, -⟩ := hcells k e he
    have g4 : (k : Int) < (l.length : Int) := by omega
    by_cases hlt : k < n
    · have ⟨f1, f2⟩ := HF.out k e hlt he
      clear hcells he
      go_wp2
      go_round
      case rel => exact ⟨k + 1, by go_num, by omega⟩
      case measure => simp [intOf]; omega
    · obtain rfl : k = n := by omega
      have hee : e = e0 := by have := he.symm.trans HN.out; injection this
      subst hee
      have hb := HBAD.out
      unfold FitE at hb
      have hb' : e.a < 0 ∨ (0 ≤ e.a ∧ 1099511627776 < e.a) := by omega
      clear hcells he hb
      rcases hb' with h1 | ⟨h1, h2⟩
      all_goals
        go_wp2
        go_ret
        exact ⟨rfl, rfl⟩

def MidPost (w : World) (l : List Int) (t : Int) (r : Ending) (w' : World) : Prop := (l = [] ∧ r = .returned (.tuple #[.int .i64 0, .bool false]) ∨ ∃ x, l[(t * (l.length - 1) / 1000).toNat]? = some x ∧ r = .returned (.tuple #[.int .i64 x, .bool true])) ∧ w = w'
theorem mid_any {w : World} {v : Value} {l : List Int} (hV : Il w v l) (hl : l.length ≤ 1048576) (t : Int) (h0 : 0 ≤ t) (h1 : t ≤ 1000) : Calls Try.prog 14 #[v, .int .i64 t] w (MidPost w l t) := by
  obtain ⟨PP, hPP⟩ : ∃ PP, MidPost w l t = PP := ⟨_, rfl⟩
  rw [hPP]
  have HPP := Lib.hid hPP
  clear hPP
  obtain ⟨p, cap, rfl, k1, k2, hc⟩ := hV
  by_cases hn : l.length = 0
  · have hb : (((l.length : Nat) : Int) == 0) = true := by simp [hn]
    have hb2 : (l.length == 0) = true := by simp [hn]
    have HE := Lib.hid (List.eq_nil_of_length_eq_zero hn)
    clear hn hc
    go_enter Try.func14, Try.ntmps14
    go_wp2
    rw [← HPP.out]
    exact ⟨.inl ⟨HE.out, rfl⟩, rfl⟩
  · obtain ⟨b, o, rfl, hc'⟩ := hc (by omega)
    obtain ⟨N, hN⟩ : ∃ N : Int, t * ((l.length : Int) - 1) = N := ⟨_, rfl⟩
    have hN0 : 0 ≤ N := by rw [← hN]; exact Int.mul_nonneg h0 (by omega)
    have hN1 : N ≤ 1000 * ((l.length : Int) - 1) := by rw [← hN]; exact Int.mul_le_mul_of_nonneg_right h1 (by omega)
    obtain ⟨k, hk⟩ : ∃ k : Nat, N / 1000 = (k : Int) := ⟨(N / 1000).toNat, by omega⟩
    have hkl : k < l.length := by omega
    obtain ⟨x, hx⟩ : ∃ x, l[k]? = some x := ⟨_, List.getElem?_eq_getElem hkl⟩
    have hcx := hc' k x hx
    have HX : Hid (l[(t * ((l.length : Int) - 1) / 1000).toNat]? = some x) := by show _ = _; rw [hN, hk]; exact hx
    have hb : (((l.length : Nat) : Int) == 0) = false := beq_eq_false_iff_ne.2 (by omega)
    have hb2 : (l.length == 0) = false := beq_eq_false_iff_ne.2 (by omega)
    have g1 : (0 : Int) ≤ (k : Int) := by omega
    have g2 : (k : Int) < (l.length : Int) := by omega
    have g3 : (1 : Int) ≤ (l.length : Int) := by omega
    clear hx hc hc' hn
    go_enter Try.func14, Try.ntmps14
    go_wp2
    rw [← HPP.out]
    exact ⟨.inr ⟨x, HX.out, rfl⟩, rfl⟩
theorem refMid_any {w : World} {v : Value} {l : List Int} (hV : Il w v l) (hl : l.length ≤ 1048576) (t : Int) (h0 : 0 ≤ t) (h1 : t ≤ 1000) : Calls Try.prog 15 #[v, .int .i64 t] w (MidPost w l t) := by
  obtain ⟨PP, hPP⟩ : ∃ PP, MidPost w l t = PP := ⟨_, rfl⟩
  rw [hPP]
  have HPP := Lib.hid hPP
  clear hPP
  obtain ⟨p, cap, rfl, k1, k2, hc⟩ := hV
  by_cases hn : l.length = 0
  · have hb : (((l.length : Nat) : Int) == 0) = true := by simp [hn]
    have hb2 : (l.length == 0) = true := by simp [hn]
    have HE := Lib.hid (List.eq_nil_of_length_eq_zero hn)
    clear hn hc
    go_enter Try.func15, Try.ntmps15
    go_wp2
    rw [← HPP.out]
    exact ⟨.inl ⟨HE.out, rfl⟩, rfl⟩
  · obtain ⟨b, o, rfl, hc'⟩ := hc (by omega)
    obtain ⟨N, hN⟩ : ∃ N : Int, t * ((l.length : Int) - 1) = N := ⟨_, rfl⟩
    have hN0 : 0 ≤ N := by rw [← hN]; exact Int.mul_nonneg h0 (by omega)
    have hN1 : N ≤ 1000 * ((l.length : Int) - 1) := by rw [← hN]; exact Int.mul_le_mul_of_nonneg_right h1 (by omega)
    obtain ⟨k, hk⟩ : ∃ k : Nat, N / 1000 = (k : Int) := ⟨(N / 1000).toNat, by omega⟩
    have hkl : k < l.length := by omega
    obtain ⟨x, hx⟩ : ∃ x, l[k]? = some x := ⟨_, List.getElem?_eq_getElem hkl⟩
    have hcx := hc' k x hx
    have HX : Hid (l[(t * ((l.length : Int) - 1) / 1000).toNat]? = some x) := by show _ = _; rw [hN, hk]; exact hx
    have hb : (((l.length : Nat) : Int) == 0) = false := beq_eq_false_iff_ne.2 (by omega)
    have hb2 : (l.length == 0) = false := beq_eq_false_iff_ne.2 (by omega)
    have g1 : (0 : Int) ≤ (k : Int) := by omega
    have g2 : (k : Int) < (l.length : Int) := by omega
    have g3 : (1 : Int) ≤ (l.length : Int) := by omega
    clear hx hc hc' hn
    go_enter Try.func15, Try.ntmps15
    go_wp2
    rw [← HPP.out]
    exact ⟨.inr ⟨x, HX.out, rfl⟩, rfl⟩
end Go.Proofs.Ytejehjlegfpgbaa
