/- STATS: the reference's wait, Many, Add. -/
import Derived.Test.YtejehjlegfpgbaaStatsReadB
namespace Go.Proofs.Ytejehjlegfpgbaa
open Go Go.RowKit Go.Maps

theorem ret_int {k : IntKind} {a b : Int} (h : a = b) : Ending.returned (.int k a) = Ending.returned (.int k b) := by rw [h]
theorem ret_pair {a b : Int} {c : Bool} (h : a = b) : Ending.returned (.tuple #[.int .i64 a, .bool c]) = Ending.returned (.tuple #[.int .i64 b, .bool c]) := by rw [h]
theorem many_any (n : Int) (hn : Wf n) (w : World) : Calls Try.prog 19 #[.int .i64 n] w fun r w' => r = .returned (.int .i64 (many n : Nat)) ∧ w = w' := by
  obtain ⟨N, hN⟩ : ∃ N, many n = N := ⟨_, rfl⟩
  have HN := Lib.hid (show (N : Int) = min (max n 0) 64 by unfold many at hN; omega)
  rw [hN]
  unfold Wf at hn
  clear hN
  by_cases h0 : n < 0
  · have HH := Lib.hid h0
    go_enter Try.func19, Try.ntmps19
    go_wp2
    go_ret
    exact ⟨ret_int (by have h1 := HN.out; have h2 := HH.out; omega), rfl⟩
  · have h1 : 0 ≤ n := by omega
    by_cases h2 : 64 < n
    · have HH := Lib.hid h2
      go_enter Try.func19, Try.ntmps19
      go_wp2
      go_ret
      exact ⟨ret_int (by have h1 := HN.out; have h2 := HH.out; omega), rfl⟩
    · have h3 : n ≤ 64 := by omega
      have HH := Lib.hid (show 0 ≤ n ∧ n ≤ 64 by omega)
      go_enter Try.func19, Try.ntmps19
      go_wp2
      go_ret
      exact ⟨ret_int (by have h1 := HN.out; have h2 := HH.out; omega), rfl⟩

theorem waitR_none {l : List Ev} {k : Nat} {e : Ev} (h : pubF (l.take k) e.i = none) : waitR l k e = none := by unfold waitR; rw [h]; rfl
theorem waitR_some {l : List Ev} {k : Nat} {e : Ev} {t : Int} (h : pubF (l.take k) e.i = some t) : waitR l k e = some (max (e.a - t) 0) := by unfold waitR; rw [h]; rfl
theorem draws_more {w wr : World} (h : ∃ q, wr = w.drewN q) (n : Nat) : ∃ q, wr.drewN n = w.drewN q := by
  obtain ⟨q, rfl⟩ := h
  exact ⟨q + n, by simp [World.drewN, Nat.add_assoc]⟩
theorem draws_below {w wr : World} (h : ∃ q, wr = w.drewN q) : Below w.heap.size w wr := by
  obtain ⟨q, rfl⟩ := h
  exact below_drewN (Below.refl _ _) q
def WaitPost (w : World) (o : Option Int) (r : Ending) (w' : World) : Prop := r = .returned (.tuple #[.int .i64 (o.getD 0), .bool o.isSome]) ∧ ∃ q, w' = w.drewN q
set_option maxRecDepth 100000 in
set_option maxHeartbeats 4000000 in
theorem wait_any {w : World} (l : List Ev) {v : Value} (hV : Evs w v l) (hl : l.length ≤ 1048576) (hfit : FitL l) (k : Nat) (e : Ev) (he : l[k]? = some e) :
    Calls Try.prog 23 #[v, .int .i64 (k : Nat)] w (WaitPost w (waitR l k e)) := by
  obtain ⟨hlt, _⟩ := List.getElem?_eq_some_iff.1 he
  have HFe := Lib.hid (hfit e (List.mem_of_getElem? he))
  obtain ⟨b, o, cap, rfl, hbl, hcells⟩ := hV.all15 (by omega)
  obtain ⟨-, e1, e2, -⟩ := hcells k e he
  have HC : Hid (∀ wr, Below w.heap.size w wr → ∀ j x, l[j]? = some x → wr.cell? ⟨b, o + j * 15, none⟩ = some (.int .i64 x.k) ∧ wr.cell? ⟨b, o + j * 15 + 1, none⟩ = some (.int .i64 x.a) ∧ wr.cell? ⟨b, o + j * 15 + 2, none⟩ = some (.int .i64 x.i)) := fun wr hb j x hx => by
    obtain ⟨q1, q2, q3, -⟩ := hcells j x hx
    exact ⟨(hb.cell hbl).trans q1, (hb.cell hbl).trans q2, (hb.cell hbl).trans q3⟩
  have HF := Lib.hid hfit
  have HE := Lib.hid he
  obtain ⟨PP, hPP⟩ : ∃ PP, WaitPost w (waitR l k e) = PP := ⟨_, rfl⟩
  rw [hPP]
  have HPP := Lib.hid hPP
  clear hV hcells e1 e2 hfit he hPP
  go_enter Try.func23, Try.ntmps23
  go_wp2
  go_loopw [6] (fun i wr => ∃ (j : Nat) (x : Int), i = .int .i64 x ∧ x = (j : Int) - 1 ∧ j ≤ k ∧ pubF (l.take k) e.i = pubF (l.take j) e.i ∧ ∃ q, wr = w.drewN q) (fun i _ => (intOf i + 1).toNat)
  case atStart => exact ⟨k, _, rfl, rfl, Nat.le_refl _, rfl, 0, rfl⟩
  case round =>
    obtain ⟨j, x, rfl, hx, hj, hp, hb⟩ := hrel
    have HP := Lib.hid hp
    have HD := Lib.hid hb
    have HB := Lib.hid (draws_below hb)
    cases j with
    | zero =>
      have hx' : ¬ 0 ≤ x := by omega
      have hx2 : x < 0 := by omega
      clear hp hb hx
      go_wp2
      rw [← HPP.out]
      exact ⟨by rw [waitR_none (by rw [HP.out]; rfl)]; rfl, HD.out⟩
    | succ j =>
      obtain rfl : x = (j : Int) := by omega
      obtain ⟨y, hy⟩ : ∃ y, l[j]? = some y := ⟨_, List.getElem?_eq_getElem (by omega)⟩
      obtain ⟨c1, c2, c3⟩ := HC.out wr HB.out j y hy
      obtain ⟨-, d2, d3⟩ := HC.out wr HB.out k e HE.out
      have HS := Lib.hid (pubF_snoc l j y hy e.i)
      have HFy := Lib.hid (HF.out y (List.mem_of_getElem? hy))
      have g1 : (j : Int) < (l.length : Int) := by omega
      have g2 : (k : Int) < (l.length : Int) := by omega
      have g3 : (0 : Int) ≤ (j : Int) := by omega
      clear hp hb hx hy
      by_cases h1 : y.k = 1
      · have b1 : (y.k == 1) = true := beq_iff_eq.2 h1
        by_cases h2 : y.i = e.i
        · have b2 : (y.i == e.i) = true := beq_iff_eq.2 h2
          have HH := Lib.hid h1
          have HH2 := Lib.hid h2
          have ⟨f1, f2⟩ := HFe.out
          have ⟨f3, f4⟩ := HFy.out
          clear h1 h2
          go_wp2
          go_quiet (fail)
          go_wp2
          go_quiet (fail)
          go_wp2
          all_goals
            rw [← HPP.out]
            exact ⟨by rw [waitR_some (t := y.a) (by rw [HP.out, HS.out, if_pos ⟨HH.out, HH2.out⟩])]; exact ret_pair (by simp only [Option.getD_some]; omega), draws_more HD.out _⟩
        · have b2 : (y.i == e.i) = false := beq_eq_false_iff_ne.2 h2
          have HH2 := Lib.hid h2
          clear h1 h2
          go_wp2
          go_quiet (fail)
          go_wp2
          go_roundw
          case rel => exact ⟨j, _, rfl, rfl, by omega, by rw [HP.out, HS.out, if_neg (fun h => HH2.out h.2)], draws_more HD.out _⟩
          case measure => simp [intOf]
      · have b1 : (y.k == 1) = false := beq_eq_false_iff_ne.2 h1
        have HH := Lib.hid h1
        clear h1
        go_wp2
        go_quiet (fail)
        go_wp2
        go_roundw
        case rel => exact ⟨j, _, rfl, rfl, by omega, by rw [HP.out, HS.out, if_neg (fun h => HH.out h.1)], draws_more HD.out _⟩
        case measure => simp [intOf]
end Go.Proofs.Ytejehjlegfpgbaa
