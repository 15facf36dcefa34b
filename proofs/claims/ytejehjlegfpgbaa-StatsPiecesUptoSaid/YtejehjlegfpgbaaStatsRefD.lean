/- STATS: the reference's Count. -/
import Derived.Test.YtejehjlegfpgbaaStatsRefC
import Derived.Test.YtejehjlegfpgbaaStatsCount
namespace Go.Proofs.Ytejehjlegfpgbaa
open Go Go.RowKit Go.Maps

/-- block g holds the counts -/
structure OutIs (W : World) (g N : Nat) (c : Nat → Int) : Prop where
  lt : g < W.heap.size
  ex : ∃ cur : Array Value, W.heap[g]? = some (.cells cur 30 (0, 0)) ∧ cur.size = 9 * N ∧ ∀ j, j < 9 * N → cur[j]? = some (.int .i64 (c j))
theorem OutIs.below {W W' : World} {g N : Nat} {c : Nat → Int} (h : OutIs W g N c) (hb : Below W.heap.size W W') : OutIs W' g N c := by
  obtain ⟨hl, cur, h1, h2, h3⟩ := h
  exact ⟨Nat.lt_of_lt_of_le hl hb.size, cur, (hb.block _ hl).trans h1, h2, h3⟩
theorem OutIs.cell {W : World} {g N : Nat} {c : Nat → Int} (h : OutIs W g N c) {j : Nat} (hj : j < 9 * N) : W.cell? ⟨g, j, none⟩ = some (.int .i64 (c j)) := by
  obtain ⟨hl, cur, h1, h2, h3⟩ := h
  rw [cell_of_row W g j _ _ _ h1]; exact h3 j hj
theorem OutIs.frozen {W : World} {g N : Nat} {c : Nat → Int} (h : OutIs W g N c) (j : Nat) : W.frozen? ⟨g, j, none⟩ = false := by
  obtain ⟨hl, cur, h1, h2, h3⟩ := h
  simp [World.frozen?, h1]
theorem OutIs.set {W : World} {g N : Nat} {c : Nat → Int} (h : OutIs W g N c) (j : Nat) (v : Int) : OutIs (W.setCell ⟨g, j, none⟩ (.int .i64 v)) g N (upd c j v) := by
  obtain ⟨hl, cur, h1, h2, h3⟩ := h
  refine ⟨by simpa [World.setCell] using hl, cur.setIfInBounds j (.int .i64 v), heap_setCell_same W g j _ _ _ h1, by simpa using h2, fun i hi => ?_⟩
  by_cases e : i = j
  · subst e; rw [upd_same, Array.getElem?_setIfInBounds_self_of_lt (by omega)]
  · rw [upd_other _ _ e, Array.getElem?_setIfInBounds_ne (fun h => e h.symm)]; exact h3 i hi
/-- the nine numbers of a handler -/
theorem OutIs.nine {W : World} {g N : Nat} {c x : Nat → Int} (h : OutIs W g N c) {r : Nat} (hr : r < N) (hx : ∀ j, c (r * 9 + j) = x j) :
    W.cell? ⟨g, r * 9, none⟩ = some (.int .i64 (x 0)) ∧ W.cell? ⟨g, r * 9 + 1, none⟩ = some (.int .i64 (x 1)) ∧ W.cell? ⟨g, r * 9 + 2, none⟩ = some (.int .i64 (x 2)) ∧ W.cell? ⟨g, r * 9 + 3, none⟩ = some (.int .i64 (x 3)) ∧ W.cell? ⟨g, r * 9 + 4, none⟩ = some (.int .i64 (x 4)) ∧
    W.cell? ⟨g, r * 9 + 5, none⟩ = some (.int .i64 (x 5)) ∧ W.cell? ⟨g, r * 9 + 6, none⟩ = some (.int .i64 (x 6)) ∧ W.cell? ⟨g, r * 9 + 7, none⟩ = some (.int .i64 (x 7)) ∧ W.cell? ⟨g, r * 9 + 8, none⟩ = some (.int .i64 (x 8)) := by
  refine ⟨?_, ?_, ?_, ?_, ?_, ?_, ?_, ?_, ?_⟩ <;> (rw [h.cell (by omega), ← hx])
  rfl
theorem OutIs.set9 {W : World} {g N : Nat} {c : Nat → Int} (h : OutIs W g N c) (r : Nat) (y : Nat → Int) :
    OutIs (((((((((W.setCell ⟨g, r * 9, none⟩ (.int .i64 (y 0))).setCell ⟨g, r * 9 + 1, none⟩ (.int .i64 (y 1))).setCell ⟨g, r * 9 + 2, none⟩ (.int .i64 (y 2))).setCell ⟨g, r * 9 + 3, none⟩ (.int .i64 (y 3))).setCell ⟨g, r * 9 + 4, none⟩ (.int .i64 (y 4))).setCell ⟨g, r * 9 + 5, none⟩ (.int .i64 (y 5))).setCell ⟨g, r * 9 + 6, none⟩ (.int .i64 (y 6))).setCell ⟨g, r * 9 + 7, none⟩ (.int .i64 (y 7))).setCell ⟨g, r * 9 + 8, none⟩ (.int .i64 (y 8))) g N
      (fun i => if r * 9 ≤ i ∧ i < r * 9 + 9 then y (i - r * 9) else c i) := by
  have h9 := ((((((((h.set (r * 9) (y 0)).set (r * 9 + 1) (y 1)).set (r * 9 + 2) (y 2)).set (r * 9 + 3) (y 3)).set (r * 9 + 4) (y 4)).set (r * 9 + 5) (y 5)).set (r * 9 + 6) (y 6)).set (r * 9 + 7) (y 7)).set (r * 9 + 8) (y 8)
  have e : upd (upd (upd (upd (upd (upd (upd (upd (upd c (r * 9) (y 0)) (r * 9 + 1) (y 1)) (r * 9 + 2) (y 2)) (r * 9 + 3) (y 3)) (r * 9 + 4) (y 4)) (r * 9 + 5) (y 5)) (r * 9 + 6) (y 6)) (r * 9 + 7) (y 7)) (r * 9 + 8) (y 8) = fun i => if r * 9 ≤ i ∧ i < r * 9 + 9 then y (i - r * 9) else c i := by
    funext i
    by_cases hi : r * 9 ≤ i ∧ i < r * 9 + 9
    · rw [if_pos hi]
      obtain ⟨j, hj, rfl⟩ : ∃ j, j < 9 ∧ i = r * 9 + j := ⟨i - r * 9, by omega, by omega⟩
      rw [show r * 9 + j - r * 9 = j by omega]
      have : j = 0 ∨ j = 1 ∨ j = 2 ∨ j = 3 ∨ j = 4 ∨ j = 5 ∨ j = 6 ∨ j = 7 ∨ j = 8 := by omega
      rcases this with rfl | rfl | rfl | rfl | rfl | rfl | rfl | rfl | rfl <;> simp [upd]
    · rw [if_neg hi]
      unfold upd
      rw [if_neg (by omega), if_neg (by omega), if_neg (by omega), if_neg (by omega), if_neg (by omega), if_neg (by omega), if_neg (by omega), if_neg (by omega), if_neg (by omega)]
  rw [e] at h9
  exact h9
theorem below9 {w W : World} {n : Nat} (hb : Below n w W) {g : Nat} (hg : n ≤ g) (r : Nat) (a0 a1 a2 a3 a4 a5 a6 a7 a8 : Value) :
    Below n w (((((((((W.setCell ⟨g, r * 9, none⟩ a0).setCell ⟨g, r * 9 + 1, none⟩ a1).setCell ⟨g, r * 9 + 2, none⟩ a2).setCell ⟨g, r * 9 + 3, none⟩ a3).setCell ⟨g, r * 9 + 4, none⟩ a4).setCell ⟨g, r * 9 + 5, none⟩ a5).setCell ⟨g, r * 9 + 6, none⟩ a6).setCell ⟨g, r * 9 + 7, none⟩ a7).setCell ⟨g, r * 9 + 8, none⟩ a8) := by
  have b := fun {W1 : World} (hb : Below n w W1) (i : Nat) (u : Value) => hb.setCell (p := ⟨g, i, none⟩) hg u
  exact b (b (b (b (b (b (b (b (b hb _ a0) _ a1) _ a2) _ a3) _ a4) _ a5) _ a6) _ a7) _ a8
theorem refC_in {N : Nat} {c x : Nat → Int} {e : Ev} {wt : Option Int} {r : Nat} (hr : InR N e.h) (hre : e.h.toNat = r) (hx : ∀ j, c (r * 9 + j) = x j) :
    refC N c e wt = fun i => if r * 9 ≤ i ∧ i < r * 9 + 9 then addC x (oneC e wt) (i - r * 9) else c i := by
  unfold refC
  rw [if_pos hr, hre]
  funext i
  by_cases hi : r * 9 ≤ i ∧ i < r * 9 + 9
  · rw [if_pos hi, if_pos hi]
    unfold addC
    rw [← hx, show r * 9 + (i - r * 9) = i by omega]
  · rw [if_neg hi, if_neg hi]
theorem refCs_snoc (N : Nat) (l : List Ev) (k : Nat) (e : Ev) (h : l[k]? = some e) : refCs N l (k + 1) = refC N (refCs N l k) e (waitR l k e) := by
  show (match l[k]? with | none => _ | some e => _) = _
  rw [h]
theorem OutIs.cts {W : World} {g N : Nat} {c : Nat → Int} (h : OutIs W g N c) : Cts W (.slice (some ⟨g, 0, none⟩) N N) N c := ⟨g, rfl, h.lt, fun _ hj => h.cell hj⟩
theorem out_made (w : World) (N : Nat) : OutIs (w.alloc (.cells (madeCells zero9 (N * 9)) 30)) w.heap.size N (fun _ => 0) :=
  ⟨by simp, _, heap_alloc_new w _, by rw [size_madeCells]; omega, fun j hj => made9 _ _ (by omega)⟩

set_option maxRecDepth 100000 in
set_option maxHeartbeats 8000000 in
theorem refCount_any {w : World} (n : Int) (hn : Wf n) (l : List Ev) {v : Value} (hV : Evs w v l) (hl : l.length ≤ 1048576) (hfit : FitL l) :
    Calls Try.prog 9 #[.int .i64 n, v] w (CountPost w (many n) (refCs (many n) l l.length)) := by
  have CM := many_any n hn
  have hN64 : many n ≤ 64 := by unfold many; omega
  generalize many n = N at *
  have CM := Lib.hid CM
  have hmk := mk_counts N hN64
  have HV := Lib.hid hV
  have HF := Lib.hid hfit
  obtain ⟨p, cap, rfl, hc1, hc2, -⟩ := hV
  obtain ⟨PP, hPP⟩ : ∃ PP, CountPost w N (refCs N l l.length) = PP := ⟨_, rfl⟩
  rw [hPP]
  have HPP := Lib.hid hPP
  clear hfit hPP
  go_enter Try.func9, Try.ntmps9
  go_wp2_with fail
  refine (CM.out _).mono ?_
  rintro r' W' ⟨rfl, rfl⟩
  go_wp2
  have HO := Lib.hid (out_made w N)
  go_loopw [6, 7] (fun i _ wr => ∃ k : Nat, i = .int .i64 (k : Nat) ∧ k ≤ l.length ∧ Below w.heap.size w wr ∧ OutIs wr w.heap.size N (refCs N l k)) (fun i _ _ => l.length - (intOf i).toNat)
  case atStart => exact ⟨0, rfl, by omega, (Below.refl _ _).alloc (Nat.le_refl _) _, HO.out⟩
  case round =>
    obtain ⟨k, rfl, hk, hb, hO⟩ := hrel
    clear HO hmk
    have HB := Lib.hid hb
    have HO := Lib.hid hO
    by_cases hlt : k < l.length
    · obtain ⟨b, o, cap', e1, hbl, hcells⟩ := (HV.out.below HB.out).all15 (by omega)
      obtain ⟨e, he⟩ : ∃ e, l[k]? = some e := ⟨_, List.getElem?_eq_getElem hlt⟩
      have HE := Lib.hid he
      have HS := Lib.hid (refCs_snoc N l k e he)
      injection e1 with e1 e2 e3
      subst e1; subst e3
      obtain ⟨-, -, -, d3, -⟩ := hcells k e he
      have g4 : (k : Int) < (l.length : Int) := by omega
      have hsz := hb.size
      clear hcells he hb
      by_cases hr : InR N e.h
      · have HR := Lib.hid hr
        have hr1 := hr.1
        have hr2 := hr.2
        obtain ⟨r, hre⟩ : ∃ r, e.h.toNat = r := ⟨_, rfl⟩
        have HRE := Lib.hid hre
        obtain ⟨hh, hhe⟩ : ∃ hh, e.h = hh := ⟨_, rfl⟩
        have hhr : hh = (r : Int) := by omega
        rw [hhe, hhr] at d3
        have hrn : r < N := by omega
        obtain ⟨x, hx⟩ : ∃ x : Nat → Int, ∀ j, refCs N l k (r * 9 + j) = x j := ⟨_, fun _ => rfl⟩
        have HX := Lib.hid hx
        have HOB : Hid (∀ W', Below wr.heap.size wr W' → OutIs W' w.heap.size N (refCs N l k)) := fun W' h => HO.out.below h
        have h1 : (0 : Int) ≤ (r : Int) := by omega
        have h2 : (r : Int) < (N : Int) := by omega
        obtain ⟨q0, q1, q2, q3, q4, q5, q6, q7, q8⟩ := hO.nine hrn hx
        have CO : Hid (∀ W', Below wr.heap.size wr W' → Calls Try.prog 21 #[.slice (some ⟨b, o, none⟩) l.length cap, .int .i64 (k : Nat)] W' (AggPost W' (oneC e (waitR l k e)))) := fun W' h => one_any l ((HV.out.below HB.out).below (h.mono (Nat.le_refl _))) hl HF.out k e HE.out
        have CA := refAdd_any x (oneC e (waitR l k e))
        obtain ⟨z, hz⟩ : ∃ z, oneC e (waitR l k e) = z := ⟨_, rfl⟩
        have HZ := Lib.hid hz
        rw [hz] at CO CA
        unfold AggPost c9 at CO CA
        have CA := Lib.hid CA
        have CO := Lib.hid CO
        clear hx hr hre hhe hhr hr1 hr2 hz hO
        go_wp2
        go_region_with (first
          | (go_at_call 21; refine (CO.out _ (by exact (Below.refl _ _).drew)).mono ?_; rintro e1 W1 ⟨rfl, hb1⟩; have HB1 := Lib.hid ((Below.refl wr.heap.size wr).drew.trans (by exact hb1)); have ⟨p0, p1, p2, p3, p4, p5, p6, p7, p8⟩ := (HOB.out W1 HB1.out).nine hrn HX.out; clear hb1)
          | (go_at_call 20; refine (CA.out _).mono ?_; rintro e2 W2 ⟨rfl, hb2⟩; have HB2 := Lib.hid (HB1.out.trans (hb2.mono HB1.out.size)); have ⟨s0, s1, s2, s3, s4, s5, s6, s7, s8⟩ := (HOB.out W2 HB2.out).nine hrn HX.out; have sf := (HOB.out W2 HB2.out).frozen; clear hb2))
        all_goals
          go_wp2
          go_roundw
          case rel =>
            refine ⟨k + 1, by go_num, by omega, below9 (HB.out.trans (HB2.out.mono hsz)) (Nat.le_refl _) _ _ _ _ _ _ _ _ _ _, ?_⟩
            rw [HS.out, refC_in HR.out HRE.out HX.out, HZ.out]
            exact (HOB.out W2 HB2.out).set9 r (addC x z)
          case measure => simp [intOf]; omega
      · have HR := Lib.hid hr
        have hr' : e.h < 0 ∨ (0 ≤ e.h ∧ (N : Int) ≤ e.h) := by unfold InR at hr; omega
        clear hr hO
        rcases hr' with h1 | ⟨h1, h2⟩
        all_goals
          go_wp2
          go_roundw
          case rel => exact ⟨k + 1, by go_num, by omega, HB.out, by rw [HS.out]; unfold refC; rw [if_neg HR.out]; exact HO.out⟩
          case measure => simp [intOf]; omega
    · obtain rfl : k = l.length := by omega
      clear hO hb
      go_wp2
      rw [← HPP.out]
      exact ⟨HB.out, _, rfl, HO.out.cts⟩
end Go.Proofs.Ytejehjlegfpgbaa
