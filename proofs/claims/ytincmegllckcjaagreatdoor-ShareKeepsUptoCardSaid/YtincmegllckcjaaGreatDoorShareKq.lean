/- THE LAW ShareKeeps, walked. SHARE: a row of messages of the arguments is read. -/
import Derived.Deep.DeepCutAuto
import Derived.Lib.QuietBelow
import Derived.Test.YtincmegllckcjaaGreatDoorShareNb
import Derived.Test.YtincmegllckcjaaGreatDoorMTopicMatch
namespace Go.Proofs.YtincmegllckcjaaGreatDoor
section
open Go Go.RowKit
attribute [local go_sem ↓] Go.wp_at_zero Go.wp_at_succ

/-- a row of messages of the arguments -/
structure MsgsIn (w : World) (v : Value) (ms : List Mg) : Prop where
  fl : Fl w 13 v ms.length (rowM ms)
  len : ms.length ≤ 1048576
  each : ∀ m ∈ ms, MgOk w m
theorem rowM_at : ∀ {ms : List Mg} {i : Nat} {m : Mg}, ms[i]? = some m → ∀ j u, m.cells[j]? = some u → (rowM ms)[i * 13 + j]? = some u
  | [], _, _, h, _, _, _ => by cases h
  | y :: ms, 0, m, h, j, u, hj => by
    injection h with h
    subst h
    have hl := (List.getElem?_eq_some_iff.1 hj).1
    show ((y :: ms).map Mg.cells).flatten[0 * 13 + j]? = some u
    rw [List.map_cons, List.flatten_cons, Nat.zero_mul, Nat.zero_add, List.getElem?_append_left hl]
    exact hj
  | y :: ms, i + 1, m, h, j, u, hj => by
    have ih := rowM_at (ms := ms) (i := i) h j u hj
    have hl : y.cells.length = 13 := rfl
    show ((y :: ms).map Mg.cells).flatten[(i + 1) * 13 + j]? = some u
    rw [List.map_cons, List.flatten_cons, List.getElem?_append_right (by omega), hl, show (i + 1) * 13 + j - 13 = i * 13 + j by omega]
    exact ih
theorem MsgsIn.ptr {w : World} {q : Option Addr} {n c : Nat} {ms : List Mg} (h : MsgsIn w (.slice q n c) ms) (h0 : 0 < ms.length) : ∃ b o, q = some ⟨b, o, none⟩ := by
  obtain ⟨-, p, cap, hv, -, -, h3⟩ := h.fl
  injection hv with hv
  rcases h3 with h3 | ⟨b, o, rfl, -⟩
  · omega
  · exact ⟨b, o, hv⟩
theorem fl_at {w : World} {b o n c : Nat} {ms : List Mg} (h : Fl w 13 (.slice (some ⟨b, o, none⟩) n c) ms.length (rowM ms)) {i : Nat} {m : Mg} (hm : ms[i]? = some m) {W : World} (hb : Below w.heap.size w W) : W.cell? ⟨b, o + i * 13, none⟩ = some (.int .i64 m.id) ∧ W.cell? ⟨b, o + i * 13 + 1, none⟩ = some (.string m.tp) ∧ W.cell? ⟨b, o + i * 13 + 2, none⟩ = some (.int .i64 m.kd) ∧ W.cell? ⟨b, o + i * 13 + 3, none⟩ = some (.int .i64 m.di) ∧ W.cell? ⟨b, o + i * 13 + 4, none⟩ = some (.int .u64 m.db) ∧ W.cell? ⟨b, o + i * 13 + 5, none⟩ = some (.string m.ds) ∧ W.cell? ⟨b, o + i * 13 + 6, none⟩ = some (.slice m.q m.n m.c) ∧ W.cell? ⟨b, o + i * 13 + 7, none⟩ = some (.int .i64 m.at_) ∧ W.cell? ⟨b, o + i * 13 + 8, none⟩ = some (.int .i64 m.un) ∧ W.cell? ⟨b, o + i * 13 + 9, none⟩ = some (.string m.rp) ∧ W.cell? ⟨b, o + i * 13 + 10, none⟩ = some (.int .i64 m.co) ∧ W.cell? ⟨b, o + i * 13 + 11, none⟩ = some (.int .i64 m.pr) ∧ W.cell? ⟨b, o + i * 13 + 12, none⟩ = some (.int .i64 m.ho) ∧ b < W.heap.size := by
  obtain ⟨-, p, cap, hv, -, -, h3⟩ := h
  injection hv with hv
  subst hv
  have hil := (List.getElem?_eq_some_iff.1 hm).1
  rcases h3 with h3 | ⟨b', o', e, h3⟩
  · omega
  · injection e with e
    injection e with e1 e2
    subst e1
    subst e2
    have g : ∀ j u, m.cells[j]? = some u → w.cell? ⟨b, o + i * 13 + j, none⟩ = some u := fun j u hj => by
      rw [show o + i * 13 + j = o + (i * 13 + j) by omega]
      exact h3 _ _ (rowM_at hm j u hj)
    have hbl : b < w.heap.size := World.block_lt_of_cell? w _ (g 0 _ rfl)
    have u : ∀ {j : Nat} {x : Value}, w.cell? ⟨b, o + i * 13 + j, none⟩ = some x → W.cell? ⟨b, o + i * 13 + j, none⟩ = some x := fun hx => (hb.cell (p := ⟨b, _, none⟩) hbl).trans hx
    exact ⟨u (g 0 _ rfl), u (g 1 _ rfl), u (g 2 _ rfl), u (g 3 _ rfl), u (g 4 _ rfl), u (g 5 _ rfl), u (g 6 _ rfl), u (g 7 _ rfl), u (g 8 _ rfl), u (g 9 _ rfl), u (g 10 _ rfl), u (g 11 _ rfl), u (g 12 _ rfl), by have := hb.size; omega⟩
theorem MsgsIn.at_ {w : World} {b o n c : Nat} {ms : List Mg} (h : MsgsIn w (.slice (some ⟨b, o, none⟩) n c) ms) {i : Nat} {m : Mg} (hm : ms[i]? = some m) {W : World} (hb : Below w.heap.size w W) : W.cell? ⟨b, o + i * 13, none⟩ = some (.int .i64 m.id) ∧ W.cell? ⟨b, o + i * 13 + 1, none⟩ = some (.string m.tp) ∧ W.cell? ⟨b, o + i * 13 + 2, none⟩ = some (.int .i64 m.kd) ∧ W.cell? ⟨b, o + i * 13 + 3, none⟩ = some (.int .i64 m.di) ∧ W.cell? ⟨b, o + i * 13 + 4, none⟩ = some (.int .u64 m.db) ∧ W.cell? ⟨b, o + i * 13 + 5, none⟩ = some (.string m.ds) ∧ W.cell? ⟨b, o + i * 13 + 6, none⟩ = some (.slice m.q m.n m.c) ∧ W.cell? ⟨b, o + i * 13 + 7, none⟩ = some (.int .i64 m.at_) ∧ W.cell? ⟨b, o + i * 13 + 8, none⟩ = some (.int .i64 m.un) ∧ W.cell? ⟨b, o + i * 13 + 9, none⟩ = some (.string m.rp) ∧ W.cell? ⟨b, o + i * 13 + 10, none⟩ = some (.int .i64 m.co) ∧ W.cell? ⟨b, o + i * 13 + 11, none⟩ = some (.int .i64 m.pr) ∧ W.cell? ⟨b, o + i * 13 + 12, none⟩ = some (.int .i64 m.ho) ∧ b < W.heap.size := fl_at h.fl hm hb
theorem fl_ptr {w : World} {q : Option Addr} {n c : Nat} {ms : List Mg} (h : Fl w 13 (.slice q n c) ms.length (rowM ms)) (h0 : 0 < ms.length) : ∃ b o, q = some ⟨b, o, none⟩ := by
  obtain ⟨-, p, cap, hv, -, -, h3⟩ := h
  injection hv with hv
  rcases h3 with h3 | ⟨b, o, rfl, -⟩
  · omega
  · exact ⟨b, o, hv⟩
open Classical in
/-- the i-th is fit, and no later fit one before j has its topic -/
noncomputable def lastB (ms : List Mg) (i : Nat) (m : Mg) (j : Nat) : Bool := ftB m && decide (∀ (k : Nat) (m' : Mg), i < k → k < j → ms[k]? = some m' → ¬ (ftB m' = true ∧ m'.tp = m.tp))
theorem lastB_iff {ms : List Mg} {i : Nat} {m : Mg} {j : Nat} : lastB ms i m j = true ↔ ftB m = true ∧ ∀ (k : Nat) (m' : Mg), i < k → k < j → ms[k]? = some m' → ¬ (ftB m' = true ∧ m'.tp = m.tp) := by
  classical
  unfold lastB
  rw [Bool.and_eq_true, decide_eq_true_iff]
theorem lastB_start (ms : List Mg) (i : Nat) (m : Mg) : lastB ms i m (i + 1) = ftB m := by
  rw [Bool.eq_iff_iff, lastB_iff]
  exact ⟨fun h => h.1, fun h => ⟨h, fun k m' h1 h2 => by omega⟩⟩
theorem lastB_no {ms : List Mg} {i j : Nat} {m : Mg} (h : lastB ms i m j = false) : lastB ms i m (j + 1) = false := by
  rw [← Bool.not_eq_true] at h ⊢
  rw [lastB_iff] at h ⊢
  exact fun e => h ⟨e.1, fun k m' h1 h2 => e.2 k m' h1 (by omega)⟩
theorem lastB_hit {ms : List Mg} {i j : Nat} {m m' : Mg} (hj : ms[j]? = some m') (hij : i < j) (hf : ftB m' = true) (ht : m'.tp = m.tp) : lastB ms i m (j + 1) = false := by
  rw [← Bool.not_eq_true, lastB_iff]
  exact fun e => e.2 j m' hij (Nat.lt_succ_self j) hj ⟨hf, ht⟩
theorem lastB_yes {ms : List Mg} {i j : Nat} {m m' : Mg} (h : lastB ms i m j = true) (hj : ms[j]? = some m') (hn : ¬ (ftB m' = true ∧ m'.tp = m.tp)) : lastB ms i m (j + 1) = true := by
  rw [lastB_iff] at h ⊢
  refine ⟨h.1, fun k m2 h1 h2 hk => ?_⟩
  rcases Nat.lt_or_ge k j with h3 | h3
  · exact h.2 k m2 h1 h3 hk
  · obtain rfl : k = j := by omega
    rw [hj] at hk
    injection hk with hk
    subst hk
    exact hn
theorem last_told {ms : List Mg} {i : Nat} {m : Mg} (hi : ms[i]? = some m) : LastN ms ms.length i m ↔ lastB ms i m ms.length = true ∧ m.t.kd ≠ 0 := by
  rw [lastB_iff]
  exact ⟨fun h => ⟨⟨h.2.2.1, h.2.2.2.2⟩, h.2.2.2.1⟩, fun h => ⟨(List.getElem?_eq_some_iff.1 hi).1, hi, h.1.1, h.2, h.1.2⟩⟩
theorem told_iff {ms : List Mg} {s : ByteArray} {i : Nat} {m : Mg} (hi : ms[i]? = some m) : Told ms s i ↔ (lastB ms i m ms.length = true ∧ m.t.kd ≠ 0) ∧ matchB s m.tp = true ∧ plainF s := by
  constructor
  · rintro ⟨m', h1, h2⟩
    obtain rfl : m = m' := by have := h1.2.1; rw [hi] at this; injection this
    exact ⟨(last_told hi).1 h1, h2⟩
  · rintro ⟨h1, h2⟩
    exact ⟨m, (last_told hi).2 h1, h2⟩
set_option maxRecDepth 100000 in
set_option maxHeartbeats 16000000 in
set_option linter.unusedSimpArgs false in
theorem shareKeeps_any (w : World) (hT : Tabs w) (v : Value) (ms : List Mg) (s : ByteArray) (h : MsgsIn w v ms) (hs : s.size ≤ 1048576) :
    Calls Tryz.prog 4 #[v, .string s] w fun e w' => e = .returned (.bool true) ∧ Below w.heap.size w w' := by
  obtain ⟨PP, hPP⟩ : ∃ PP : Ending → World → Prop, (fun e w' => e = .returned (.bool true) ∧ Below w.heap.size w w') = PP := ⟨_, rfl⟩
  rw [hPP]
  have HPP := Lib.hid hPP
  have HT := Lib.hid hT
  have hlen := h.len
  obtain ⟨q, c, rfl⟩ := h.fl.form
  have HM := Lib.hid h
  have HFM : Hid (∀ (i : Nat) (m : Mg), ms[i]? = some m → ∀ W, Below w.heap.size w W → Calls Tryz.prog 13 #[.agg #[.int .i64 m.id, .string m.tp, .int .i64 m.kd, .int .i64 m.di, .int .u64 m.db, .string m.ds, .slice m.q m.n m.c, .int .i64 m.at_, .int .i64 m.un, .string m.rp, .int .i64 m.co, .int .i64 m.pr, .int .i64 m.ho]] W fun e w' => e = .returned (.bool (ftB m)) ∧ Below W.heap.size W w') := fun i m hm W hb => by
    have ho := h.each m (List.mem_of_getElem? hm)
    exact fitM_any W m (ho.dv.below hb) (by have := ho.wt; omega) (by have := ho.wt; omega) (hT.below hb)
  clear hPP h hT
  go_enter Tryz.func4, Tryz.ntmps4
  go_wp2_with fail
  refine (sh_new w).mono ?_
  rintro e w1 ⟨hb, rfl, h1, -⟩
  have HO1 := Lib.hid h1
  clear h1
  go_wp2_with fail
  go_loopw [6] (fun s6 wr => ∃ i : Nat, s6 = .int .i64 (i : Nat) ∧ i ≤ ms.length ∧ Hid (ShS w wr hb ([], []) (keepN ms i) 0 0 i)) (fun s6 _ => ms.length - (intOf s6).toNat)
  case atStart => exact ⟨0, rfl, Nat.zero_le _, by have h := HO1.out; exact h⟩
  case round =>
    obtain ⟨i, rfl, hi, HO⟩ := hrel
    by_cases hlt : i < ms.length
    · obtain ⟨m, hm⟩ : ∃ m, ms[i]? = some m := ⟨_, List.getElem?_eq_getElem hlt⟩
      obtain ⟨b, o, rfl⟩ := HM.out.ptr (by omega)
      obtain ⟨x0, x1, x2, x3, x4, x5, x6, x7, x8, x9, x10, x11, x12, xb⟩ := HM.out.at_ hm HO.out.bel
      have hltI : (i : Int) < (ms.length : Int) := by omega
      have hi0 : (0 : Int) ≤ (i : Int) := by omega
      have HMI := Lib.hid hm
      have CF := Lib.hid (HFM.out i m hm wr HO.out.bel)
      have HKN := Lib.hid (keepN_succ hm)
      clear hm
      go_wp2_with fail
      refine CF.out.mono ?_
      rintro e w3 ⟨rfl, hb3⟩
      have HO3 := Lib.hid (HO.out.below hb3)
      clear hb3 x0 x1 x2 x3 x4 x5 x6 x7 x8 x9 x10 x11 x12 xb
      cases hf : ftB m with
      | false =>
        have HK2 : Hid (keepN ms (i + 1) = keepN ms i) := by show _ = _; rw [HKN.out]; unfold keepS; rw [hf]; rfl
        have HO4 : Hid (ShS w w3 hb ([], []) (keepN ms (i + 1)) 0 0 (i + 1)) := by
          rw [HK2.out]
          obtain ⟨⟨P, hP⟩, hB⟩ := HO3.out
          exact ⟨⟨P, hP.more (Nat.le_refl _) (Nat.le_refl _) (by omega)⟩, hB⟩
        clear hf
        go_wp2_with fail
        go_roundw
        case rel => exact ⟨i + 1, by go_num, by omega, HO4.out⟩
        case measure => simp [intOf]; omega
      | true =>
        have HK2 : Hid (keepN ms (i + 1) = (keepA (keepN ms i) m.am).2) := by show _ = _; rw [HKN.out]; unfold keepS; rw [hf]; rfl
        have hok := HM.out.each m (List.mem_of_getElem? HMI.out)
        have CK := Lib.hid (sh_keep HO3.out m (hok.dv.below HO3.out.bel) (dvSm_of m.f m.t (ftB_iff.1 hf).1.1.1) (by have := hok.wt; omega) (by omega))
        obtain ⟨y0, y1, y2, y3, y4, y5, y6, y7, y8, y9, y10, y11, y12, yb⟩ := HM.out.at_ HMI.out HO3.out.bel
        clear hf hok
        go_wp2_with fail
        refine CK.out.mono ?_
        rintro e w4 ⟨rfl, h4⟩
        rw [← HK2.out] at h4
        have HO4 := Lib.hid h4
        clear h4 y0 y1 y2 y3 y4 y5 y6 y7 y8 y9 y10 y11 y12 yb
        go_wp2_with fail
        go_roundw
        case rel => exact ⟨i + 1, by go_num, by omega, HO4.out⟩
        case measure => simp [intOf]; omega
    · have hltI : ¬ ((i : Int) < (ms.length : Int)) := by omega
      obtain rfl : i = ms.length := by omega
      have hkl := keepN_len ms ms.length
      go_wp2_with fail
      refine (sh_kept HO.out HT.out s hs (by omega)).mono ?_
      rintro e w5 ⟨v5, out, rfl, hr5, hk5, hp5, hb5⟩
      have HB5 := Lib.hid (HO.out.bel.trans (hb5.mono HO.out.bel.size))
      have HK5 := Lib.hid hk5
      have HROW := Lib.hid (Fl.of_own hr5)
      have HDV := Lib.hid (fun x hx => (hp5 x hx).1.is : ∀ x ∈ out, DvIs w5 x.f x.body x.t)
      have HOL : Hid (out.length ≤ 1048576) := by
        have h1 := told_all hk5
        rw [List.length_map] at h1
        have h2 := toldN_le ms s ms.length
        show out.length ≤ 1048576
        omega
      obtain ⟨q5, c5, rfl⟩ := hr5.slice
      clear hr5 hk5 hp5 hb5
      go_wp2_with fail
      go_loopw [8, 9] (fun s8 s9 wr => ∃ i : Nat, s9 = .int .i64 (i : Nat) ∧ i ≤ ms.length ∧ s8 = .int .i64 (toldN ms s i : Nat) ∧ Hid (Below w5.heap.size w5 wr)) (fun _ s9 _ => ms.length - (intOf s9).toNat)
      case atStart => exact ⟨0, rfl, Nat.zero_le _, rfl, Below.refl _ _⟩
      case round =>
        obtain ⟨i, rfl, hi, rfl, HB⟩ := hrel
        obtain ⟨tn, htn⟩ : ∃ tn, toldN ms s i = tn := ⟨_, rfl⟩
        have htl : tn ≤ 1048576 := by have := toldN_le ms s i; omega
        rw [htn]
        have HTN := Lib.hid htn
        clear htn
        have HBw := Lib.hid (HB5.out.trans (HB.out.mono HB5.out.size))
        by_cases hlt : i < ms.length
        · obtain ⟨m, hm⟩ : ∃ m, ms[i]? = some m := ⟨_, List.getElem?_eq_getElem hlt⟩
          obtain ⟨b, o, rfl⟩ := HM.out.ptr (by omega)
          obtain ⟨x0, x1, x2, x3, x4, x5, x6, x7, x8, x9, x10, x11, x12, xb⟩ := HM.out.at_ hm HBw.out
          have hltI : (i : Int) < (ms.length : Int) := by omega
          have hi0 : (0 : Int) ≤ (i : Int) := by omega
          have HMI := Lib.hid hm
          have CF := Lib.hid (HFM.out i m hm wr HBw.out)
          clear hm
          go_wp2_with fail
          refine CF.out.mono ?_
          rintro e w7 ⟨rfl, hb7⟩
          have HB7 := Lib.hid (HB.out.trans (hb7.mono HB.out.size))
          have HBw7 := Lib.hid (HB5.out.trans (HB7.out.mono HB5.out.size))
          clear hb7 x0 x1 x2 x3 x4 x5 x6 x7 x8 x9 x10 x11 x12 xb CF
          rw [← lastB_start ms i m]
          go_wp2_with fail
          go_loopw [10, 11] (fun s10 s11 wr => ∃ j : Nat, s11 = .int .i64 (j : Nat) ∧ i + 1 ≤ j ∧ j ≤ ms.length ∧ s10 = .bool (lastB ms i m j) ∧ Hid (Below w7.heap.size w7 wr)) (fun _ s11 _ => ms.length - (intOf s11).toNat)
          case atStart => exact ⟨i + 1, by go_num, Nat.le_refl _, by omega, rfl, Below.refl _ _⟩
          case round =>
            obtain ⟨j, rfl, hij, hj, rfl, HBj⟩ := hrel
            have HBv := Lib.hid (HBw7.out.trans (HBj.out.mono HBw7.out.size))
            by_cases hlt3 : j < ms.length
            · obtain ⟨m2, hm2⟩ : ∃ m, ms[j]? = some m := ⟨_, List.getElem?_eq_getElem hlt3⟩
              have hltJ : (j : Int) < (ms.length : Int) := by omega
              have hj0 : (0 : Int) ≤ (j : Int) := by omega
              have HMJ := Lib.hid hm2
              cases hl : lastB ms i m j with
              | false =>
                have HL2 := Lib.hid (lastB_no hl)
                clear hl hm2
                go_wp2_with fail
                go_quiet (fail)
                go_wp2_with fail
                go_roundw
                case rel => exact ⟨j + 1, by go_num, by omega, by omega, by rw [HL2.out], ⟨HBj.out.os, HBj.out.tape, HBj.out.output, HBj.out.size, HBj.out.block⟩⟩
                case measure => simp [intOf]; omega
              | true =>
                have HSS : Hid (∀ W, Below w.heap.size w W → W.cell? ⟨b, o + j * 13, none⟩ = some (.int .i64 m2.id) ∧ W.cell? ⟨b, o + j * 13 + 1, none⟩ = some (.string m2.tp) ∧ W.cell? ⟨b, o + j * 13 + 2, none⟩ = some (.int .i64 m2.kd) ∧ W.cell? ⟨b, o + j * 13 + 3, none⟩ = some (.int .i64 m2.di) ∧ W.cell? ⟨b, o + j * 13 + 4, none⟩ = some (.int .u64 m2.db) ∧ W.cell? ⟨b, o + j * 13 + 5, none⟩ = some (.string m2.ds) ∧ W.cell? ⟨b, o + j * 13 + 6, none⟩ = some (.slice m2.q m2.n m2.c) ∧ W.cell? ⟨b, o + j * 13 + 7, none⟩ = some (.int .i64 m2.at_) ∧ W.cell? ⟨b, o + j * 13 + 8, none⟩ = some (.int .i64 m2.un) ∧ W.cell? ⟨b, o + j * 13 + 9, none⟩ = some (.string m2.rp) ∧ W.cell? ⟨b, o + j * 13 + 10, none⟩ = some (.int .i64 m2.co) ∧ W.cell? ⟨b, o + j * 13 + 11, none⟩ = some (.int .i64 m2.pr) ∧ W.cell? ⟨b, o + j * 13 + 12, none⟩ = some (.int .i64 m2.ho) ∧ W.cell? ⟨b, o + i * 13 + 1, none⟩ = some (.string m.tp)) := fun W hb => by
                  obtain ⟨x0, x1, x2, x3, x4, x5, x6, x7, x8, x9, x10, x11, x12, -⟩ := HM.out.at_ hm2 hb
                  obtain ⟨-, y1, -⟩ := HM.out.at_ HMI.out hb
                  exact ⟨x0, x1, x2, x3, x4, x5, x6, x7, x8, x9, x10, x11, x12, y1⟩
                have CF2 := Lib.hid (HFM.out j m2 hm2 wr.drew HBv.out.drew)
                have HLJ := Lib.hid hl
                have hbw : b < wr.heap.size := by obtain ⟨-, -, -, -, -, -, -, -, -, -, -, -, -, h⟩ := HM.out.at_ hm2 HBv.out; exact h
                clear hl hm2
                cases hf : ftB m2 with
                | false =>
                  have HFB := Lib.hid hf
                  have HL2 := Lib.hid (lastB_yes HLJ.out HMJ.out fun e => by rw [hf] at e; cases e.1)
                  clear hf
                  go_wp2_with fail
                  refine wp_region_held_drew (S := (fun W => W.cell? ⟨b, o + j * 13, none⟩ = some (.int .i64 m2.id) ∧ W.cell? ⟨b, o + j * 13 + 1, none⟩ = some (.string m2.tp) ∧ W.cell? ⟨b, o + j * 13 + 2, none⟩ = some (.int .i64 m2.kd) ∧ W.cell? ⟨b, o + j * 13 + 3, none⟩ = some (.int .i64 m2.di) ∧ W.cell? ⟨b, o + j * 13 + 4, none⟩ = some (.int .u64 m2.db) ∧ W.cell? ⟨b, o + j * 13 + 5, none⟩ = some (.string m2.ds) ∧ W.cell? ⟨b, o + j * 13 + 6, none⟩ = some (.slice m2.q m2.n m2.c) ∧ W.cell? ⟨b, o + j * 13 + 7, none⟩ = some (.int .i64 m2.at_) ∧ W.cell? ⟨b, o + j * 13 + 8, none⟩ = some (.int .i64 m2.un) ∧ W.cell? ⟨b, o + j * 13 + 9, none⟩ = some (.string m2.rp) ∧ W.cell? ⟨b, o + j * 13 + 10, none⟩ = some (.int .i64 m2.co) ∧ W.cell? ⟨b, o + j * 13 + 11, none⟩ = some (.int .i64 m2.pr) ∧ W.cell? ⟨b, o + j * 13 + 12, none⟩ = some (.int .i64 m2.ho) ∧ W.cell? ⟨b, o + i * 13 + 1, none⟩ = some (.string m.tp))) (by kernel_rfl) (HSS.out _ HBv.out.drew) (fun hHeld => ?_)
                  refine wpAnyH_take (i := 0) (oi := _) (v := ?_) rfl (by kernel_rfl) (by kernel_rfl) (by kernel_rfl) (fun _ _ _ h => h) (Or.inl ⟨by rfl, ?_⟩) (by assumption) ?_
                  rotate_left
                  focus (intro w' hSw; (try dsimp only at hSw); go_simp; try with_reducible rfl)
                  (try simp only [Act.put, List.setIfInBounds_toArray, List.set_cons_zero, List.set_cons_succ, List.getElem_toArray, List.getElem_cons_succ, List.getElem_cons_zero])
                  refine wpAnyH_take (i := 1) (oi := _) (v := ?_) rfl (by kernel_rfl) (by kernel_rfl) (by kernel_rfl) (fun _ _ _ h => h) (Or.inl ⟨by rfl, ?_⟩) (by assumption) ?_
                  rotate_left
                  focus (intro w' hSw; (try dsimp only at hSw); go_simp; try with_reducible rfl)
                  (try simp only [Act.put, List.setIfInBounds_toArray, List.set_cons_zero, List.set_cons_succ, List.getElem_toArray, List.getElem_cons_succ, List.getElem_cons_zero])
                  refine wpAnyH_take (i := 2) (oi := _) (v := ?_) rfl (by kernel_rfl) (by kernel_rfl) (by kernel_rfl) (fun _ _ _ h => h) (Or.inl ⟨by rfl, ?_⟩) (by assumption) ?_
                  rotate_left
                  focus (intro w' hSw; (try dsimp only at hSw); go_simp; try with_reducible rfl)
                  (try simp only [Act.put, List.setIfInBounds_toArray, List.set_cons_zero, List.set_cons_succ, List.getElem_toArray, List.getElem_cons_succ, List.getElem_cons_zero])
                  refine wpAnyH_take (i := 3) (oi := _) (v := ?_) rfl (by kernel_rfl) (by kernel_rfl) (by kernel_rfl) (fun _ _ _ h => h) (Or.inl ⟨by rfl, ?_⟩) (by assumption) ?_
                  rotate_left
                  focus (intro w' hSw; (try dsimp only at hSw); go_simp; try with_reducible rfl)
                  (try simp only [Act.put, List.setIfInBounds_toArray, List.set_cons_zero, List.set_cons_succ, List.getElem_toArray, List.getElem_cons_succ, List.getElem_cons_zero])
                  refine wpAnyH_take (i := 4) (oi := _) (v := ?_) rfl (by kernel_rfl) (by kernel_rfl) (by kernel_rfl) (fun _ _ _ h => h) (Or.inl ⟨by rfl, ?_⟩) (by assumption) ?_
                  rotate_left
                  focus (intro w' hSw; (try dsimp only at hSw); go_simp; try with_reducible rfl)
                  (try simp only [Act.put, List.setIfInBounds_toArray, List.set_cons_zero, List.set_cons_succ, List.getElem_toArray, List.getElem_cons_succ, List.getElem_cons_zero])
                  refine wpAnyH_take (i := 5) (oi := _) (v := ?_) rfl (by kernel_rfl) (by kernel_rfl) (by kernel_rfl) (fun _ _ _ h => h) (Or.inl ⟨by rfl, ?_⟩) (by assumption) ?_
                  rotate_left
                  focus (intro w' hSw; (try dsimp only at hSw); go_simp; try with_reducible rfl)
                  (try simp only [Act.put, List.setIfInBounds_toArray, List.set_cons_zero, List.set_cons_succ, List.getElem_toArray, List.getElem_cons_succ, List.getElem_cons_zero])
                  refine wpAnyH_ready (rs := [6]) (by kernel_rfl) (by simp) ?_
                  refine AllReadyH.cons (o := _) rfl (fun K hK => ?_) AllReadyH.nil
                  go_simp; (with_reducible refine CF2.out.mono ?_); rintro e w9 ⟨rfl, hb9⟩; have HB9 := Lib.hid (HBj.out.drew.trans (hb9.mono HBj.out.size)); have HBv9 := Lib.hid (HBw7.out.trans (HB9.out.mono HBw7.out.size)); clear hb9; rw [HFB.out]
                  refine hK.out _ _ (HSS.out _ HBv9.out) (fun hHeld => ?_)
                  clear hK K
                  (try simp only [Act.put, List.setIfInBounds_toArray, List.set_cons_zero, List.set_cons_succ, List.getElem_toArray, List.getElem_cons_succ, List.getElem_cons_zero])
                  refine wpAnyH_take (i := 7) (oi := _) (v := ?_) rfl (by kernel_rfl) (by kernel_rfl) (by kernel_rfl) (fun _ _ _ h => h) (Or.inl ⟨by rfl, ?_⟩) (by assumption) ?_
                  rotate_left
                  focus (intro w' hSw; (try dsimp only at hSw); go_simp; try with_reducible rfl)
                  (try simp only [Act.put, List.setIfInBounds_toArray, List.set_cons_zero, List.set_cons_succ, List.getElem_toArray, List.getElem_cons_succ, List.getElem_cons_zero])
                  refine wpAnyH_take (i := 8) (oi := _) (v := undef) rfl (by kernel_rfl) (by kernel_rfl) (by kernel_rfl) (fun _ _ _ h => h) (Or.inr ⟨by rfl, rfl⟩) (by assumption) ?_
                  (try simp only [Act.put, List.setIfInBounds_toArray, List.set_cons_zero, List.set_cons_succ, List.getElem_toArray, List.getElem_cons_succ, List.getElem_cons_zero])
                  refine wpAnyH_take (i := 9) (oi := _) (v := undef) rfl (by kernel_rfl) (by kernel_rfl) (by kernel_rfl) (fun _ _ _ h => h) (Or.inr ⟨by rfl, rfl⟩) (by assumption) ?_
                  (try simp only [Act.put, List.setIfInBounds_toArray, List.set_cons_zero, List.set_cons_succ, List.getElem_toArray, List.getElem_cons_succ, List.getElem_cons_zero])
                  refine wpAnyH_take (i := 10) (oi := _) (v := undef) rfl (by kernel_rfl) (by kernel_rfl) (by kernel_rfl) (fun _ _ _ h => h) (Or.inr ⟨by rfl, rfl⟩) (by assumption) ?_
                  (try simp only [Act.put, List.setIfInBounds_toArray, List.set_cons_zero, List.set_cons_succ, List.getElem_toArray, List.getElem_cons_succ, List.getElem_cons_zero])
                  refine wpAnyH_take (i := 11) (oi := _) (v := undef) rfl (by kernel_rfl) (by kernel_rfl) (by kernel_rfl) (fun _ _ _ h => h) (Or.inr ⟨by rfl, rfl⟩) (by assumption) ?_
                  (try simp only [Act.put, List.setIfInBounds_toArray, List.set_cons_zero, List.set_cons_succ, List.getElem_toArray, List.getElem_cons_succ, List.getElem_cons_zero])
                  refine wpAnyH_take (i := 12) (oi := _) (v := undef) rfl (by kernel_rfl) (by kernel_rfl) (by kernel_rfl) (fun _ _ _ h => h) (Or.inr ⟨by rfl, rfl⟩) (by assumption) ?_
                  (try simp only [Act.put, List.setIfInBounds_toArray, List.set_cons_zero, List.set_cons_succ, List.getElem_toArray, List.getElem_cons_succ, List.getElem_cons_zero])
                  refine wpAnyH_take (i := 13) (oi := _) (v := undef) rfl (by kernel_rfl) (by kernel_rfl) (by kernel_rfl) (fun _ _ _ h => h) (Or.inr ⟨by rfl, rfl⟩) (by assumption) ?_
                  (try simp only [Act.put, List.setIfInBounds_toArray, List.set_cons_zero, List.set_cons_succ, List.getElem_toArray, List.getElem_cons_succ, List.getElem_cons_zero])
                  refine wpAnyH_take (i := 14) (oi := _) (v := undef) rfl (by kernel_rfl) (by kernel_rfl) (by kernel_rfl) (fun _ _ _ h => h) (Or.inr ⟨by rfl, rfl⟩) (by assumption) ?_
                  (try simp only [Act.put, List.setIfInBounds_toArray, List.set_cons_zero, List.set_cons_succ, List.getElem_toArray, List.getElem_cons_succ, List.getElem_cons_zero])
                  refine wpAnyH_take (i := 15) (oi := _) (v := undef) rfl (by kernel_rfl) (by kernel_rfl) (by kernel_rfl) (fun _ _ _ h => h) (Or.inr ⟨by rfl, rfl⟩) (by assumption) ?_
                  (try simp only [Act.put, List.setIfInBounds_toArray, List.set_cons_zero, List.set_cons_succ, List.getElem_toArray, List.getElem_cons_succ, List.getElem_cons_zero])
                  refine wpAnyH_take (i := 16) (oi := _) (v := undef) rfl (by kernel_rfl) (by kernel_rfl) (by kernel_rfl) (fun _ _ _ h => h) (Or.inr ⟨by rfl, rfl⟩) (by assumption) ?_
                  (try simp only [Act.put, List.setIfInBounds_toArray, List.set_cons_zero, List.set_cons_succ, List.getElem_toArray, List.getElem_cons_succ, List.getElem_cons_zero])
                  refine wpAnyH_take (i := 17) (oi := _) (v := undef) rfl (by kernel_rfl) (by kernel_rfl) (by kernel_rfl) (fun _ _ _ h => h) (Or.inr ⟨by rfl, rfl⟩) (by assumption) ?_
                  (try simp only [Act.put, List.setIfInBounds_toArray, List.set_cons_zero, List.set_cons_succ, List.getElem_toArray, List.getElem_cons_succ, List.getElem_cons_zero])
                  refine wpAnyH_take (i := 18) (oi := _) (v := undef) rfl (by kernel_rfl) (by kernel_rfl) (by kernel_rfl) (fun _ _ _ h => h) (Or.inr ⟨by rfl, rfl⟩) (by assumption) ?_
                  (try simp only [Act.put, List.setIfInBounds_toArray, List.set_cons_zero, List.set_cons_succ, List.getElem_toArray, List.getElem_cons_succ, List.getElem_cons_zero])
                  refine wpAnyH_take (i := 19) (oi := _) (v := ?_) rfl (by kernel_rfl) (by kernel_rfl) (by kernel_rfl) (fun _ _ _ h => h) (Or.inl ⟨by rfl, ?_⟩) (by assumption) ?_
                  rotate_left
                  focus (intro w' hSw; (try dsimp only at hSw); go_simp; try with_reducible rfl)
                  (try simp only [Act.put, List.setIfInBounds_toArray, List.set_cons_zero, List.set_cons_succ, List.getElem_toArray, List.getElem_cons_succ, List.getElem_cons_zero])
                  refine wpAnyH_take (i := 20) (oi := _) (v := ?_) rfl (by kernel_rfl) (by kernel_rfl) (by kernel_rfl) (fun _ _ _ h => h) (Or.inl ⟨by rfl, ?_⟩) (by assumption) ?_
                  rotate_left
                  focus (intro w' hSw; (try dsimp only at hSw); go_simp; try with_reducible rfl)
                  (try simp only [Act.put, List.setIfInBounds_toArray, List.set_cons_zero, List.set_cons_succ, List.getElem_toArray, List.getElem_cons_succ, List.getElem_cons_zero])
                  refine wpAnyH_take (i := 21) (oi := _) (v := ?_) rfl (by kernel_rfl) (by kernel_rfl) (by kernel_rfl) (fun _ _ _ h => h) (Or.inl ⟨by rfl, ?_⟩) (by assumption) ?_
                  rotate_left
                  focus (intro w' hSw; (try dsimp only at hSw); go_simp; try with_reducible rfl)
                  (try simp only [Act.put, List.setIfInBounds_toArray, List.set_cons_zero, List.set_cons_succ, List.getElem_toArray, List.getElem_cons_succ, List.getElem_cons_zero])
                  refine wpAnyH_take (i := 22) (oi := _) (v := ?_) rfl (by kernel_rfl) (by kernel_rfl) (by kernel_rfl) (fun _ _ _ h => h) (Or.inl ⟨by rfl, ?_⟩) (by assumption) ?_
                  rotate_left
                  focus (intro w' hSw; (try dsimp only at hSw); go_simp; try with_reducible rfl)
                  (try simp only [Act.put, List.setIfInBounds_toArray, List.set_cons_zero, List.set_cons_succ, List.getElem_toArray, List.getElem_cons_succ, List.getElem_cons_zero])
                  refine wpAnyH_done (by kernel_rfl) ?_ _
                  go_simp
                  go_wp2_with fail
                  go_roundw
                  case rel => exact ⟨j + 1, by go_num, by omega, by omega, by rw [HL2.out], HB9.out⟩
                  case measure => simp [intOf]; omega
                | true =>
                  have HFB := Lib.hid hf
                  by_cases ht : m2.tp = m.tp
                  · have HL2 := Lib.hid (lastB_hit HMJ.out (by omega : i < j) hf ht)
                    have e1 : (m2.tp.toList == m.tp.toList) = true := is_same.2 ht
                    clear hf ht
                    go_wp2_with fail
                    refine wp_region_held_drew (S := (fun W => W.cell? ⟨b, o + j * 13, none⟩ = some (.int .i64 m2.id) ∧ W.cell? ⟨b, o + j * 13 + 1, none⟩ = some (.string m2.tp) ∧ W.cell? ⟨b, o + j * 13 + 2, none⟩ = some (.int .i64 m2.kd) ∧ W.cell? ⟨b, o + j * 13 + 3, none⟩ = some (.int .i64 m2.di) ∧ W.cell? ⟨b, o + j * 13 + 4, none⟩ = some (.int .u64 m2.db) ∧ W.cell? ⟨b, o + j * 13 + 5, none⟩ = some (.string m2.ds) ∧ W.cell? ⟨b, o + j * 13 + 6, none⟩ = some (.slice m2.q m2.n m2.c) ∧ W.cell? ⟨b, o + j * 13 + 7, none⟩ = some (.int .i64 m2.at_) ∧ W.cell? ⟨b, o + j * 13 + 8, none⟩ = some (.int .i64 m2.un) ∧ W.cell? ⟨b, o + j * 13 + 9, none⟩ = some (.string m2.rp) ∧ W.cell? ⟨b, o + j * 13 + 10, none⟩ = some (.int .i64 m2.co) ∧ W.cell? ⟨b, o + j * 13 + 11, none⟩ = some (.int .i64 m2.pr) ∧ W.cell? ⟨b, o + j * 13 + 12, none⟩ = some (.int .i64 m2.ho) ∧ W.cell? ⟨b, o + i * 13 + 1, none⟩ = some (.string m.tp))) (by kernel_rfl) (HSS.out _ HBv.out.drew) (fun hHeld => ?_)
                    refine wpAnyH_take (i := 0) (oi := _) (v := ?_) rfl (by kernel_rfl) (by kernel_rfl) (by kernel_rfl) (fun _ _ _ h => h) (Or.inl ⟨by rfl, ?_⟩) (by assumption) ?_
                    rotate_left
                    focus (intro w' hSw; (try dsimp only at hSw); go_simp; try with_reducible rfl)
                    (try simp only [Act.put, List.setIfInBounds_toArray, List.set_cons_zero, List.set_cons_succ, List.getElem_toArray, List.getElem_cons_succ, List.getElem_cons_zero])
                    refine wpAnyH_take (i := 1) (oi := _) (v := ?_) rfl (by kernel_rfl) (by kernel_rfl) (by kernel_rfl) (fun _ _ _ h => h) (Or.inl ⟨by rfl, ?_⟩) (by assumption) ?_
                    rotate_left
                    focus (intro w' hSw; (try dsimp only at hSw); go_simp; try with_reducible rfl)
                    (try simp only [Act.put, List.setIfInBounds_toArray, List.set_cons_zero, List.set_cons_succ, List.getElem_toArray, List.getElem_cons_succ, List.getElem_cons_zero])
                    refine wpAnyH_take (i := 2) (oi := _) (v := ?_) rfl (by kernel_rfl) (by kernel_rfl) (by kernel_rfl) (fun _ _ _ h => h) (Or.inl ⟨by rfl, ?_⟩) (by assumption) ?_
                    rotate_left
                    focus (intro w' hSw; (try dsimp only at hSw); go_simp; try with_reducible rfl)
                    (try simp only [Act.put, List.setIfInBounds_toArray, List.set_cons_zero, List.set_cons_succ, List.getElem_toArray, List.getElem_cons_succ, List.getElem_cons_zero])
                    refine wpAnyH_take (i := 3) (oi := _) (v := ?_) rfl (by kernel_rfl) (by kernel_rfl) (by kernel_rfl) (fun _ _ _ h => h) (Or.inl ⟨by rfl, ?_⟩) (by assumption) ?_
                    rotate_left
                    focus (intro w' hSw; (try dsimp only at hSw); go_simp; try with_reducible rfl)
                    (try simp only [Act.put, List.setIfInBounds_toArray, List.set_cons_zero, List.set_cons_succ, List.getElem_toArray, List.getElem_cons_succ, List.getElem_cons_zero])
                    refine wpAnyH_take (i := 4) (oi := _) (v := ?_) rfl (by kernel_rfl) (by kernel_rfl) (by kernel_rfl) (fun _ _ _ h => h) (Or.inl ⟨by rfl, ?_⟩) (by assumption) ?_
                    rotate_left
                    focus (intro w' hSw; (try dsimp only at hSw); go_simp; try with_reducible rfl)
                    (try simp only [Act.put, List.setIfInBounds_toArray, List.set_cons_zero, List.set_cons_succ, List.getElem_toArray, List.getElem_cons_succ, List.getElem_cons_zero])
                    refine wpAnyH_take (i := 5) (oi := _) (v := ?_) rfl (by kernel_rfl) (by kernel_rfl) (by kernel_rfl) (fun _ _ _ h => h) (Or.inl ⟨by rfl, ?_⟩) (by assumption) ?_
                    rotate_left
                    focus (intro w' hSw; (try dsimp only at hSw); go_simp; try with_reducible rfl)
                    (try simp only [Act.put, List.setIfInBounds_toArray, List.set_cons_zero, List.set_cons_succ, List.getElem_toArray, List.getElem_cons_succ, List.getElem_cons_zero])
                    refine wpAnyH_ready (rs := [6]) (by kernel_rfl) (by simp) ?_
                    refine AllReadyH.cons (o := _) rfl (fun K hK => ?_) AllReadyH.nil
                    go_simp; (with_reducible refine CF2.out.mono ?_); rintro e w9 ⟨rfl, hb9⟩; have HB9 := Lib.hid (HBj.out.drew.trans (hb9.mono HBj.out.size)); have HBv9 := Lib.hid (HBw7.out.trans (HB9.out.mono HBw7.out.size)); clear hb9; rw [HFB.out]
                    refine hK.out _ _ (HSS.out _ HBv9.out) (fun hHeld => ?_)
                    clear hK K
                    (try simp only [Act.put, List.setIfInBounds_toArray, List.set_cons_zero, List.set_cons_succ, List.getElem_toArray, List.getElem_cons_succ, List.getElem_cons_zero])
                    refine wpAnyH_take (i := 7) (oi := _) (v := ?_) rfl (by kernel_rfl) (by kernel_rfl) (by kernel_rfl) (fun _ _ _ h => h) (Or.inl ⟨by rfl, ?_⟩) (by assumption) ?_
                    rotate_left
                    focus (intro w' hSw; (try dsimp only at hSw); go_simp; try with_reducible rfl)
                    (try simp only [Act.put, List.setIfInBounds_toArray, List.set_cons_zero, List.set_cons_succ, List.getElem_toArray, List.getElem_cons_succ, List.getElem_cons_zero])
                    refine wpAnyH_take (i := 8) (oi := _) (v := ?_) rfl (by kernel_rfl) (by kernel_rfl) (by kernel_rfl) (fun _ _ _ h => h) (Or.inl ⟨by rfl, ?_⟩) (by assumption) ?_
                    rotate_left
                    focus (intro w' hSw; (try dsimp only at hSw); go_simp; try with_reducible rfl)
                    (try simp only [Act.put, List.setIfInBounds_toArray, List.set_cons_zero, List.set_cons_succ, List.getElem_toArray, List.getElem_cons_succ, List.getElem_cons_zero])
                    refine wpAnyH_take (i := 9) (oi := _) (v := ?_) rfl (by kernel_rfl) (by kernel_rfl) (by kernel_rfl) (fun _ _ _ h => h) (Or.inl ⟨by rfl, ?_⟩) (by assumption) ?_
                    rotate_left
                    focus (intro w' hSw; (try dsimp only at hSw); go_simp; try with_reducible rfl)
                    (try simp only [Act.put, List.setIfInBounds_toArray, List.set_cons_zero, List.set_cons_succ, List.getElem_toArray, List.getElem_cons_succ, List.getElem_cons_zero])
                    refine wpAnyH_take (i := 10) (oi := _) (v := ?_) rfl (by kernel_rfl) (by kernel_rfl) (by kernel_rfl) (fun _ _ _ h => h) (Or.inl ⟨by rfl, ?_⟩) (by assumption) ?_
                    rotate_left
                    focus (intro w' hSw; (try dsimp only at hSw); go_simp; try with_reducible rfl)
                    (try simp only [Act.put, List.setIfInBounds_toArray, List.set_cons_zero, List.set_cons_succ, List.getElem_toArray, List.getElem_cons_succ, List.getElem_cons_zero])
                    refine wpAnyH_take (i := 11) (oi := _) (v := ?_) rfl (by kernel_rfl) (by kernel_rfl) (by kernel_rfl) (fun _ _ _ h => h) (Or.inl ⟨by rfl, ?_⟩) (by assumption) ?_
                    rotate_left
                    focus (intro w' hSw; (try dsimp only at hSw); go_simp; try with_reducible rfl)
                    (try simp only [Act.put, List.setIfInBounds_toArray, List.set_cons_zero, List.set_cons_succ, List.getElem_toArray, List.getElem_cons_succ, List.getElem_cons_zero])
                    refine wpAnyH_take (i := 12) (oi := _) (v := ?_) rfl (by kernel_rfl) (by kernel_rfl) (by kernel_rfl) (fun _ _ _ h => h) (Or.inl ⟨by rfl, ?_⟩) (by assumption) ?_
                    rotate_left
                    focus (intro w' hSw; (try dsimp only at hSw); go_simp; try with_reducible rfl)
                    (try simp only [Act.put, List.setIfInBounds_toArray, List.set_cons_zero, List.set_cons_succ, List.getElem_toArray, List.getElem_cons_succ, List.getElem_cons_zero])
                    refine wpAnyH_take (i := 13) (oi := _) (v := ?_) rfl (by kernel_rfl) (by kernel_rfl) (by kernel_rfl) (fun _ _ _ h => h) (Or.inl ⟨by rfl, ?_⟩) (by assumption) ?_
                    rotate_left
                    focus (intro w' hSw; (try dsimp only at hSw); go_simp; try with_reducible rfl)
                    (try simp only [Act.put, List.setIfInBounds_toArray, List.set_cons_zero, List.set_cons_succ, List.getElem_toArray, List.getElem_cons_succ, List.getElem_cons_zero])
                    refine wpAnyH_take (i := 14) (oi := _) (v := ?_) rfl (by kernel_rfl) (by kernel_rfl) (by kernel_rfl) (fun _ _ _ h => h) (Or.inl ⟨by rfl, ?_⟩) (by assumption) ?_
                    rotate_left
                    focus (intro w' hSw; (try dsimp only at hSw); go_simp; try with_reducible rfl)
                    (try simp only [Act.put, List.setIfInBounds_toArray, List.set_cons_zero, List.set_cons_succ, List.getElem_toArray, List.getElem_cons_succ, List.getElem_cons_zero])
                    refine wpAnyH_take (i := 15) (oi := _) (v := ?_) rfl (by kernel_rfl) (by kernel_rfl) (by kernel_rfl) (fun _ _ _ h => h) (Or.inl ⟨by rfl, ?_⟩) (by assumption) ?_
                    rotate_left
                    focus (intro w' hSw; (try dsimp only at hSw); go_simp; try with_reducible rfl)
                    (try simp only [Act.put, List.setIfInBounds_toArray, List.set_cons_zero, List.set_cons_succ, List.getElem_toArray, List.getElem_cons_succ, List.getElem_cons_zero])
                    refine wpAnyH_take (i := 16) (oi := _) (v := ?_) rfl (by kernel_rfl) (by kernel_rfl) (by kernel_rfl) (fun _ _ _ h => h) (Or.inl ⟨by rfl, ?_⟩) (by assumption) ?_
                    rotate_left
                    focus (intro w' hSw; (try dsimp only at hSw); go_simp; try with_reducible rfl)
                    (try simp only [Act.put, List.setIfInBounds_toArray, List.set_cons_zero, List.set_cons_succ, List.getElem_toArray, List.getElem_cons_succ, List.getElem_cons_zero])
                    refine wpAnyH_take (i := 17) (oi := _) (v := ?_) rfl (by kernel_rfl) (by kernel_rfl) (by kernel_rfl) (fun _ _ _ h => h) (Or.inl ⟨by rfl, ?_⟩) (by assumption) ?_
                    rotate_left
                    focus (intro w' hSw; (try dsimp only at hSw); go_simp; try with_reducible rfl)
                    (try simp only [Act.put, List.setIfInBounds_toArray, List.set_cons_zero, List.set_cons_succ, List.getElem_toArray, List.getElem_cons_succ, List.getElem_cons_zero])
                    refine wpAnyH_take (i := 18) (oi := _) (v := ?_) rfl (by kernel_rfl) (by kernel_rfl) (by kernel_rfl) (fun _ _ _ h => h) (Or.inl ⟨by rfl, ?_⟩) (by assumption) ?_
                    rotate_left
                    focus (intro w' hSw; (try dsimp only at hSw); go_simp; try with_reducible rfl)
                    (try simp only [Act.put, List.setIfInBounds_toArray, List.set_cons_zero, List.set_cons_succ, List.getElem_toArray, List.getElem_cons_succ, List.getElem_cons_zero])
                    refine wpAnyH_take (i := 19) (oi := _) (v := ?_) rfl (by kernel_rfl) (by kernel_rfl) (by kernel_rfl) (fun _ _ _ h => h) (Or.inl ⟨by rfl, ?_⟩) (by assumption) ?_
                    rotate_left
                    focus (intro w' hSw; (try dsimp only at hSw); go_simp; try with_reducible rfl)
                    (try simp only [Act.put, List.setIfInBounds_toArray, List.set_cons_zero, List.set_cons_succ, List.getElem_toArray, List.getElem_cons_succ, List.getElem_cons_zero])
                    refine wpAnyH_take (i := 20) (oi := _) (v := ?_) rfl (by kernel_rfl) (by kernel_rfl) (by kernel_rfl) (fun _ _ _ h => h) (Or.inl ⟨by rfl, ?_⟩) (by assumption) ?_
                    rotate_left
                    focus (intro w' hSw; (try dsimp only at hSw); go_simp; try with_reducible rfl)
                    (try simp only [Act.put, List.setIfInBounds_toArray, List.set_cons_zero, List.set_cons_succ, List.getElem_toArray, List.getElem_cons_succ, List.getElem_cons_zero])
                    refine wpAnyH_take (i := 21) (oi := _) (v := ?_) rfl (by kernel_rfl) (by kernel_rfl) (by kernel_rfl) (fun _ _ _ h => h) (Or.inl ⟨by rfl, ?_⟩) (by assumption) ?_
                    rotate_left
                    focus (intro w' hSw; (try dsimp only at hSw); go_simp; try with_reducible rfl)
                    (try simp only [Act.put, List.setIfInBounds_toArray, List.set_cons_zero, List.set_cons_succ, List.getElem_toArray, List.getElem_cons_succ, List.getElem_cons_zero])
                    refine wpAnyH_take (i := 22) (oi := _) (v := ?_) rfl (by kernel_rfl) (by kernel_rfl) (by kernel_rfl) (fun _ _ _ h => h) (Or.inl ⟨by rfl, ?_⟩) (by assumption) ?_
                    rotate_left
                    focus (intro w' hSw; (try dsimp only at hSw); go_simp; try with_reducible rfl)
                    (try simp only [Act.put, List.setIfInBounds_toArray, List.set_cons_zero, List.set_cons_succ, List.getElem_toArray, List.getElem_cons_succ, List.getElem_cons_zero])
                    refine wpAnyH_done (by kernel_rfl) ?_ _
                    go_simp
                    go_wp2_with fail
                    go_roundw
                    case rel => exact ⟨j + 1, by go_num, by omega, by omega, by rw [HL2.out], HB9.out⟩
                    case measure => simp [intOf]; omega
                  · have HL2 := Lib.hid (lastB_yes HLJ.out HMJ.out fun e => ht e.2)
                    have e1 : (m2.tp.toList == m.tp.toList) = false := (txt_ne ht).1
                    clear hf ht
                    go_wp2_with fail
                    refine wp_region_held_drew (S := (fun W => W.cell? ⟨b, o + j * 13, none⟩ = some (.int .i64 m2.id) ∧ W.cell? ⟨b, o + j * 13 + 1, none⟩ = some (.string m2.tp) ∧ W.cell? ⟨b, o + j * 13 + 2, none⟩ = some (.int .i64 m2.kd) ∧ W.cell? ⟨b, o + j * 13 + 3, none⟩ = some (.int .i64 m2.di) ∧ W.cell? ⟨b, o + j * 13 + 4, none⟩ = some (.int .u64 m2.db) ∧ W.cell? ⟨b, o + j * 13 + 5, none⟩ = some (.string m2.ds) ∧ W.cell? ⟨b, o + j * 13 + 6, none⟩ = some (.slice m2.q m2.n m2.c) ∧ W.cell? ⟨b, o + j * 13 + 7, none⟩ = some (.int .i64 m2.at_) ∧ W.cell? ⟨b, o + j * 13 + 8, none⟩ = some (.int .i64 m2.un) ∧ W.cell? ⟨b, o + j * 13 + 9, none⟩ = some (.string m2.rp) ∧ W.cell? ⟨b, o + j * 13 + 10, none⟩ = some (.int .i64 m2.co) ∧ W.cell? ⟨b, o + j * 13 + 11, none⟩ = some (.int .i64 m2.pr) ∧ W.cell? ⟨b, o + j * 13 + 12, none⟩ = some (.int .i64 m2.ho) ∧ W.cell? ⟨b, o + i * 13 + 1, none⟩ = some (.string m.tp))) (by kernel_rfl) (HSS.out _ HBv.out.drew) (fun hHeld => ?_)
                    refine wpAnyH_take (i := 0) (oi := _) (v := ?_) rfl (by kernel_rfl) (by kernel_rfl) (by kernel_rfl) (fun _ _ _ h => h) (Or.inl ⟨by rfl, ?_⟩) (by assumption) ?_
                    rotate_left
                    focus (intro w' hSw; (try dsimp only at hSw); go_simp; try with_reducible rfl)
                    (try simp only [Act.put, List.setIfInBounds_toArray, List.set_cons_zero, List.set_cons_succ, List.getElem_toArray, List.getElem_cons_succ, List.getElem_cons_zero])
                    refine wpAnyH_take (i := 1) (oi := _) (v := ?_) rfl (by kernel_rfl) (by kernel_rfl) (by kernel_rfl) (fun _ _ _ h => h) (Or.inl ⟨by rfl, ?_⟩) (by assumption) ?_
                    rotate_left
                    focus (intro w' hSw; (try dsimp only at hSw); go_simp; try with_reducible rfl)
                    (try simp only [Act.put, List.setIfInBounds_toArray, List.set_cons_zero, List.set_cons_succ, List.getElem_toArray, List.getElem_cons_succ, List.getElem_cons_zero])
                    refine wpAnyH_take (i := 2) (oi := _) (v := ?_) rfl (by kernel_rfl) (by kernel_rfl) (by kernel_rfl) (fun _ _ _ h => h) (Or.inl ⟨by rfl, ?_⟩) (by assumption) ?_
                    rotate_left
                    focus (intro w' hSw; (try dsimp only at hSw); go_simp; try with_reducible rfl)
                    (try simp only [Act.put, List.setIfInBounds_toArray, List.set_cons_zero, List.set_cons_succ, List.getElem_toArray, List.getElem_cons_succ, List.getElem_cons_zero])
                    refine wpAnyH_take (i := 3) (oi := _) (v := ?_) rfl (by kernel_rfl) (by kernel_rfl) (by kernel_rfl) (fun _ _ _ h => h) (Or.inl ⟨by rfl, ?_⟩) (by assumption) ?_
                    rotate_left
                    focus (intro w' hSw; (try dsimp only at hSw); go_simp; try with_reducible rfl)
                    (try simp only [Act.put, List.setIfInBounds_toArray, List.set_cons_zero, List.set_cons_succ, List.getElem_toArray, List.getElem_cons_succ, List.getElem_cons_zero])
                    refine wpAnyH_take (i := 4) (oi := _) (v := ?_) rfl (by kernel_rfl) (by kernel_rfl) (by kernel_rfl) (fun _ _ _ h => h) (Or.inl ⟨by rfl, ?_⟩) (by assumption) ?_
                    rotate_left
                    focus (intro w' hSw; (try dsimp only at hSw); go_simp; try with_reducible rfl)
                    (try simp only [Act.put, List.setIfInBounds_toArray, List.set_cons_zero, List.set_cons_succ, List.getElem_toArray, List.getElem_cons_succ, List.getElem_cons_zero])
                    refine wpAnyH_take (i := 5) (oi := _) (v := ?_) rfl (by kernel_rfl) (by kernel_rfl) (by kernel_rfl) (fun _ _ _ h => h) (Or.inl ⟨by rfl, ?_⟩) (by assumption) ?_
                    rotate_left
                    focus (intro w' hSw; (try dsimp only at hSw); go_simp; try with_reducible rfl)
                    (try simp only [Act.put, List.setIfInBounds_toArray, List.set_cons_zero, List.set_cons_succ, List.getElem_toArray, List.getElem_cons_succ, List.getElem_cons_zero])
                    refine wpAnyH_ready (rs := [6]) (by kernel_rfl) (by simp) ?_
                    refine AllReadyH.cons (o := _) rfl (fun K hK => ?_) AllReadyH.nil
                    go_simp; (with_reducible refine CF2.out.mono ?_); rintro e w9 ⟨rfl, hb9⟩; have HB9 := Lib.hid (HBj.out.drew.trans (hb9.mono HBj.out.size)); have HBv9 := Lib.hid (HBw7.out.trans (HB9.out.mono HBw7.out.size)); clear hb9; rw [HFB.out]
                    refine hK.out _ _ (HSS.out _ HBv9.out) (fun hHeld => ?_)
                    clear hK K
                    (try simp only [Act.put, List.setIfInBounds_toArray, List.set_cons_zero, List.set_cons_succ, List.getElem_toArray, List.getElem_cons_succ, List.getElem_cons_zero])
                    refine wpAnyH_take (i := 7) (oi := _) (v := ?_) rfl (by kernel_rfl) (by kernel_rfl) (by kernel_rfl) (fun _ _ _ h => h) (Or.inl ⟨by rfl, ?_⟩) (by assumption) ?_
                    rotate_left
                    focus (intro w' hSw; (try dsimp only at hSw); go_simp; try with_reducible rfl)
                    (try simp only [Act.put, List.setIfInBounds_toArray, List.set_cons_zero, List.set_cons_succ, List.getElem_toArray, List.getElem_cons_succ, List.getElem_cons_zero])
                    refine wpAnyH_take (i := 8) (oi := _) (v := ?_) rfl (by kernel_rfl) (by kernel_rfl) (by kernel_rfl) (fun _ _ _ h => h) (Or.inl ⟨by rfl, ?_⟩) (by assumption) ?_
                    rotate_left
                    focus (intro w' hSw; (try dsimp only at hSw); go_simp; try with_reducible rfl)
                    (try simp only [Act.put, List.setIfInBounds_toArray, List.set_cons_zero, List.set_cons_succ, List.getElem_toArray, List.getElem_cons_succ, List.getElem_cons_zero])
                    refine wpAnyH_take (i := 9) (oi := _) (v := ?_) rfl (by kernel_rfl) (by kernel_rfl) (by kernel_rfl) (fun _ _ _ h => h) (Or.inl ⟨by rfl, ?_⟩) (by assumption) ?_
                    rotate_left
                    focus (intro w' hSw; (try dsimp only at hSw); go_simp; try with_reducible rfl)
                    (try simp only [Act.put, List.setIfInBounds_toArray, List.set_cons_zero, List.set_cons_succ, List.getElem_toArray, List.getElem_cons_succ, List.getElem_cons_zero])
                    refine wpAnyH_take (i := 10) (oi := _) (v := ?_) rfl (by kernel_rfl) (by kernel_rfl) (by kernel_rfl) (fun _ _ _ h => h) (Or.inl ⟨by rfl, ?_⟩) (by assumption) ?_
                    rotate_left
                    focus (intro w' hSw; (try dsimp only at hSw); go_simp; try with_reducible rfl)
                    (try simp only [Act.put, List.setIfInBounds_toArray, List.set_cons_zero, List.set_cons_succ, List.getElem_toArray, List.getElem_cons_succ, List.getElem_cons_zero])
                    refine wpAnyH_take (i := 11) (oi := _) (v := ?_) rfl (by kernel_rfl) (by kernel_rfl) (by kernel_rfl) (fun _ _ _ h => h) (Or.inl ⟨by rfl, ?_⟩) (by assumption) ?_
                    rotate_left
                    focus (intro w' hSw; (try dsimp only at hSw); go_simp; try with_reducible rfl)
                    (try simp only [Act.put, List.setIfInBounds_toArray, List.set_cons_zero, List.set_cons_succ, List.getElem_toArray, List.getElem_cons_succ, List.getElem_cons_zero])
                    refine wpAnyH_take (i := 12) (oi := _) (v := ?_) rfl (by kernel_rfl) (by kernel_rfl) (by kernel_rfl) (fun _ _ _ h => h) (Or.inl ⟨by rfl, ?_⟩) (by assumption) ?_
                    rotate_left
                    focus (intro w' hSw; (try dsimp only at hSw); go_simp; try with_reducible rfl)
                    (try simp only [Act.put, List.setIfInBounds_toArray, List.set_cons_zero, List.set_cons_succ, List.getElem_toArray, List.getElem_cons_succ, List.getElem_cons_zero])
                    refine wpAnyH_take (i := 13) (oi := _) (v := ?_) rfl (by kernel_rfl) (by kernel_rfl) (by kernel_rfl) (fun _ _ _ h => h) (Or.inl ⟨by rfl, ?_⟩) (by assumption) ?_
                    rotate_left
                    focus (intro w' hSw; (try dsimp only at hSw); go_simp; try with_reducible rfl)
                    (try simp only [Act.put, List.setIfInBounds_toArray, List.set_cons_zero, List.set_cons_succ, List.getElem_toArray, List.getElem_cons_succ, List.getElem_cons_zero])
                    refine wpAnyH_take (i := 14) (oi := _) (v := ?_) rfl (by kernel_rfl) (by kernel_rfl) (by kernel_rfl) (fun _ _ _ h => h) (Or.inl ⟨by rfl, ?_⟩) (by assumption) ?_
                    rotate_left
                    focus (intro w' hSw; (try dsimp only at hSw); go_simp; try with_reducible rfl)
                    (try simp only [Act.put, List.setIfInBounds_toArray, List.set_cons_zero, List.set_cons_succ, List.getElem_toArray, List.getElem_cons_succ, List.getElem_cons_zero])
                    refine wpAnyH_take (i := 15) (oi := _) (v := ?_) rfl (by kernel_rfl) (by kernel_rfl) (by kernel_rfl) (fun _ _ _ h => h) (Or.inl ⟨by rfl, ?_⟩) (by assumption) ?_
                    rotate_left
                    focus (intro w' hSw; (try dsimp only at hSw); go_simp; try with_reducible rfl)
                    (try simp only [Act.put, List.setIfInBounds_toArray, List.set_cons_zero, List.set_cons_succ, List.getElem_toArray, List.getElem_cons_succ, List.getElem_cons_zero])
                    refine wpAnyH_take (i := 16) (oi := _) (v := ?_) rfl (by kernel_rfl) (by kernel_rfl) (by kernel_rfl) (fun _ _ _ h => h) (Or.inl ⟨by rfl, ?_⟩) (by assumption) ?_
                    rotate_left
                    focus (intro w' hSw; (try dsimp only at hSw); go_simp; try with_reducible rfl)
                    (try simp only [Act.put, List.setIfInBounds_toArray, List.set_cons_zero, List.set_cons_succ, List.getElem_toArray, List.getElem_cons_succ, List.getElem_cons_zero])
                    refine wpAnyH_take (i := 17) (oi := _) (v := ?_) rfl (by kernel_rfl) (by kernel_rfl) (by kernel_rfl) (fun _ _ _ h => h) (Or.inl ⟨by rfl, ?_⟩) (by assumption) ?_
                    rotate_left
                    focus (intro w' hSw; (try dsimp only at hSw); go_simp; try with_reducible rfl)
                    (try simp only [Act.put, List.setIfInBounds_toArray, List.set_cons_zero, List.set_cons_succ, List.getElem_toArray, List.getElem_cons_succ, List.getElem_cons_zero])
                    refine wpAnyH_take (i := 18) (oi := _) (v := ?_) rfl (by kernel_rfl) (by kernel_rfl) (by kernel_rfl) (fun _ _ _ h => h) (Or.inl ⟨by rfl, ?_⟩) (by assumption) ?_
                    rotate_left
                    focus (intro w' hSw; (try dsimp only at hSw); go_simp; try with_reducible rfl)
                    (try simp only [Act.put, List.setIfInBounds_toArray, List.set_cons_zero, List.set_cons_succ, List.getElem_toArray, List.getElem_cons_succ, List.getElem_cons_zero])
                    refine wpAnyH_take (i := 19) (oi := _) (v := ?_) rfl (by kernel_rfl) (by kernel_rfl) (by kernel_rfl) (fun _ _ _ h => h) (Or.inl ⟨by rfl, ?_⟩) (by assumption) ?_
                    rotate_left
                    focus (intro w' hSw; (try dsimp only at hSw); go_simp; try with_reducible rfl)
                    (try simp only [Act.put, List.setIfInBounds_toArray, List.set_cons_zero, List.set_cons_succ, List.getElem_toArray, List.getElem_cons_succ, List.getElem_cons_zero])
                    refine wpAnyH_take (i := 20) (oi := _) (v := ?_) rfl (by kernel_rfl) (by kernel_rfl) (by kernel_rfl) (fun _ _ _ h => h) (Or.inl ⟨by rfl, ?_⟩) (by assumption) ?_
                    rotate_left
                    focus (intro w' hSw; (try dsimp only at hSw); go_simp; try with_reducible rfl)
                    (try simp only [Act.put, List.setIfInBounds_toArray, List.set_cons_zero, List.set_cons_succ, List.getElem_toArray, List.getElem_cons_succ, List.getElem_cons_zero])
                    refine wpAnyH_take (i := 21) (oi := _) (v := ?_) rfl (by kernel_rfl) (by kernel_rfl) (by kernel_rfl) (fun _ _ _ h => h) (Or.inl ⟨by rfl, ?_⟩) (by assumption) ?_
                    rotate_left
                    focus (intro w' hSw; (try dsimp only at hSw); go_simp; try with_reducible rfl)
                    (try simp only [Act.put, List.setIfInBounds_toArray, List.set_cons_zero, List.set_cons_succ, List.getElem_toArray, List.getElem_cons_succ, List.getElem_cons_zero])
                    refine wpAnyH_take (i := 22) (oi := _) (v := ?_) rfl (by kernel_rfl) (by kernel_rfl) (by kernel_rfl) (fun _ _ _ h => h) (Or.inl ⟨by rfl, ?_⟩) (by assumption) ?_
                    rotate_left
                    focus (intro w' hSw; (try dsimp only at hSw); go_simp; try with_reducible rfl)
                    (try simp only [Act.put, List.setIfInBounds_toArray, List.set_cons_zero, List.set_cons_succ, List.getElem_toArray, List.getElem_cons_succ, List.getElem_cons_zero])
                    refine wpAnyH_done (by kernel_rfl) ?_ _
                    go_simp
                    go_wp2_with fail
                    go_roundw
                    case rel => exact ⟨j + 1, by go_num, by omega, by omega, by rw [HL2.out], HB9.out⟩
                    case measure => simp [intOf]; omega
            · obtain rfl : j = ms.length := by omega
              have hltJ : ¬ ((ms.length : Int) < (ms.length : Int)) := by omega
              have HBL := Lib.hid (HB7.out.trans (HBj.out.mono HB7.out.size))
              have HTI := Lib.hid (told_iff (s := s) HMI.out)
              have hmo := HM.out.each m (List.mem_of_getElem? HMI.out)
              have HTK : Hid (m.t.kd = m.kd) := by obtain ⟨ps, e⟩ := DvIs.mk hmo.dv; show _ = _; rw [e]; rfl
              have htpz : m.tp.size ≤ 1048576 := by have := hmo.wt; omega
              obtain ⟨x0, x1, x2, x3, x4, x5, x6, x7, x8, x9, x10, x11, x12, xb⟩ := HM.out.at_ HMI.out HBv.out
              clear hmo
              cases hl : lastB ms i m ms.length with
              | false =>
                have HN2 : Hid (toldN ms s (i + 1) = tn) := by show _ = _; rw [toldN_no (fun h => by have := ((HTI.out).1 h).1.1; rw [hl] at this; cases this), HTN.out]
                clear hl
                go_wp2_with fail
                go_roundw
                case rel => exact ⟨i + 1, by go_num, by omega, by rw [HN2.out], HBL.out⟩
                case measure => simp [intOf]; omega
              | true =>
                by_cases hk0 : m.kd = 0
                · have hk0b : (m.kd == 0) = true := by simp [hk0]
                  have HN2 : Hid (toldN ms s (i + 1) = tn) := by show _ = _; rw [toldN_no (fun h => ((HTI.out).1 h).1.2 (HTK.out.trans hk0)), HTN.out]
                  clear hl hk0
                  go_wp2_with fail
                  go_roundw
                  case rel => exact ⟨i + 1, by go_num, by omega, by rw [HN2.out], HBL.out⟩
                  case measure => simp [intOf]; omega
                · have hk0b : (m.kd == 0) = false := by simp [hk0]
                  have CM := Lib.hid (topicMatch_any indexByte_said valid_said contains_said dollar_said s m.tp wr hs htpz (HT.out.below HBv.out))
                  have HLL := Lib.hid hl
                  have HK0 := Lib.hid (fun e => hk0 (HTK.out.symm.trans e) : m.t.kd ≠ 0)
                  clear hl hk0
                  go_wp2_with fail
                  refine CM.out.mono ?_
                  rintro e w8 ⟨rfl, hb8⟩
                  have HBL2 := Lib.hid (HBL.out.trans (hb8.mono HBL.out.size))
                  have HBv8 := Lib.hid (HBv.out.trans (hb8.mono HBv.out.size))
                  clear hb8 x0 x1 x2 x3 x4 x5 x6 x7 x8 x9 x10 x11 x12 xb HBL
                  have HBL := HBL2
                  cases hmb : matchB s m.tp with
                  | false =>
                    have HN2 : Hid (toldN ms s (i + 1) = tn) := by show _ = _; rw [toldN_no (fun h => by have := ((HTI.out).1 h).2.1; rw [hmb] at this; cases this), HTN.out]
                    clear hmb
                    go_wp2_with fail
                    go_roundw
                    case rel => exact ⟨i + 1, by go_num, by omega, by rw [HN2.out], HBL.out⟩
                    case measure => simp [intOf]; omega
                  | true =>
                    have HMB := Lib.hid hmb
                    have CSP : Hid (Calls Tryz.prog 17 #[.string s] w8 fun e w' => e = .returned (splitV s) ∧ Below w8.heap.size w8 w') := split_any s w8 hs (HT.out.below HBv8.out)
                    clear hmb
                    cases hk : splitK s with
                    | none =>
                      have HSV := Lib.hid (split_no hk)
                      have HNP : Hid (¬ Told ms s i) := fun h => by obtain ⟨x, hx⟩ := ((HTI.out).1 h).2.2.1; rw [hk] at hx; cases hx
                      clear hk
                      go_wp2_with fail
                      refine CSP.out.mono ?_
                      rintro e w9 ⟨rfl, hb9⟩
                      rw [HSV.out]
                      have HBL3 := Lib.hid (HBL.out.trans (hb9.mono HBL.out.size))
                      clear hb9 HBL
                      have HBL := HBL3
                      have HN2 : Hid (toldN ms s (i + 1) = tn) := by show _ = _; rw [toldN_no (fun h => HNP.out h), HTN.out]
                      skip
                      go_wp2_with fail
                      go_roundw
                      case rel => exact ⟨i + 1, by go_num, by omega, by rw [HN2.out], HBL.out⟩
                      case measure => simp [intOf]; omega
                    | some sp =>
                      obtain ⟨spn, spf⟩ := sp
                      have HSV := Lib.hid (split_yes hk)
                      have hpi := pfx_iff s
                      cases hpx : Lib.hasPrefix s.data.toList pfx with
                      | true =>
                        have HNP : Hid (¬ Told ms s i) := fun h => by have := ((HTI.out).1 h).2.2.2; rw [hpx] at this; cases this
                        rw [hpx] at hpi
                        have h2 := (Bool.and_eq_true _ _ ▸ hpi.symm : decide (7 ≤ s.size) = true ∧ ((s.extract 0 7).toList == pfx) = true)
                        have h7 : (6 : Int) < (s.size : Int) := by have := of_decide_eq_true h2.1; omega
                        have hq : ((s.extract 0 7).toList == [36, 115, 104, 97, 114, 101, 47]) = true := h2.2
                        clear hk hpx hpi h2
                        go_wp2_with fail
                        refine CSP.out.mono ?_
                        rintro e w9 ⟨rfl, hb9⟩
                        rw [HSV.out]
                        have HBL3 := Lib.hid (HBL.out.trans (hb9.mono HBL.out.size))
                        clear hb9 HBL
                        have HBL := HBL3
                        have HN2 : Hid (toldN ms s (i + 1) = tn) := by show _ = _; rw [toldN_no (fun h => HNP.out h), HTN.out]
                        skip
                        go_wp2_with fail
                        go_roundw
                        case rel => exact ⟨i + 1, by go_num, by omega, by rw [HN2.out], HBL.out⟩
                        case measure => simp [intOf]; omega
                      | false =>
                        have HYES : Hid (Told ms s i) := (HTI.out).2 ⟨⟨HLL.out, HK0.out⟩, HMB.out, ⟨(spn, spf), hk⟩, hpx⟩
                        have HFND : Hid (∃ (k : Nat) (x : Mg), out[k]? = some x ∧ x.am = m.am) := by
                          have h := told_mem HK5.out ((last_told HMI.out).2 ⟨HLL.out, HK0.out⟩) HMB.out ⟨⟨(spn, spf), hk⟩, hpx⟩
                          obtain ⟨x, hx, e⟩ := List.mem_map.1 h
                          obtain ⟨k, hk2, e2⟩ := List.mem_iff_getElem.1 hx
                          exact ⟨k, x, by rw [List.getElem?_eq_getElem hk2, e2], e⟩
                        have hor : s.size ≤ 6 ∨ (6 < s.size ∧ ((s.extract 0 7).toList == pfx) = false) := by
                          rcases Nat.lt_or_ge 6 s.size with h6 | h6
                          · refine .inr ⟨h6, ?_⟩
                            rw [hpx] at hpi
                            cases hq : ((s.extract 0 7).toList == pfx) with
                            | false => rfl
                            | true =>
                              rw [hq, Bool.and_true] at hpi
                              have := of_decide_eq_false hpi.symm
                              omega
                          · exact .inl h6
                        have HOR := Lib.hid hor
                        clear hk hpx hpi hor
                        go_wp2_with fail
                        refine CSP.out.mono ?_
                        rintro e w9 ⟨rfl, hb9⟩
                        rw [HSV.out]
                        have HBL3 := Lib.hid (HBL.out.trans (hb9.mono HBL.out.size))
                        clear hb9 HBL
                        go_upto_region 19 with fail
                        go_cut [117] (fun s117 wx => s117 = .bool false ∧ wx = w9)
                        case first =>
                          rcases HOR.out with h6 | ⟨h6, hq⟩
                          · have h6I : ¬ (6 : Int) < (s.size : Int) := by omega
                            go_wp2_with fail
                            go_meet
                            exact ⟨rfl, rfl⟩
                          · have h6I : (6 : Int) < (s.size : Int) := by omega
                            have hq : ((s.extract 0 7).toList == [36, 115, 104, 97, 114, 101, 47]) = false := hq
                            go_wp2_with fail
                            go_meet
                            exact ⟨rfl, rfl⟩
                        case rest =>
                          obtain ⟨rfl, hwx⟩ := hcut
                          rw [hwx]
                          clear hwx
                          have HBv9 := Lib.hid (HB5.out.trans (HBL3.out.mono HB5.out.size))
                          have HOLL := HOL.out
                          go_wp2_with fail
                          go_loopw [15, 16] (fun s15 s16 wr => ∃ (k : Nat) (fb : Bool), s16 = .int .i64 (k : Nat) ∧ k ≤ out.length ∧ s15 = .bool fb ∧ Hid (fb = true ↔ ∃ (k' : Nat) (x : Mg), k' < k ∧ out[k']? = some x ∧ x.am = m.am) ∧ Hid (Below w5.heap.size w5 wr)) (fun _ s16 _ => out.length - (intOf s16).toNat)
                          case atStart => exact ⟨0, false, rfl, Nat.zero_le _, rfl, Iff.intro (fun h => by cases h) (fun ⟨k', x, h, _⟩ => absurd h (Nat.not_lt_zero k')), HBL3.out⟩
                          case round =>
                            obtain ⟨k, fb, rfl, hkl, rfl, HF, HBk⟩ := hrel
                            have HBkv := Lib.hid (HB5.out.trans (HBk.out.mono HB5.out.size))
                            by_cases hlt4 : k < out.length
                            · obtain ⟨x, hx⟩ : ∃ x, out[k]? = some x := ⟨_, List.getElem?_eq_getElem hlt4⟩
                              obtain ⟨kb, ko, rfl⟩ := fl_ptr HROW.out (by omega)
                              have hltK : (k : Int) < (out.length : Int) := by omega
                              have hk0 : (0 : Int) ≤ (k : Int) := by omega
                              have HX := Lib.hid hx
                              cases fb with
                              | true =>
                                have HE2 : Hid (∃ (k' : Nat) (x : Mg), k' < k + 1 ∧ out[k']? = some x ∧ x.am = m.am) := by obtain ⟨k', y, h1, h2⟩ := HF.out.1 rfl; exact ⟨k', y, by omega, h2⟩
                                clear hx
                                go_wp2_with fail
                                go_quiet (fail)
                                go_wp2_with fail
                                go_roundw
                                case rel => exact ⟨k + 1, true, by go_num, by omega, rfl, Iff.intro (fun _ => HE2.out) (fun _ => rfl), ⟨HBk.out.os, HBk.out.tape, HBk.out.output, HBk.out.size, HBk.out.block⟩⟩
                                case measure => simp [intOf]; omega
                              | false =>
                                have HSS : Hid (∀ W, Below w5.heap.size w5 W → W.cell? ⟨kb, ko + k * 13, none⟩ = some (.int .i64 x.id) ∧ W.cell? ⟨kb, ko + k * 13 + 1, none⟩ = some (.string x.tp) ∧ W.cell? ⟨kb, ko + k * 13 + 2, none⟩ = some (.int .i64 x.kd) ∧ W.cell? ⟨kb, ko + k * 13 + 3, none⟩ = some (.int .i64 x.di) ∧ W.cell? ⟨kb, ko + k * 13 + 4, none⟩ = some (.int .u64 x.db) ∧ W.cell? ⟨kb, ko + k * 13 + 5, none⟩ = some (.string x.ds) ∧ W.cell? ⟨kb, ko + k * 13 + 6, none⟩ = some (.slice x.q x.n x.c) ∧ W.cell? ⟨kb, ko + k * 13 + 7, none⟩ = some (.int .i64 x.at_) ∧ W.cell? ⟨kb, ko + k * 13 + 8, none⟩ = some (.int .i64 x.un) ∧ W.cell? ⟨kb, ko + k * 13 + 9, none⟩ = some (.string x.rp) ∧ W.cell? ⟨kb, ko + k * 13 + 10, none⟩ = some (.int .i64 x.co) ∧ W.cell? ⟨kb, ko + k * 13 + 11, none⟩ = some (.int .i64 x.pr) ∧ W.cell? ⟨kb, ko + k * 13 + 12, none⟩ = some (.int .i64 x.ho) ∧ W.cell? ⟨b, o + i * 13, none⟩ = some (.int .i64 m.id) ∧ W.cell? ⟨b, o + i * 13 + 1, none⟩ = some (.string m.tp) ∧ W.cell? ⟨b, o + i * 13 + 2, none⟩ = some (.int .i64 m.kd) ∧ W.cell? ⟨b, o + i * 13 + 3, none⟩ = some (.int .i64 m.di) ∧ W.cell? ⟨b, o + i * 13 + 4, none⟩ = some (.int .u64 m.db) ∧ W.cell? ⟨b, o + i * 13 + 5, none⟩ = some (.string m.ds) ∧ W.cell? ⟨b, o + i * 13 + 6, none⟩ = some (.slice m.q m.n m.c) ∧ W.cell? ⟨b, o + i * 13 + 7, none⟩ = some (.int .i64 m.at_) ∧ W.cell? ⟨b, o + i * 13 + 8, none⟩ = some (.int .i64 m.un) ∧ W.cell? ⟨b, o + i * 13 + 9, none⟩ = some (.string m.rp) ∧ W.cell? ⟨b, o + i * 13 + 10, none⟩ = some (.int .i64 m.co) ∧ W.cell? ⟨b, o + i * 13 + 11, none⟩ = some (.int .i64 m.pr) ∧ W.cell? ⟨b, o + i * 13 + 12, none⟩ = some (.int .i64 m.ho)) := fun W hb => by
                                  obtain ⟨x0, x1, x2, x3, x4, x5, x6, x7, x8, x9, x10, x11, x12, -⟩ := fl_at HROW.out hx hb
                                  obtain ⟨y0, y1, y2, y3, y4, y5, y6, y7, y8, y9, y10, y11, y12, -⟩ := HM.out.at_ HMI.out (HB5.out.trans (hb.mono HB5.out.size))
                                  exact ⟨x0, x1, x2, x3, x4, x5, x6, x7, x8, x9, x10, x11, x12, y0, y1, y2, y3, y4, y5, y6, y7, y8, y9, y10, y11, y12⟩
                                have hbw1 : kb < wr.heap.size := by obtain ⟨-, -, -, -, -, -, -, -, -, -, -, -, -, h⟩ := fl_at HROW.out hx HBk.out; exact h
                                have hbw2 : b < wr.heap.size := by obtain ⟨-, -, -, -, -, -, -, -, -, -, -, -, -, h⟩ := HM.out.at_ HMI.out HBkv.out; exact h
                                have CS : Hid (Calls Tryz.prog 18 #[.agg #[.int .i64 x.id, .string x.tp, .int .i64 x.kd, .int .i64 x.di, .int .u64 x.db, .string x.ds, .slice x.q x.n x.c, .int .i64 x.at_, .int .i64 x.un, .string x.rp, .int .i64 x.co, .int .i64 x.pr, .int .i64 x.ho], .agg #[.int .i64 m.id, .string m.tp, .int .i64 m.kd, .int .i64 m.di, .int .u64 m.db, .string m.ds, .slice m.q m.n m.c, .int .i64 m.at_, .int .i64 m.un, .string m.rp, .int .i64 m.co, .int .i64 m.pr, .int .i64 m.ho]] wr.drew fun e w' => ∃ b : Bool, e = .returned (.bool b) ∧ (b = true ↔ x.am = m.am) ∧ Below wr.drew.heap.size wr.drew w') := sameMsg_any wr.drew x m ((HDV.out x (List.mem_of_getElem? hx)).below HBk.out.drew) ((HM.out.each m (List.mem_of_getElem? HMI.out)).dv.below HBkv.out.drew)
                                clear hx
                                go_wp2_with fail
                                go_region_held3 (fun W => W.cell? ⟨kb, ko + k * 13, none⟩ = some (.int .i64 x.id) ∧ W.cell? ⟨kb, ko + k * 13 + 1, none⟩ = some (.string x.tp) ∧ W.cell? ⟨kb, ko + k * 13 + 2, none⟩ = some (.int .i64 x.kd) ∧ W.cell? ⟨kb, ko + k * 13 + 3, none⟩ = some (.int .i64 x.di) ∧ W.cell? ⟨kb, ko + k * 13 + 4, none⟩ = some (.int .u64 x.db) ∧ W.cell? ⟨kb, ko + k * 13 + 5, none⟩ = some (.string x.ds) ∧ W.cell? ⟨kb, ko + k * 13 + 6, none⟩ = some (.slice x.q x.n x.c) ∧ W.cell? ⟨kb, ko + k * 13 + 7, none⟩ = some (.int .i64 x.at_) ∧ W.cell? ⟨kb, ko + k * 13 + 8, none⟩ = some (.int .i64 x.un) ∧ W.cell? ⟨kb, ko + k * 13 + 9, none⟩ = some (.string x.rp) ∧ W.cell? ⟨kb, ko + k * 13 + 10, none⟩ = some (.int .i64 x.co) ∧ W.cell? ⟨kb, ko + k * 13 + 11, none⟩ = some (.int .i64 x.pr) ∧ W.cell? ⟨kb, ko + k * 13 + 12, none⟩ = some (.int .i64 x.ho) ∧ W.cell? ⟨b, o + i * 13, none⟩ = some (.int .i64 m.id) ∧ W.cell? ⟨b, o + i * 13 + 1, none⟩ = some (.string m.tp) ∧ W.cell? ⟨b, o + i * 13 + 2, none⟩ = some (.int .i64 m.kd) ∧ W.cell? ⟨b, o + i * 13 + 3, none⟩ = some (.int .i64 m.di) ∧ W.cell? ⟨b, o + i * 13 + 4, none⟩ = some (.int .u64 m.db) ∧ W.cell? ⟨b, o + i * 13 + 5, none⟩ = some (.string m.ds) ∧ W.cell? ⟨b, o + i * 13 + 6, none⟩ = some (.slice m.q m.n m.c) ∧ W.cell? ⟨b, o + i * 13 + 7, none⟩ = some (.int .i64 m.at_) ∧ W.cell? ⟨b, o + i * 13 + 8, none⟩ = some (.int .i64 m.un) ∧ W.cell? ⟨b, o + i * 13 + 9, none⟩ = some (.string m.rp) ∧ W.cell? ⟨b, o + i * 13 + 10, none⟩ = some (.int .i64 m.co) ∧ W.cell? ⟨b, o + i * 13 + 11, none⟩ = some (.int .i64 m.pr) ∧ W.cell? ⟨b, o + i * 13 + 12, none⟩ = some (.int .i64 m.ho)) (first | exact HSS.out _ HBk.out | exact HSS.out _ HBk.out.drew | exact HSS.out _ HBq.out) (first
                                  | (go_at_call 18; (with_reducible refine CS.out.mono ?_); rintro e wq ⟨sb, rfl, hsb, hbq⟩; have HSB := Lib.hid hsb; have HBq := Lib.hid (HBk.out.drew.trans (hbq.mono HBk.out.size)); clear hsb hbq))
                                have HF2 : Hid (sb = true ↔ ∃ (k' : Nat) (y : Mg), k' < k + 1 ∧ out[k']? = some y ∧ y.am = m.am) := by
                                  show _ ↔ _
                                  rw [HSB.out]
                                  constructor
                                  · intro h; exact ⟨k, x, Nat.lt_succ_self k, HX.out, h⟩
                                  · rintro ⟨k', y, h1, h2, h3⟩
                                    rcases Nat.lt_or_ge k' k with h4 | h4
                                    · have := HF.out.2 ⟨k', y, h4, h2, h3⟩
                                      cases this
                                    · obtain rfl : k' = k := by omega
                                      rw [HX.out] at h2
                                      injection h2 with h2
                                      subst h2
                                      exact h3
                                go_simp
                                go_wp2_with fail
                                go_roundw
                                case rel => exact ⟨k + 1, sb, by go_num, by omega, rfl, HF2.out, HBq.out⟩
                                case measure => simp [intOf]; omega
                            · have hltK : ¬ ((k : Int) < (out.length : Int)) := by omega
                              obtain rfl : fb = true := by
                                obtain ⟨k', x, h1, h2⟩ := HFND.out
                                exact HF.out.2 ⟨k', x, by have := (List.getElem?_eq_some_iff.1 h1).1; omega, h1, h2⟩
                              have HN2 : Hid (toldN ms s (i + 1) = tn + 1) := by show _ = _; rw [toldN_yes HYES.out, HTN.out]
                              go_wp2_with fail
                              go_roundw
                              case rel => exact ⟨i + 1, by go_num, by omega, by (rw [HN2.out]; first | rfl | go_num), HBk.out⟩
                              case measure => simp [intOf]; omega
        · have hltI : ¬ ((i : Int) < (ms.length : Int)) := by omega
          obtain rfl : i = ms.length := by omega
          have HLN : Hid (tn = out.length) := by
            have h := told_all HK5.out
            rw [List.length_map] at h
            show tn = out.length
            rw [h, HTN.out]
          have hle : ((out.length : Int) == (tn : Int)) = true := by rw [HLN.out]; simp
          rw [HLN.out]
          go_wp2_with fail
          refine (shAwake_any wr (HT.out.below HBw.out)).mono ?_
          rintro e w10 ⟨rfl, hb10⟩
          have HB10 := Lib.hid (HBw.out.trans (hb10.mono HBw.out.size))
          clear hb10
          go_wp2_with fail
          rw [← HPP.out]
          exact ⟨rfl, HB10.out⟩
end
section
open Go Go.ChangeShapes Go.WideShapes Go.ChangeAt Go.RowKit Go.Deep
variable {H : Type} {enc_ : TypeId × Value → H} {w : World} {base : Nat} {spare : Nat → Bool} {held : Bool}
theorem read_msg30 {fuel : Nat} {cs : List Value} {x : DataW H × List MemPlace} (h : DataW.trod enc_ Tryz.prog w base spare held fuel 36 cs = some x) (hb : Rows.uptoBulk x.1 ≤ 1048576) : ∃ m : Mg, cs = m.cells ∧ MgOk w m := by
  obtain ⟨kk, mid, at_, un, co, pr, hp, tp, rp, kd, di, db, ds, q, n, c, ps, e, hdv, hwt, hok⟩ := read_mv _ _ _ h
  exact ⟨⟨mid, tp, kd, di, db, ds, q, n, c, at_, un, rp, co, pr, hp, .mk kd di db ds ps, kk⟩, e, hdv, Nat.le_trans hwt hb, hok⟩
theorem read_msgs {fuel : Nat} {c : Value} {x : DataW H × List MemPlace} (h : DataW.trod enc_ Tryz.prog w base spare held fuel 30 [c] = some x) (hb : Rows.uptoBulk x.1 ≤ 1048576) : ∃ L : List Mg, MsgsIn w c L := by
  obtain ⟨n, ys, -, hfl, hel, hsum⟩ := rd_flat Tryz.underlying30 co_Msg (by decide) h
  have key : ∀ ys : List (List Value × (DataW H × List MemPlace)), Rows.uptoBulkAll (ys.map (·.2.1)) ≤ 1048576 → (∀ y ∈ ys, y.1.length = 13 ∧ DataW.trod enc_ Tryz.prog w base spare held n 36 y.1 = some y.2) →
      ∃ L : List Mg, L.length = ys.length ∧ (ys.map (·.1)).flatten = rowM L ∧ ∀ m ∈ L, MgOk w m := by
    intro ys
    induction ys with
    | nil => intro _ _; exact ⟨[], rfl, rfl, fun a ha => (List.not_mem_nil ha).elim⟩
    | cons y ys ih =>
      intro hbk hy
      simp only [List.map_cons, Rows.uptoBulkAll] at hbk
      obtain ⟨L, h1, h2, h3⟩ := ih (by omega) fun z hz => hy z (List.mem_cons_of_mem _ hz)
      obtain ⟨-, ht⟩ := hy y (List.mem_cons_self ..)
      obtain ⟨m, e, hm⟩ := read_msg30 ht (by omega)
      refine ⟨m :: L, by simp [h1], ?_, fun b hb => ?_⟩
      · rw [List.map_cons, List.flatten_cons, h2, e]; rfl
      · rcases List.mem_cons.1 hb with rfl | hb
        · exact hm
        · exact h3 b hb
  obtain ⟨L, h1, h2, h3⟩ := key ys (by omega) hel
  have hl := bulk_len (ys.map (·.2.1))
  rw [List.length_map] at hl
  rw [← h1, h2] at hfl
  exact ⟨L, hfl, by omega, h3⟩
end
end Go.Proofs.YtincmegllckcjaaGreatDoor
