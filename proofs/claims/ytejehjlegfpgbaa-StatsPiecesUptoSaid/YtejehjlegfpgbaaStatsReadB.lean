/- STATS: the book of any events, walked. -/
import Derived.Test.YtejehjlegfpgbaaStatsAsk
namespace Go.Proofs.Ytejehjlegfpgbaa
open Go Go.RowKit Go.Maps

theorem info_counts : (Try.prog.info? 30).map (fun i => (i.zero, i.size, i.bytes)) = some (some (.agg zero9), 9, 72) := by kernel_rfl
theorem info_rows : (Try.prog.info? 32).map (fun i => (i.zero, i.size, i.bytes)) = some (some (.slice none 0 0), 1, 24) := by kernel_rfl
theorem mk_counts (N : Nat) (hN : N ≤ 64) (w : World) : (Instr.makeSlice 25 (.int .i64 (N : Int)) (.int .i64 (N : Int))).run Try.prog w = .ok (.slice (some ⟨w.heap.size, 0, none⟩) N N) (w.alloc (.cells (madeCells zero9 (N * 9)) 30)) := by
  obtain ⟨i0, hi, hz0, hz1, hz2⟩ := info_parts info_counts
  have h := run_make w 25 30 i0 _ Try.underlying25 hi hz0 .i64 .i64 N N (by omega) (by omega) (by rw [hz2]; omega) (by omega)
  rw [hz1] at h
  exact h
theorem mk_rows (N : Nat) (hN : N ≤ 64) (w : World) : (Instr.makeSlice 27 (.int .i64 (N : Int)) (.int .i64 (N : Int))).run Try.prog w = .ok (.slice (some ⟨w.heap.size, 0, none⟩) N N) (w.alloc (.cells (madeCells #[.slice none 0 0] N) 32)) := by
  obtain ⟨i0, hi, hz0, hz1, hz2⟩ := info_parts info_rows
  have h := run_make w 27 32 i0 _ Try.underlying27 hi hz0 .i64 .i64 N N (by omega) (by omega) (by rw [hz2]; omega) (by omega)
  rw [hz1, Nat.mul_one] at h
  exact h
def many (n : Int) : Nat := (min (max n 0) 64).toNat
def ReadPost (w : World) (N : Nat) (s : St) (r : Ending) (w' : World) : Prop :=
  ∃ gB gC gW gM m V, r = .returned (.pointer (some ⟨gB, 0, none⟩)) ∧ Below w.heap.size w w' ∧ w.heap.size ≤ gB ∧ w.heap.size ≤ gC ∧ w.heap.size ≤ gW ∧ w.heap.size ≤ gM ∧ BK w' (w.heap.size + 4) gB gC gW gM N m V s
/-- the book has been made -/
def Made (w : World) (N m : Nat) (s : St) (u : Value) (W : World) : Prop :=
  u = .pointer (some ⟨w.heap.size + 3, 0, none⟩) ∧ ∃ gC gW gM V, Below w.heap.size w W ∧ w.heap.size ≤ gC ∧ w.heap.size ≤ gW ∧ w.heap.size ≤ gM ∧ BK W (w.heap.size + 4) (w.heap.size + 3) gC gW gM N m V s

theorem q0 (w : World) (A B C D : Obj) : ((((w.alloc A).alloc B).alloc C).alloc D).heap[w.heap.size]? = (w.alloc A).heap[w.heap.size]? := by
  rw [Below.heap_alloc _ D _ (by simp <;> omega), Below.heap_alloc _ C _ (by simp <;> omega), Below.heap_alloc _ B _ (by simp)]
theorem q1 (w : World) (A B C D : Obj) : ((((w.alloc A).alloc B).alloc C).alloc D).heap[w.heap.size + 1]? = ((w.alloc A).alloc B).heap[(w.alloc A).heap.size]? := by
  rw [Below.heap_alloc _ D _ (by simp <;> omega), Below.heap_alloc _ C _ (by simp), World.size_alloc]
theorem q2 (w : World) (A B C D : Obj) : ((((w.alloc A).alloc B).alloc C).alloc D).heap[w.heap.size + 1 + 1]? = (((w.alloc A).alloc B).alloc C).heap[((w.alloc A).alloc B).heap.size]? := by
  rw [Below.heap_alloc _ D _ (by simp), World.size_alloc, World.size_alloc]
theorem q3 (w : World) (A B C D : Obj) : ((((w.alloc A).alloc B).alloc C).alloc D).heap[w.heap.size + 1 + 1 + 1]? = ((((w.alloc A).alloc B).alloc C).alloc D).heap[(((w.alloc A).alloc B).alloc C).heap.size]? := by
  rw [World.size_alloc, World.size_alloc, World.size_alloc]
theorem below4 (w : World) (A B C D : Obj) : Below w.heap.size w ((((w.alloc A).alloc B).alloc C).alloc D).drew :=
  (((((Below.refl _ _).alloc (Nat.le_refl _) _).alloc (by simp) _).alloc (by simp <;> omega) _).alloc (by simp <;> omega) _).drew
theorem made_perm {w W : World} {N gC gW gM : Nat} (hN : N ≤ 64) (hs : W.heap.size = w.heap.size + 4) (hb : Below w.heap.size w W)
    (hB : W.heap[w.heap.size + 1 + 1 + 1]? = some (.cells #[.slice (some ⟨gC, 0, none⟩) N N, .slice (some ⟨gW, 0, none⟩) N N, .map (some gM)] 53 (0, 0)))
    (hC : W.heap[gC]? = some (.cells (madeCells zero9 (N * 9)) 30 (0, 0))) (hW : W.heap[gW]? = some (.cells (madeCells #[.slice none 0 0] N) 32 (0, 0)))
    (hM : W.heap[gM]? = some (.map #[] 0)) (h1 : w.heap.size ≤ gC ∧ w.heap.size ≤ gW ∧ w.heap.size ≤ gM) : Made w N 0 startS (.pointer (some ⟨w.heap.size + 1 + 1 + 1, 0, none⟩)) W := by
  have lt : ∀ {g : Nat} {o : Obj}, W.heap[g]? = some o → g < w.heap.size + 4 := fun {g o} h => by rw [← hs]; exact (Array.getElem?_eq_some_iff.1 h).1
  refine ⟨rfl, gC, gW, gM, _, hb, h1.1, h1.2.1, h1.2.2, bk_start hN ⟨by omega, lt hC, lt hW, lt hM, by omega⟩ ⟨fun e => ?_, fun e => ?_, fun e => ?_, fun e => ?_, fun e => ?_, fun e => ?_⟩ hB hC hW hM⟩
  · rw [← e] at hC; have := hB.symm.trans hC; simp at this
  · rw [← e] at hW; have := hB.symm.trans hW; simp at this
  · rw [← e] at hM; have := hB.symm.trans hM; simp at this
  · rw [← e] at hW; have := hC.symm.trans hW; simp at this
  · rw [← e] at hM; have := hC.symm.trans hM; simp at this
  · rw [← e] at hM; have := hW.symm.trans hM; simp at this

set_option maxRecDepth 100000 in
set_option maxHeartbeats 8000000 in
theorem read_any {w : World} (n : Int) (hn : Wf n) (l : List Ev) {v : Value} (hV : Evs w v l) (hl : l.length ≤ 1048576) (hfit : FitL l) (hid : ∀ e ∈ l, Wf e.i) :
    Calls Try.prog 18 #[.int .i64 n, v] w (ReadPost w (many n) (readS (many n) l)) := by
  obtain ⟨N, hN⟩ : ∃ N, many n = N := ⟨_, rfl⟩
  have hNn : min (max n 0) 64 = (N : Int) := by unfold many at hN; omega
  have hN64 : N ≤ 64 := by omega
  have hmk1 := mk_counts N hN64
  have hmk2 := mk_rows N hN64
  have hmm := @run_makeMap Try.prog
  rw [hN]
  obtain ⟨PP, hPP⟩ : ∃ PP, ReadPost w N (readS N l) = PP := ⟨_, rfl⟩
  rw [hPP]
  have HPP := Lib.hid hPP
  have HV := Lib.hid hV
  have HF := Lib.hid hfit
  have HID := Lib.hid hid
  unfold Wf at hn
  clear hPP hV hfit hid hN
  go_enter Try.func18, Try.ntmps18
  go_upto_region 2 with fail
  have hq : (if 64 < if n < 0 then 0 else n then (64 : Int) else if n < 0 then 0 else n) = (N : Int) := by
    rw [← hNn]
    by_cases h0 : n < 0
    · simp only [h0, if_true]; omega
    · simp only [h0, if_false]; split <;> omega
  rw [hq]
  clear hq hNn
  generalize (if n < 0 then (0 : Int) else n) = n2
  go_cut [5] from 14 (fun u W => Made w N 0 startS u W)
  case first =>
    go_region
    all_goals
      go_wp2_with fail
      go_meet
      case rel =>
        refine made_perm hN64 (by simp) (below4 _ _ _ _ _) ((q3 _ _ _ _ _).trans (heap_alloc_new _ _)) ?_ ?_ ?_ (by omega)
        · first
            | exact (q0 _ _ _ _ _).trans (heap_alloc_new _ _)
            | exact (q1 _ _ _ _ _).trans (heap_alloc_new _ _)
            | exact (q2 _ _ _ _ _).trans (heap_alloc_new _ _)
        · first
            | exact (q0 _ _ _ _ _).trans (heap_alloc_new _ _)
            | exact (q1 _ _ _ _ _).trans (heap_alloc_new _ _)
            | exact (q2 _ _ _ _ _).trans (heap_alloc_new _ _)
        · first
            | exact (q0 _ _ _ _ _).trans (MapKept.heap_alloc _ _).1
            | exact (q1 _ _ _ _ _).trans (MapKept.heap_alloc _ _).1
            | exact (q2 _ _ _ _ _).trans (MapKept.heap_alloc _ _).1
  case rest =>
  obtain ⟨rfl, gC, gW, gM, V, hb, l1, l2, l3, hB⟩ := hcut
  have HB := Lib.hid hB
  have HW := Lib.hid hb
  obtain ⟨p, cap, rfl, hc1, hc2, -⟩ := HV.out
  clear hB hb hmk1 hmk2 hmm
  go_wp2
  go_loopw [26] (fun i W => ∃ k m : Nat, ∃ V, i = .int .i64 (k : Nat) ∧ k ≤ l.length ∧ m ≤ k ∧ Below w.heap.size w W ∧ BK W (w.heap.size + 4) (w.heap.size + 3) gC gW gM N m V (readS N (l.take k))) (fun i _ => l.length - (intOf i).toNat)
  case atStart => exact ⟨0, 0, V, rfl, by omega, by omega, HW.out, HB.out⟩
  case round =>
    obtain ⟨k, m, V, rfl, hk, hm, hb, hB⟩ := hrel
    have HB := Lib.hid hB
    have HW := Lib.hid hb
    by_cases hlt : k < l.length
    · obtain ⟨e, he⟩ : ∃ e, l[k]? = some e := ⟨_, List.getElem?_eq_getElem hlt⟩
      have hem : e ∈ l := List.mem_of_getElem? he
      obtain ⟨b, o, cap', e1, hbl, hcells⟩ := (HV.out.below HW.out).all15 (by omega)
      injection e1 with e1 e2 e3
      subst e1; subst e3
      obtain ⟨d0, d1, d2, d3, d4, d5, d6, d7, d8, d9, d10, d11, d12, d13, d14⟩ := hcells k e he
      have HS := Lib.hid (readS_snoc N l k e he)
      have HI := Lib.hid (HID.out e hem)
      have HFe := Lib.hid (HF.out e hem)
      have CL := Lib.hid (look_any e)
      have g4 : (k : Int) < (l.length : Int) := by omega
      clear hcells he hB hb hem
      have HK := Lib.hid hm
      go_wp2_with fail
      refine (CL.out _).mono ?_
      rintro r' W' ⟨rfl, rfl⟩
      refine k_world (fun W => BK W (w.heap.size + 4) (w.heap.size + 3) gC gW gM N m V (readS N (l.take k)) ∧ Below w.heap.size w W) (by exact ⟨(HB.out.below ((Below.refl _ _).alloc (Nat.le_refl _) _)).below ((Below.refl _ _).alloc (Nat.le_refl _) _), (HW.out.alloc HW.out.size _).alloc (by have := HW.out.size; simp; omega) _⟩) (fun W hW => ?_)
      clear d0 d1 d2 d3 d4 d5 d6 d7 d8 d9 d10 d11 d12 d13 d14 hbl CL HB HW
      have HB := Lib.hid hW.1
      have HW := Lib.hid hW.2
      have hsz : w.heap.size + 4 ≤ W.heap.size := hW.1.lt.2.2.2.2
      clear hW
      have hk7 : e.k = 1 ∨ e.k = 3 ∨ e.k = 4 ∨ e.k = 5 ∨ e.k = 6 ∨ e.k = 7 ∨ (¬ e.k = 1 ∧ ¬ e.k = 3 ∧ ¬ e.k = 4 ∧ ¬ e.k = 5 ∧ ¬ e.k = 6 ∧ ¬ e.k = 7) := by omega
      obtain ⟨LV, hLV⟩ : ∃ LV, lookV e = LV := ⟨_, rfl⟩
      rw [hLV]
      unfold lookV at hLV
      rcases hk7 with hke | hke | hke | hke | hke | hke | hke
      · rw [if_pos hke] at hLV
        subst hLV
        obtain ⟨w', hput, hg, hm'⟩ := ((HB.out.below ((Below.refl _ _).alloc (Nat.le_refl _) (.cells #[.int .i64 e.i, .int .i64 e.a] 63))).drew_).mp.put (by unfold maxLen; omega) HI.out (a := e.a) (by have := HFe.out; unfold FitE at this; unfold Wf; omega)
        have HG := Lib.hid hg
        have HM := Lib.hid hm'
        have HKE := Lib.hid hke
        obtain ⟨b0', b1', b2'⟩ := (HB.out.below ((Below.refl _ _).alloc (Nat.le_refl _) (.cells #[.int .i64 e.i, .int .i64 e.a] 63))).cellB
        have ta := ta_published
        clear hg hm' hke
        go_wp2
        go_region
        all_goals
          go_wp2
          go_roundw
          case rel =>
            refine ⟨k + 1, m + 1, V, by go_num, by omega, by omega, ?_, ?_⟩
            · exact ((HW.out.alloc HW.out.size _).drew).grown HG.out (by have := HW.out.size; simp; omega) (fun q hq => by injection hq with hq; omega)
            · rw [HS.out, step_pub HKE.out]
              exact BK.map ((HB.out.below ((Below.refl _ _).alloc (Nat.le_refl _) _)).drew_) HG.out HM.out
          case measure => simp [intOf]; omega
      · rw [if_neg (by omega), if_pos hke] at hLV
        subst hLV
        have HKE := Lib.hid (show e.k = 3 + ((0 : Nat) : Int) by omega)
        clear hke
        have hB1 := HB.out.below ((Below.refl _ _).alloc (Nat.le_refl _) (.cells #[.int .i64 e.h] 65))
        have HB1 := Lib.hid hB1
        have ta0 := ta_queued_published
        have ta := ta_queued
        by_cases hr : InR N e.h
        · have CO := of_in hB1 hr
          have HR := Lib.hid hr
          have hr1 := hr.1
          have hr2 := hr.2
          obtain ⟨r, hre⟩ : ∃ r, e.h.toNat = r := ⟨_, rfl⟩
          rw [hre] at CO
          have CO := Lib.hid CO
          have hrn : r < N := by omega
          have qc := hB1.cellC (j := r * 9) (by omega)
          have qf := hB1.frozenC
          have HRE := Lib.hid hre
          clear hB1 hr hre
          go_wp2_with fail
          refine CO.out.mono ?_
          rintro r' W' ⟨rfl, rfl⟩
          go_wp2
          go_roundw
          case rel =>
            refine ⟨k + 1, m, V, by go_num, by omega, by omega, (HW.out.alloc HW.out.size _).setCell (p := ⟨gC, r * 9, none⟩) l1 _, ?_⟩
            rw [HS.out, step_kind HKE.out (by omega), if_pos HR.out, HRE.out]
            exact HB1.out.setC (by omega) (wrap64 ((readS N (l.take k)).c (r * 9) + 1)) rfl
          case measure => simp [intOf]; omega
        · have CO := of_out hB1 hr
          unfold zeros at CO
          have CO := Lib.hid CO
          have HR := Lib.hid hr
          clear hB1 hr
          go_wp2_with fail
          refine CO.out.mono ?_
          rintro r' W' ⟨rfl, rfl⟩
          go_wp2
          go_roundw
          case rel =>
            refine ⟨k + 1, m, V, by go_num, by omega, by omega, (HW.out.alloc HW.out.size _).alloc (by have := HW.out.size; simp; omega) _, ?_⟩
            rw [HS.out, step_kind HKE.out (by omega), if_neg HR.out]
            exact HB1.out.below ((Below.refl _ _).alloc (Nat.le_refl _) _)
          case measure => simp [intOf]; omega
      · rw [if_neg (by omega), if_neg (by omega), if_pos hke] at hLV
        subst hLV
        have HKE := Lib.hid (show e.k = 3 + ((1 : Nat) : Int) by omega)
        clear hke
        have hB1 := HB.out.below ((Below.refl _ _).alloc (Nat.le_refl _) (.cells #[.int .i64 e.h] 68))
        have HB1 := Lib.hid hB1
        have ta0 := ta_refused_published
        have ta1 := ta_refused_queued
        have ta := ta_refused
        by_cases hr : InR N e.h
        · have CO := of_in hB1 hr
          have HR := Lib.hid hr
          have hr1 := hr.1
          have hr2 := hr.2
          obtain ⟨r, hre⟩ : ∃ r, e.h.toNat = r := ⟨_, rfl⟩
          rw [hre] at CO
          have CO := Lib.hid CO
          have hrn : r < N := by omega
          have qc := hB1.cellC (j := r * 9 + 1) (by omega)
          have qf := hB1.frozenC
          have HRE := Lib.hid hre
          clear hB1 hr hre
          go_wp2_with fail
          refine CO.out.mono ?_
          rintro r' W' ⟨rfl, rfl⟩
          go_wp2
          go_roundw
          case rel =>
            refine ⟨k + 1, m, V, by go_num, by omega, by omega, (HW.out.alloc HW.out.size _).setCell (p := ⟨gC, r * 9 + 1, none⟩) l1 _, ?_⟩
            rw [HS.out, step_kind HKE.out (by omega), if_pos HR.out, HRE.out]
            exact HB1.out.setC (by omega) (wrap64 ((readS N (l.take k)).c (r * 9 + 1) + 1)) rfl
          case measure => simp [intOf]; omega
        · have CO := of_out hB1 hr
          unfold zeros at CO
          have CO := Lib.hid CO
          have HR := Lib.hid hr
          clear hB1 hr
          go_wp2_with fail
          refine CO.out.mono ?_
          rintro r' W' ⟨rfl, rfl⟩
          go_wp2
          go_roundw
          case rel =>
            refine ⟨k + 1, m, V, by go_num, by omega, by omega, (HW.out.alloc HW.out.size _).alloc (by have := HW.out.size; simp; omega) _, ?_⟩
            rw [HS.out, step_kind HKE.out (by omega), if_neg HR.out]
            exact HB1.out.below ((Below.refl _ _).alloc (Nat.le_refl _) _)
          case measure => simp [intOf]; omega
      · rw [if_neg (by omega), if_neg (by omega), if_neg (by omega), if_pos hke] at hLV
        subst hLV
        have HKE := Lib.hid (show e.k = 3 + ((2 : Nat) : Int) by omega)
        clear hke
        have hB1 := HB.out.below ((Below.refl _ _).alloc (Nat.le_refl _) (.cells #[.int .i64 e.h] 69))
        have HB1 := Lib.hid hB1
        have ta0 := ta_dropped_published
        have ta1 := ta_dropped_queued
        have ta2 := ta_dropped_refused
        have ta := ta_dropped
        by_cases hr : InR N e.h
        · have CO := of_in hB1 hr
          have HR := Lib.hid hr
          have hr1 := hr.1
          have hr2 := hr.2
          obtain ⟨r, hre⟩ : ∃ r, e.h.toNat = r := ⟨_, rfl⟩
          rw [hre] at CO
          have CO := Lib.hid CO
          have hrn : r < N := by omega
          have qc := hB1.cellC (j := r * 9 + 2) (by omega)
          have qf := hB1.frozenC
          have HRE := Lib.hid hre
          clear hB1 hr hre
          go_wp2_with fail
          refine CO.out.mono ?_
          rintro r' W' ⟨rfl, rfl⟩
          go_wp2
          go_roundw
          case rel =>
            refine ⟨k + 1, m, V, by go_num, by omega, by omega, (HW.out.alloc HW.out.size _).setCell (p := ⟨gC, r * 9 + 2, none⟩) l1 _, ?_⟩
            rw [HS.out, step_kind HKE.out (by omega), if_pos HR.out, HRE.out]
            exact HB1.out.setC (by omega) (wrap64 ((readS N (l.take k)).c (r * 9 + 2) + 1)) rfl
          case measure => simp [intOf]; omega
        · have CO := of_out hB1 hr
          unfold zeros at CO
          have CO := Lib.hid CO
          have HR := Lib.hid hr
          clear hB1 hr
          go_wp2_with fail
          refine CO.out.mono ?_
          rintro r' W' ⟨rfl, rfl⟩
          go_wp2
          go_roundw
          case rel =>
            refine ⟨k + 1, m, V, by go_num, by omega, by omega, (HW.out.alloc HW.out.size _).alloc (by have := HW.out.size; simp; omega) _, ?_⟩
            rw [HS.out, step_kind HKE.out (by omega), if_neg HR.out]
            exact HB1.out.below ((Below.refl _ _).alloc (Nat.le_refl _) _)
          case measure => simp [intOf]; omega
      · rw [if_neg (by omega), if_neg (by omega), if_neg (by omega), if_neg (by omega), if_pos hke] at hLV
        subst hLV
        have HKE := Lib.hid (show e.k = 3 + ((3 : Nat) : Int) by omega)
        clear hke
        have hB1 := HB.out.below ((Below.refl _ _).alloc (Nat.le_refl _) (.cells #[.int .i64 e.h] 70))
        have HB1 := Lib.hid hB1
        have ta0 := ta_late_published
        have ta1 := ta_late_queued
        have ta2 := ta_late_refused
        have ta3 := ta_late_dropped
        have ta := ta_late
        by_cases hr : InR N e.h
        · have CO := of_in hB1 hr
          have HR := Lib.hid hr
          have hr1 := hr.1
          have hr2 := hr.2
          obtain ⟨r, hre⟩ : ∃ r, e.h.toNat = r := ⟨_, rfl⟩
          rw [hre] at CO
          have CO := Lib.hid CO
          have hrn : r < N := by omega
          have qc := hB1.cellC (j := r * 9 + 3) (by omega)
          have qf := hB1.frozenC
          have HRE := Lib.hid hre
          clear hB1 hr hre
          go_wp2_with fail
          refine CO.out.mono ?_
          rintro r' W' ⟨rfl, rfl⟩
          go_wp2
          go_roundw
          case rel =>
            refine ⟨k + 1, m, V, by go_num, by omega, by omega, (HW.out.alloc HW.out.size _).setCell (p := ⟨gC, r * 9 + 3, none⟩) l1 _, ?_⟩
            rw [HS.out, step_kind HKE.out (by omega), if_pos HR.out, HRE.out]
            exact HB1.out.setC (by omega) (wrap64 ((readS N (l.take k)).c (r * 9 + 3) + 1)) rfl
          case measure => simp [intOf]; omega
        · have CO := of_out hB1 hr
          unfold zeros at CO
          have CO := Lib.hid CO
          have HR := Lib.hid hr
          clear hB1 hr
          go_wp2_with fail
          refine CO.out.mono ?_
          rintro r' W' ⟨rfl, rfl⟩
          go_wp2
          go_roundw
          case rel =>
            refine ⟨k + 1, m, V, by go_num, by omega, by omega, (HW.out.alloc HW.out.size _).alloc (by have := HW.out.size; simp; omega) _, ?_⟩
            rw [HS.out, step_kind HKE.out (by omega), if_neg HR.out]
            exact HB1.out.below ((Below.refl _ _).alloc (Nat.le_refl _) _)
          case measure => simp [intOf]; omega
      · rw [if_neg (by omega), if_neg (by omega), if_neg (by omega), if_neg (by omega), if_neg (by omega), if_pos hke] at hLV
        subst hLV
        have HKE := Lib.hid hke
        clear hke
        have hB1 := HB.out.below ((Below.refl _ _).alloc (Nat.le_refl _) (.cells (xc e) 72))
        have ta0 := ta_done_published
        have ta1 := ta_done_queued
        have ta2 := ta_done_refused
        have ta3 := ta_done_dropped
        have ta4 := ta_done_late
        have ta := ta_done
        have CD : Calls Try.prog 26 #[.pointer (some ⟨w.heap.size + 3, 0, none⟩), .agg (xc e)] (W.alloc (.cells (xc e) 72)) (DonePost (W.alloc (.cells (xc e) 72)) w.heap.size (w.heap.size + 4) (w.heap.size + 3) gC gW gM N m (doneS N (readS N (l.take k)) e)) := by
          by_cases hr : InR N e.h
          · exact done_in hB1 e hr HI.out HFe.out (fun i t h => pub_fit (fit_take HF.out k) (by rw [readS_f] at h; exact h)) (fun r _ => Nat.le_trans (readS_len N _ r) (by rw [List.length_take]; omega)) ⟨by omega, l1, l2, l3⟩
          · have := done_out hB1 e hr HI.out (b0 := w.heap.size) (by simp; omega)
            have e1 : doneS N (readS N (l.take k)) e = readS N (l.take k) := by unfold doneS; rw [if_neg hr]
            rw [e1]; exact this
        unfold xc at CD
        have CD := Lib.hid CD
        clear hB1
        go_wp2_with fail
        refine CD.out.mono ?_
        rintro r' W' ⟨rfl, hb', V', hB'⟩
        have HB2 := Lib.hid hb'
        have HB3 := Lib.hid hB'
        clear hb' hB'
        go_wp2
        go_roundw
        case rel =>
          refine ⟨k + 1, m, V', by go_num, by omega, by omega, (HW.out.alloc HW.out.size _).trans HB2.out, ?_⟩
          rw [HS.out, step_done HKE.out]
          exact HB3.out
        case measure => simp [intOf]; omega
      · rw [if_neg (by omega), if_neg (by omega), if_neg (by omega), if_neg (by omega), if_neg (by omega), if_neg (by omega)] at hLV
        subst hLV
        have HKE := Lib.hid hke
        clear hke
        have ta0 := ta_nil_published
        have ta1 := ta_nil_queued
        have ta2 := ta_nil_refused
        have ta3 := ta_nil_dropped
        have ta4 := ta_nil_late
        have ta5 := ta_nil_done
        go_wp2
        go_roundw
        case rel =>
          refine ⟨k + 1, m, V, by go_num, by omega, by omega, HW.out, ?_⟩
          rw [HS.out, step_other HKE.out]
          exact HB.out
        case measure => simp [intOf]; omega
    · obtain rfl : k = l.length := by omega
      clear hB hb
      go_wp2
      rw [← HPP.out]
      rw [List.take_length] at HB
      exact ⟨_, gC, gW, gM, m, V, rfl, HW.out, by omega, l1, l2, l3, HB.out⟩
end Go.Proofs.Ytejehjlegfpgbaa
