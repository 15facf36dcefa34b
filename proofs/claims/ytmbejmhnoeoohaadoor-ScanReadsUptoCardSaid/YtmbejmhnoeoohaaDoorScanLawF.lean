/- the law ScanReads, walked. -/
import Derived.Test.YtmbejmhnoeoohaaDoorScanRefScan
import Derived.Test.YtmbejmhnoeoohaaDoorScanLawE
namespace Go.Proofs.YtmbejmhnoeoohaaDoor
open Go Go.RowKit

/-- a store over a byte keeps the tokens -/
theorem Tks.set8 {w : World} {v : Value} {ts : List Tok} (h : Tks w v ts) {a : Addr} {x : Int} (ha : w.cell? a = some (.int .u8 x)) (u : Value) : Tks (w.setCell a u) v ts := by
  obtain ⟨p, cap, hv, h1, h2, hc⟩ := h
  refine ⟨p, cap, hv, h1, h2, fun hn => ?_⟩
  obtain ⟨b, o, hp, hc⟩ := hc hn
  refine ⟨b, o, hp, fun j t hj i y hy => ?_⟩
  have h3 := hc j t hj i y hy
  rw [World.cell?_setCell_other]
  · exact h3
  · rintro rfl
    rw [h3] at ha
    injection ha with ha
    have hm := List.mem_of_getElem? hy
    rw [ha] at hm
    simp [tc] at hm
/-- what the loop that overwrites holds on to -/
structure RD (w w3 wr : World) (l : List UInt8) (v v1 : Value) (ts : List Tok) (q k : Nat) : Prop where
  bel : Below w.heap.size w wr
  tk : Tks wr v1 ts
  f0 : wr.cell? ⟨w3.heap.size, 0, none⟩ = some (.int .i64 (q : Nat))
  f1 : wr.cell? ⟨w3.heap.size, 1, none⟩ = some (.int .i64 (k : Nat))
  own : ∃ l' : List UInt8, l'.length = l.length ∧ wr.ownsRow w.heap.size 5 1 v l.length (bc l')
  far : ∀ g, v.ownBlock = some g → g < w3.heap.size
theorem RD.step {w w3 wr : World} {l : List UInt8} {g cap : Nat} {v1 : Value} {ts : List Tok} {q k i : Nat} (h : RD w w3 wr l (.slice (some ⟨g, 0, none⟩) l.length cap) v1 ts q k) (hi : i < l.length) : RD w w3 (wr.setCell ⟨g, i, none⟩ (.int .u8 35)) l (.slice (some ⟨g, 0, none⟩) l.length cap) v1 ts q k := by
  obtain ⟨l', hl, ho⟩ := h.own
  have hlt := ho.lt g rfl
  have hc := ho.cellAt i (by omega)
  have hc2 : (bc l')[i]? = some (.int .u8 ((l'[i]'(by omega)).toNat : Nat)) := by unfold bc; rw [List.getElem?_map, List.getElem?_eq_getElem (by omega)]; rfl
  rw [hc2] at hc
  have hf := h.far g rfl
  refine ⟨h.bel.setCell (p := ⟨g, i, none⟩) hlt.1 _, h.tk.set8 hc _, ?_, ?_, ⟨l'.set i 35, by simpa using hl, ?_⟩, h.far⟩
  · rw [World.cell?_setCell_other]
    · exact h.f0
    · intro e; injection e with e; omega
  · rw [World.cell?_setCell_other]
    · exact h.f1
    · intro e; injection e with e; omega
  · have h5 := (ho.stored i (.int .u8 35)).1
    have e : (bc l').set i (.int .u8 35) = bc (l'.set i 35) := by unfold bc; rw [List.map_set]; rfl
    rw [e] at h5; exact h5
theorem RD.at {w w3 wr : World} {l : List UInt8} {v v1 : Value} {ts : List Tok} {q k i : Nat} (h : RD w w3 wr l v v1 ts q k) (hi : i < l.length) : ∃ g cap x, v = .slice (some ⟨g, 0, none⟩) l.length cap ∧ wr.cell? ⟨g, i, none⟩ = some (.int .u8 x) ∧ ∀ j, wr.frozen? ⟨g, j, none⟩ = false := by
  obtain ⟨l', hl, ho⟩ := h.own
  obtain ⟨g, cap, rfl, _⟩ := ho.form (by omega)
  have hc := ho.cellAt i (by omega)
  have hc2 : (bc l')[i]? = some (.int .u8 ((l'[i]'(by omega)).toNat : Nat)) := by unfold bc; rw [List.getElem?_map, List.getElem?_eq_getElem (by omega)]; rfl
  exact ⟨g, cap, _, rfl, hc.trans hc2, ho.frozenAt⟩
theorem RD.start {w w2 w3 : World} {l : List UInt8} {v v1 : Value} {ts : List Tok} {q k : Nat} (h2 : Below w.heap.size w w2) (ho : w2.ownsRow w.heap.size 5 1 v l.length (bc l)) (h3 : Below w2.heap.size w2 w3) (ht : Tks w3 v1 ts) :
    RD w w3 (w3.alloc (.cells #[.int .i64 (q : Nat), .int .i64 (k : Nat)] 26)) l v v1 ts q k := by
  have hb : Below w.heap.size w w3 := h2.trans (h3.mono h2.size)
  have hn := heap_alloc_new w3 (.cells #[.int .i64 (q : Nat), .int .i64 (k : Nat)] 26)
  refine ⟨hb.alloc hb.size _, ht.below ((Below.refl _ _).alloc (Nat.le_refl _) _), ?_, ?_, ⟨l, rfl, (ownsBelow ho h3).alloc _⟩, fun g e => Nat.lt_of_lt_of_le (ho.lt g e).2 h3.size⟩
  · rw [cell_of_row _ _ _ _ _ _ hn]; rfl
  · rw [cell_of_row _ _ _ _ _ _ hn]; rfl

set_option maxRecDepth 100000 in
set_option maxHeartbeats 4000000 in
theorem scanReads_any (p : Option Addr) (n cap : Nat) (l : List UInt8) (w : World) (hVp : Bs w (.slice p n cap) l ∧ (p = none → cap = 0)) (hl : l.length ≤ 1048576) (hE : Env w) :
    Calls Tryd.prog 3 #[.slice p n cap] w fun e w' => e = .returned (.bool true) ∧ Below w.heap.size w w' := by
  obtain ⟨hV, hp⟩ := hVp
  obtain ⟨i0, hi, hz0, hz1, hz2⟩ := info_parts info_byte
  have HE := Lib.hid hE
  have HV := Lib.hid hV
  obtain ⟨rfl, hc1, hc2⟩ := hV.len
  have CS : Hid (∀ v w2, Below w.heap.size w w2 → Bs w2 v l → Calls Tryd.prog 9 #[v] w2 (ScanPost w2 (scanS l))) := fun v w2 hb h => scan_any v l w2 (HE.out.below hb) h (by omega)
  have CR : Hid (∀ w2, Below w.heap.size w w2 → Calls Tryd.prog 10 #[.slice p l.length cap] w2 (RScanPost w2 (scanS l))) := fun w2 hb => refScan_any _ l w2 (HV.out.below hb) (by omega)
  have hnews : ∀ b o, p = some ⟨b, o, none⟩ → ∀ j u, (bc l)[j]? = some u → w.cell? ((⟨b, o, none⟩ : Addr).add j) = some u := fun b o e => by subst e; exact hV.news
  have hform : 0 < l.length → ∃ b o, p = some ⟨b, o, none⟩ := fun h => by
    obtain ⟨b, o, c, e, _⟩ := hV.form h
    injection e with e; exact ⟨b, o, e⟩
  clear hV hE
  cases hG : scanS l with
  | bad q k =>
    rw [hG] at CS CR
    obtain ⟨hk, hq⟩ := scanS_bad hG
    have hk' : ((k : Int) == 0) = false := beq_eq_false_iff_ne.2 (by omega)
    clear hG
    cases p with
    | none =>
      obtain rfl : l = [] := by
        cases l with
        | nil => rfl
        | cons a r => obtain ⟨b, o, e⟩ := hform (by simp); cases e
      obtain rfl : cap = 0 := hp rfl
      clear hform hnews hp
      go_enter Tryd.func3, Tryd.ntmps3
      go_wp2_with fail
      have hown : w.ownsRow w.heap.size 5 1 (.slice none 0 0) ([] : List UInt8).length (bc []) := World.ownsRow_nil _ _ _ _
      have hBO : Bs w (.slice none 0 0) ([] : List UInt8) := Bs.of_own hown
      have hb2 := Below.refl w.heap.size w
      have hb0 : w = w := rfl
      have HO2 := Lib.hid hown
      have HB2 := Lib.hid hb2
      have HBO := Lib.hid hBO
      refine (CS.out _ _ hb2 hBO).mono ?_
      clear hown hb2 hBO
      rintro e w3 ⟨hb3, he⟩
      have he' : e = .returned (.tuple #[.slice none 0 0, .agg #[.int .i64 (q : Nat), .int .i64 (k : Nat)]]) := he
      subst he'
      have hT1 : Tks w3 (.slice none 0 0) [] := ⟨none, 0, rfl, Nat.le_refl _, by omega, fun h => by simp at h⟩
      have HRD : Hid (RD w w3 (w3.alloc (.cells #[.int .i64 (q : Nat), .int .i64 (k : Nat)] 26)) [] (.slice none 0 0) (.slice none 0 0) [] q k) := RD.start HB2.out HO2.out hb3 hT1
      have hx1 : ∀ o, (convert 22 9 (.slice none 0 0)).run Tryd.prog (w3.alloc o) = .ok (.string (ba [])) (w3.alloc o) := fun o => ((HBO.out.below hb3).below ((Below.refl _ _).alloc (Nat.le_refl _) o)).text
      have hx2 : ∀ o, (convert 22 9 (.slice none 0 0)).run Tryd.prog (w3.alloc o) = .ok (.string (ba [])) (w3.alloc o) := fun o => (HV.out.below ((HB2.out.trans (hb3.mono HB2.out.size)).alloc (HB2.out.trans (hb3.mono HB2.out.size)).size o)).text
      clear hT1 hb3
      go_wp2
      clear hx1 hx2
      go_loopw [6] (fun i wr => ∃ j : Nat, j ≤ 0 ∧ i = .int .i64 (j : Nat) ∧ Hid (RD w w3 wr [] (.slice none 0 0) (.slice none 0 0) [] q k)) (fun i _ => 0 - (intOf i).toNat)
      case atStart => exact ⟨0, Nat.zero_le _, rfl, HRD⟩
      case round =>
        obtain ⟨j, hj, rfl, HR⟩ := hrel
        by_cases hlt : j < ([] : List UInt8).length
        · exact absurd hlt (by simp)
        · have hlt' : ¬ (j : Int) < 0 := by omega
          go_wp2_with fail
          refine (CR.out _ HR.out.bel).mono ?_
          rintro e w5 ⟨hb5, he⟩
          have he' : e = .returned (.tuple #[.slice none 0 0, .int .i64 (q : Nat), .int .i64 (k : Nat)]) := he
          subst he'
          have h0 := (hb5.cell (p := ⟨w3.heap.size, 0, none⟩) (World.block_lt_of_cell? _ _ HR.out.f0)).trans HR.out.f0
          have h1 := (hb5.cell (p := ⟨w3.heap.size, 1, none⟩) (World.block_lt_of_cell? _ _ HR.out.f1)).trans HR.out.f1
          have HB5 := Lib.hid (HR.out.bel.trans (hb5.mono HR.out.bel.size))
          clear hb5
          go_wp2
          clear h0 h1
          go_loopw [10] (fun i wr => i = .int .i64 0 ∧ Below w5.heap.size w5 wr) (fun i _ => 0)
          case atStart => exact ⟨rfl, Below.refl _ _⟩
          case round =>
            obtain ⟨rfl, hbw⟩ := hrel
            have HBr := Lib.hid (HB5.out.trans (hbw.mono HB5.out.size))
            have HEr := Lib.hid (HE.out.below HBr.out)
            go_wp2_with fail
            refine (awake_any _ HEr.out).mono ?_
            rintro e w8 ⟨rfl, hb8⟩
            go_wp2
            go_ret
            exact ⟨rfl, HBr.out.trans (hb8.mono HBr.out.size)⟩
    | some ad =>
      have hnw : ∀ j u, (bc l)[j]? = some u → w.cell? (ad.add j) = some u := fun j u hu => by
        have hl0 : 0 < l.length := by
          obtain ⟨h, _⟩ := List.getElem?_eq_some_iff.1 hu
          rw [bc_len] at h; omega
        obtain ⟨b, o, e⟩ := hform hl0
        injection e with e; subst e
        exact hnews b o rfl j u hu
      clear hform hnews hp
      go_enter Tryd.func3, Tryd.ntmps3
      go_wp2_with (at_builtin; refine wpList_append_own _ rfl _ _ 22 rfl w.heap.size 5 i0 (.int .u8 0) 1 1 Tryd.underlying22 hi hz0 hz1 hz2 rfl (by decide) _ 0 [] rfl (World.ownsRow_nil _ _ _ _) ad l.length cap (bc l) rfl (by rw [bc_len, Nat.mul_one]) hnw (bc_one _) (by unfold maxLen; omega) (by omega) (Nat.le_refl _) ?_; intro v' w2 hown' hgrow hnil)
      have hown : w2.ownsRow w.heap.size 5 1 v' l.length (bc l) := by rw [Nat.zero_add, List.nil_append] at hown'; exact hown'
      have hb2 : Below w.heap.size w w2 := (Below.refl _ _).grown hgrow (Nat.le_refl _) (fun j hj => by cases hj)
      have hBO := Bs.of_own hown
      obtain ⟨p2, cap2, rfl, -, -, -⟩ := id hBO
      clear hown' hgrow hnil hnw
      have HO2 := Lib.hid hown
      have HB2 := Lib.hid hb2
      have HBO := Lib.hid hBO
      refine (CS.out _ _ hb2 hBO).mono ?_
      clear hown hb2 hBO
      rintro e w3 ⟨hb3, he⟩
      have he' : e = .returned (.tuple #[.slice none 0 0, .agg #[.int .i64 (q : Nat), .int .i64 (k : Nat)]]) := he
      subst he'
      have hT1 : Tks w3 (.slice none 0 0) [] := ⟨none, 0, rfl, Nat.le_refl _, by omega, fun h => by simp at h⟩
      have HRD : Hid (RD w w3 (w3.alloc (.cells #[.int .i64 (q : Nat), .int .i64 (k : Nat)] 26)) l (.slice p2 l.length cap2) (.slice none 0 0) [] q k) := RD.start HB2.out HO2.out hb3 hT1
      have hx1 : ∀ o, (convert 22 9 (.slice p2 l.length cap2)).run Tryd.prog (w3.alloc o) = .ok (.string (ba l)) (w3.alloc o) := fun o => ((HBO.out.below hb3).below ((Below.refl _ _).alloc (Nat.le_refl _) o)).text
      have hx2 : ∀ o, (convert 22 9 (.slice (some ad) l.length cap)).run Tryd.prog (w3.alloc o) = .ok (.string (ba l)) (w3.alloc o) := fun o => (HV.out.below ((HB2.out.trans (hb3.mono HB2.out.size)).alloc (HB2.out.trans (hb3.mono HB2.out.size)).size o)).text
      clear hT1 hb3
      go_wp2
      clear hx1 hx2
      go_loopw [6] (fun i wr => ∃ j : Nat, j ≤ l.length ∧ i = .int .i64 (j : Nat) ∧ Hid (RD w w3 wr l (.slice p2 l.length cap2) (.slice none 0 0) [] q k)) (fun i _ => l.length - (intOf i).toNat)
      case atStart => exact ⟨0, Nat.zero_le _, rfl, HRD⟩
      case round =>
        obtain ⟨j, hj, rfl, HR⟩ := hrel
        by_cases hlt : j < l.length
        · obtain ⟨g, c, x, e, hck, hfz⟩ := HR.out.at hlt
          injection e with e1 e2 e3
          subst e1; subst e3
          have HR2 := Lib.hid (HR.out.step hlt)
          have hlt' : (j : Int) < (l.length : Int) := by omega
          go_wp2
          go_roundw
          case rel => exact ⟨j + 1, by omega, by go_num, HR2⟩
          case measure => simp [intOf]; omega
        · have hlt' : ¬ (j : Int) < (l.length : Int) := by omega
          go_wp2_with fail
          refine (CR.out _ HR.out.bel).mono ?_
          rintro e w5 ⟨hb5, he⟩
          have he' : e = .returned (.tuple #[.slice none 0 0, .int .i64 (q : Nat), .int .i64 (k : Nat)]) := he
          subst he'
          have h0 := (hb5.cell (p := ⟨w3.heap.size, 0, none⟩) (World.block_lt_of_cell? _ _ HR.out.f0)).trans HR.out.f0
          have h1 := (hb5.cell (p := ⟨w3.heap.size, 1, none⟩) (World.block_lt_of_cell? _ _ HR.out.f1)).trans HR.out.f1
          have HB5 := Lib.hid (HR.out.bel.trans (hb5.mono HR.out.bel.size))
          clear hb5
          go_wp2
          clear h0 h1
          go_loopw [10] (fun i wr => i = .int .i64 0 ∧ Below w5.heap.size w5 wr) (fun i _ => 0)
          case atStart => exact ⟨rfl, Below.refl _ _⟩
          case round =>
            obtain ⟨rfl, hbw⟩ := hrel
            have HBr := Lib.hid (HB5.out.trans (hbw.mono HB5.out.size))
            have HEr := Lib.hid (HE.out.below HBr.out)
            go_wp2_with fail
            refine (awake_any _ HEr.out).mono ?_
            rintro e w8 ⟨rfl, hb8⟩
            go_wp2
            go_ret
            exact ⟨rfl, HBr.out.trans (hb8.mono HBr.out.size)⟩
  | toks ts =>
    rw [hG] at CS CR
    obtain ⟨hl2, hS⟩ := scanS_toks hG
    have hcount := scanF_count _ _ _ _ _ hS
    clear hS
    clear hG
    cases p with
    | none =>
      obtain rfl : l = [] := by
        cases l with
        | nil => rfl
        | cons a r => obtain ⟨b, o, e⟩ := hform (by simp); cases e
      obtain rfl : cap = 0 := hp rfl
      clear hform hnews hp
      go_enter Tryd.func3, Tryd.ntmps3
      go_wp2_with fail
      have hown : w.ownsRow w.heap.size 5 1 (.slice none 0 0) ([] : List UInt8).length (bc []) := World.ownsRow_nil _ _ _ _
      have hBO : Bs w (.slice none 0 0) ([] : List UInt8) := Bs.of_own hown
      have hb2 := Below.refl w.heap.size w
      have hb0 : w = w := rfl
      have HO2 := Lib.hid hown
      have HB2 := Lib.hid hb2
      have HBO := Lib.hid hBO
      refine (CS.out _ _ hb2 hBO).mono ?_
      clear hown hb2 hBO
      rintro e w3 ⟨hb3, v1, rfl, hT1⟩
      obtain ⟨p1, cap1, rfl, -, -, -⟩ := id hT1
      have HRD : Hid (RD w w3 (w3.alloc (.cells #[.int .i64 (0 : Nat), .int .i64 (0 : Nat)] 26)) [] (.slice none 0 0) (.slice p1 ts.length cap1) ts 0 0) := RD.start HB2.out HO2.out hb3 hT1
      have hx1 : ∀ o, (convert 22 9 (.slice none 0 0)).run Tryd.prog (w3.alloc o) = .ok (.string (ba [])) (w3.alloc o) := fun o => ((HBO.out.below hb3).below ((Below.refl _ _).alloc (Nat.le_refl _) o)).text
      have hx2 : ∀ o, (convert 22 9 (.slice none 0 0)).run Tryd.prog (w3.alloc o) = .ok (.string (ba [])) (w3.alloc o) := fun o => (HV.out.below ((HB2.out.trans (hb3.mono HB2.out.size)).alloc (HB2.out.trans (hb3.mono HB2.out.size)).size o)).text
      clear hT1 hb3
      go_wp2
      clear hx1 hx2
      go_loopw [6] (fun i wr => ∃ j : Nat, j ≤ 0 ∧ i = .int .i64 (j : Nat) ∧ Hid (RD w w3 wr [] (.slice none 0 0) (.slice p1 ts.length cap1) ts 0 0)) (fun i _ => 0 - (intOf i).toNat)
      case atStart => exact ⟨0, Nat.zero_le _, rfl, HRD⟩
      case round =>
        obtain ⟨j, hj, rfl, HR⟩ := hrel
        by_cases hlt : j < ([] : List UInt8).length
        · exact absurd hlt (by simp)
        · have hlt' : ¬ (j : Int) < 0 := by omega
          go_wp2_with fail
          refine (CR.out _ HR.out.bel).mono ?_
          rintro e w5 ⟨hb5, v5, rfl, hT5⟩
          have HT5 := Lib.hid hT5
          obtain ⟨p5, cap5, rfl, -, -, -⟩ := hT5
          have HT1 := Lib.hid (HR.out.tk.below hb5)
          have h0 := (hb5.cell (p := ⟨w3.heap.size, 0, none⟩) (World.block_lt_of_cell? _ _ HR.out.f0)).trans HR.out.f0
          have h1 := (hb5.cell (p := ⟨w3.heap.size, 1, none⟩) (World.block_lt_of_cell? _ _ HR.out.f1)).trans HR.out.f1
          have HB5 := Lib.hid (HR.out.bel.trans (hb5.mono HR.out.bel.size))
          clear hb5
          go_wp2
          clear h0 h1
          go_loopw [10] (fun i wr => ∃ k : Nat, k ≤ ts.length ∧ i = .int .i64 (k : Nat) ∧ Below w5.heap.size w5 wr) (fun i _ => ts.length - (intOf i).toNat)
          case atStart => exact ⟨0, Nat.zero_le _, rfl, Below.refl _ _⟩
          case round =>
            obtain ⟨k, hk, rfl, hbw⟩ := hrel
            by_cases hk2 : k < ts.length
            · obtain ⟨t, ht⟩ : ∃ t, ts[k]? = some t := ⟨_, List.getElem?_eq_getElem hk2⟩
              obtain ⟨b, o, cap3, e1, hbl, hcells⟩ := (HT1.out.below hbw).cellsAt (by omega)
              injection e1 with e1 e2 e3
              subst e1; subst e3
              obtain ⟨d0, d1, d2, d3, d4⟩ := hcells k t ht
              obtain ⟨b', o', cap4, e1, hbl2, hcells2⟩ := (HT5.out.below hbw).cellsAt (by omega)
              injection e1 with e1 e2 e3
              subst e1; subst e3
              obtain ⟨c0, c1, c2, c3, c4⟩ := hcells2 k t ht
              have g4 : (k : Int) < (ts.length : Int) := by omega
              have hbx := hbw
              generalize t.kind = tk at *
              generalize t.num = tn at *
              generalize t.pos = tp at *
              generalize t.stop = tq at *
              generalize ba t.text = tx at *
              clear hcells hcells2 ht hbw
              go_wp2
              go_quiet (fail)
              go_wp2
              go_roundw
              case rel => exact ⟨k + 1, by omega, by go_num, below_drewN hbx _⟩
              case measure => simp [intOf]; omega
            · obtain rfl : k = ts.length := by omega
              have HBr := Lib.hid (HB5.out.trans (hbw.mono HB5.out.size))
              have HEr := Lib.hid (HE.out.below HBr.out)
              clear hbw
              go_wp2_with fail
              refine (awake_any _ HEr.out).mono ?_
              rintro e w8 ⟨rfl, hb8⟩
              go_wp2
              go_ret
              exact ⟨rfl, HBr.out.trans (hb8.mono HBr.out.size)⟩
    | some ad =>
      have hnw : ∀ j u, (bc l)[j]? = some u → w.cell? (ad.add j) = some u := fun j u hu => by
        have hl0 : 0 < l.length := by
          obtain ⟨h, _⟩ := List.getElem?_eq_some_iff.1 hu
          rw [bc_len] at h; omega
        obtain ⟨b, o, e⟩ := hform hl0
        injection e with e; subst e
        exact hnews b o rfl j u hu
      clear hform hnews hp
      go_enter Tryd.func3, Tryd.ntmps3
      go_wp2_with (at_builtin; refine wpList_append_own _ rfl _ _ 22 rfl w.heap.size 5 i0 (.int .u8 0) 1 1 Tryd.underlying22 hi hz0 hz1 hz2 rfl (by decide) _ 0 [] rfl (World.ownsRow_nil _ _ _ _) ad l.length cap (bc l) rfl (by rw [bc_len, Nat.mul_one]) hnw (bc_one _) (by unfold maxLen; omega) (by omega) (Nat.le_refl _) ?_; intro v' w2 hown' hgrow hnil)
      have hown : w2.ownsRow w.heap.size 5 1 v' l.length (bc l) := by rw [Nat.zero_add, List.nil_append] at hown'; exact hown'
      have hb2 : Below w.heap.size w w2 := (Below.refl _ _).grown hgrow (Nat.le_refl _) (fun j hj => by cases hj)
      have hBO := Bs.of_own hown
      obtain ⟨p2, cap2, rfl, -, -, -⟩ := id hBO
      clear hown' hgrow hnil hnw
      have HO2 := Lib.hid hown
      have HB2 := Lib.hid hb2
      have HBO := Lib.hid hBO
      refine (CS.out _ _ hb2 hBO).mono ?_
      clear hown hb2 hBO
      rintro e w3 ⟨hb3, v1, rfl, hT1⟩
      obtain ⟨p1, cap1, rfl, -, -, -⟩ := id hT1
      have HRD : Hid (RD w w3 (w3.alloc (.cells #[.int .i64 (0 : Nat), .int .i64 (0 : Nat)] 26)) l (.slice p2 l.length cap2) (.slice p1 ts.length cap1) ts 0 0) := RD.start HB2.out HO2.out hb3 hT1
      have hx1 : ∀ o, (convert 22 9 (.slice p2 l.length cap2)).run Tryd.prog (w3.alloc o) = .ok (.string (ba l)) (w3.alloc o) := fun o => ((HBO.out.below hb3).below ((Below.refl _ _).alloc (Nat.le_refl _) o)).text
      have hx2 : ∀ o, (convert 22 9 (.slice (some ad) l.length cap)).run Tryd.prog (w3.alloc o) = .ok (.string (ba l)) (w3.alloc o) := fun o => (HV.out.below ((HB2.out.trans (hb3.mono HB2.out.size)).alloc (HB2.out.trans (hb3.mono HB2.out.size)).size o)).text
      clear hT1 hb3
      go_wp2
      clear hx1 hx2
      go_loopw [6] (fun i wr => ∃ j : Nat, j ≤ l.length ∧ i = .int .i64 (j : Nat) ∧ Hid (RD w w3 wr l (.slice p2 l.length cap2) (.slice p1 ts.length cap1) ts 0 0)) (fun i _ => l.length - (intOf i).toNat)
      case atStart => exact ⟨0, Nat.zero_le _, rfl, HRD⟩
      case round =>
        obtain ⟨j, hj, rfl, HR⟩ := hrel
        by_cases hlt : j < l.length
        · obtain ⟨g, c, x, e, hck, hfz⟩ := HR.out.at hlt
          injection e with e1 e2 e3
          subst e1; subst e3
          have HR2 := Lib.hid (HR.out.step hlt)
          have hlt' : (j : Int) < (l.length : Int) := by omega
          go_wp2
          go_roundw
          case rel => exact ⟨j + 1, by omega, by go_num, HR2⟩
          case measure => simp [intOf]; omega
        · have hlt' : ¬ (j : Int) < (l.length : Int) := by omega
          go_wp2_with fail
          refine (CR.out _ HR.out.bel).mono ?_
          rintro e w5 ⟨hb5, v5, rfl, hT5⟩
          have HT5 := Lib.hid hT5
          obtain ⟨p5, cap5, rfl, -, -, -⟩ := hT5
          have HT1 := Lib.hid (HR.out.tk.below hb5)
          have h0 := (hb5.cell (p := ⟨w3.heap.size, 0, none⟩) (World.block_lt_of_cell? _ _ HR.out.f0)).trans HR.out.f0
          have h1 := (hb5.cell (p := ⟨w3.heap.size, 1, none⟩) (World.block_lt_of_cell? _ _ HR.out.f1)).trans HR.out.f1
          have HB5 := Lib.hid (HR.out.bel.trans (hb5.mono HR.out.bel.size))
          clear hb5
          go_wp2
          clear h0 h1
          go_loopw [10] (fun i wr => ∃ k : Nat, k ≤ ts.length ∧ i = .int .i64 (k : Nat) ∧ Below w5.heap.size w5 wr) (fun i _ => ts.length - (intOf i).toNat)
          case atStart => exact ⟨0, Nat.zero_le _, rfl, Below.refl _ _⟩
          case round =>
            obtain ⟨k, hk, rfl, hbw⟩ := hrel
            by_cases hk2 : k < ts.length
            · obtain ⟨t, ht⟩ : ∃ t, ts[k]? = some t := ⟨_, List.getElem?_eq_getElem hk2⟩
              obtain ⟨b, o, cap3, e1, hbl, hcells⟩ := (HT1.out.below hbw).cellsAt (by omega)
              injection e1 with e1 e2 e3
              subst e1; subst e3
              obtain ⟨d0, d1, d2, d3, d4⟩ := hcells k t ht
              obtain ⟨b', o', cap4, e1, hbl2, hcells2⟩ := (HT5.out.below hbw).cellsAt (by omega)
              injection e1 with e1 e2 e3
              subst e1; subst e3
              obtain ⟨c0, c1, c2, c3, c4⟩ := hcells2 k t ht
              have g4 : (k : Int) < (ts.length : Int) := by omega
              have hbx := hbw
              generalize t.kind = tk at *
              generalize t.num = tn at *
              generalize t.pos = tp at *
              generalize t.stop = tq at *
              generalize ba t.text = tx at *
              clear hcells hcells2 ht hbw
              go_wp2
              go_quiet (fail)
              go_wp2
              go_roundw
              case rel => exact ⟨k + 1, by omega, by go_num, below_drewN hbx _⟩
              case measure => simp [intOf]; omega
            · obtain rfl : k = ts.length := by omega
              have HBr := Lib.hid (HB5.out.trans (hbw.mono HB5.out.size))
              have HEr := Lib.hid (HE.out.below HBr.out)
              clear hbw
              go_wp2_with fail
              refine (awake_any _ HEr.out).mono ?_
              rintro e w8 ⟨rfl, hb8⟩
              go_wp2
              go_ret
              exact ⟨rfl, HBr.out.trans (hb8.mono HBr.out.size)⟩
end Go.Proofs.YtmbejmhnoeoohaaDoor
