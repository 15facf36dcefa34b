/- TRIE: Match. -/
import Derived.Maps.RangeWalk
import Derived.Test.YtincmegllckcjaaGreatDoorTrieMatch
namespace Go.Proofs.YtincmegllckcjaaGreatDoor
open Go Go.RowKit
attribute [local go_sem ↓] Go.wp_at_zero Go.wp_at_succ

/-- what Match answers -/
def Hears (T : List Nd) (s : ByteArray) (z : Int) : Prop := nameB s.data.toList = true ∧ ∃ F, Agr (levels s) (!dollarB s.data.toList) F ∧ IdAt T F z
def MatchPost (w : World) (T : List Nd) (s : ByteArray) (r : Ending) (w' : World) : Prop :=
  ∃ v ids, r = .returned v ∧ IRow w' w.heap.size v ids ∧ ids.Pairwise (· < ·) ∧ (∀ z, z ∈ ids ↔ Hears T s z) ∧ Below w.heap.size w w'
theorem info_int : (Tryz.prog.info? 3).map (fun i => (i.zero, i.size, i.bytes)) = some (some (.int .i64 0), 1, 8) := by kernel_rfl
/-- slices.Sort at an own row -/
theorem sort_any (v : Value) (zs : List Int) (base : Nat) (w : World) (h : IRow w base v zs) (hn : zs.length ≤ 100000000) :
    Calls Tryz.prog 62 #[v] w fun e w' => e = .returned (.tuple #[]) ∧ IRow w' base v (zs.mergeSort fun x y => decide (x ≤ y)) ∧ w.grownBy w' v.ownBlock := by
  have hlen : (zs.mergeSort fun x y => decide (x ≤ y)).length = zs.length := List.length_mergeSort _
  rcases h.form with ⟨rfl, rfl⟩ | ⟨g, cap, cur, rfl, hb, hg, hbox, h3, h4, h5, h6, hc⟩
  · refine (Any.slices_Sort_int_none Tryz.laysn189 none 0 w).mono ?_
    rintro e w' ⟨rfl, rfl⟩
    exact ⟨rfl, by simpa using h, ⟨rfl, rfl, rfl, Nat.le_refl _, fun _ _ _ => rfl⟩⟩
  · refine (Any.slices_Sort_int Tryz.laysn189 g 0 cap zs w (holds_of_blockI hbox h6) hg (by omega)).mono ?_
    rintro e w' ⟨rfl, n, os, rfl⟩
    refine ⟨rfl, ?_, grownBy_sortedI _⟩
    have := ownsRow_sortedI (ss := zs) (ts := zs.mergeSort fun x y => decide (x ≤ y)) (n := n) (os := os) hlen hb hbox h3 h4 (by omega)
    rw [← hlen] at this
    rw [← hlen]
    exact this
theorem sortedI_nodup {zs : List Int} (h : zs.Nodup) : (zs.mergeSort fun x y => decide (x ≤ y)).Pairwise (· < ·) := by
  have h1 : (zs.mergeSort fun x y => decide (x ≤ y)).Pairwise (fun x y => decide (x ≤ y) = true) := List.pairwise_mergeSort (by intro a b c; simp; omega) (by intro a b; simp; omega) zs
  have h2 : (zs.mergeSort fun x y => decide (x ≤ y)).Nodup := (List.mergeSort_perm zs _).symm.nodup h
  have h3 := h1.and h2
  exact h3.imp fun ⟨a, b⟩ => by simp at a; omega
/-- the range's round -/
structure MRg (A1 wr : World) (mb r : Nat) (D : DataW Unit) (left : Lit → Bool) (cnt : Nat) (v : Value) (zs : List Int) : Prop where
  rg : wr.ranges Tryz.prog 3 (plainElem Tryz.prog 3) mb r (Maps.size D) D left cnt
  row : IRow wr (r + 1) v zs
  nd : zs.Nodup
  mem : ∀ z, z ∈ zs ↔ inF D z = true ∧ left (.int .i64 z) = false
  fr : Frame (fun b => b = mb) A1 wr
  low : mb < A1.heap.size ∧ A1.heap.size ≤ r
theorem IRow.slice {W : World} {base : Nat} {v : Value} {zs : List Int} (h : IRow W base v zs) : ∃ q c, v = .slice q zs.length c := by
  rcases h.form with ⟨rfl, rfl⟩ | ⟨g, cap, cur, rfl, -⟩
  · exact ⟨_, _, rfl⟩
  · exact ⟨_, _, rfl⟩
/-- the map under way -/
def MIn (A1 : World) (mb : Nat) (A : List Int) (G : Int → Prop) (W : World) : Prop := Frame (fun b => b = mb) A1 W ∧ ∃ D, FM W mb D A ∧ ∀ y, inF D y = true → G y
theorem MIn.drew {A1 W : World} {mb : Nat} {A : List Int} {G : Int → Prop} {P : Prop} (h : P ∧ MIn A1 mb A G W) : P ∧ MIn A1 mb A G W.drew := by
  obtain ⟨h0, h1, D, h2, h3⟩ := h
  exact ⟨h0, h1.drewN 1, D, h2.kept rfl, h3⟩
theorem MIn.low {A1 W W2 : World} {mb : Nat} {A : List Int} {G : Int → Prop} (h : MIn A1 mb A G W) (k : Below W.heap.size W W2) : MIn A1 mb A G W2 := by
  obtain ⟨h1, D, h2, h3⟩ := h
  refine ⟨h1.trans ⟨k.os, k.tape, k.output, k.size, fun b hb _ => k.block b hb⟩, D, h2.kept (k.block mb h2.lt), h3⟩
set_option maxRecDepth 100000 in
set_option maxHeartbeats 8000000 in
theorem matchT_any (w : World) (base sz t : Nat) (T : List Nd) (n : Int) (A : List Int) (s : ByteArray) (H : Tri w base sz t T n) (hs : s.size ≤ 1048576) (hT : Tabs w) (hsz : sz ≤ 100000000) (hall : ∀ p z, IdAt T p z → z ∈ A) (hwf : ∀ z ∈ A, (Lit.int .i64 z).wf = true) (hA : A.length ≤ 100000000) :
    Calls Tryz.prog 28 #[.pointer (some ⟨t, 0, none⟩), .string s] w (MatchPost w T s) := by
  obtain ⟨PP, hPP⟩ : ∃ PP, MatchPost w T s = PP := ⟨_, rfl⟩
  rw [hPP]
  have HPP := Lib.hid hPP
  have HH := Lib.hid H
  have HAL := Lib.hid hall
  have HWF := Lib.hid hwf
  obtain ⟨r0, hr0, hr1, hrb⟩ := H.root
  have CN : Hid (Calls Tryz.prog 58 #[.pointer (some ⟨t, 0, none⟩)] w fun e w' => e = .returned (.bool false) ∧ w' = w) := no_any _ w false (.inr ⟨t, _, n, rfl, hrb, rfl⟩)
  have CF : Hid (Calls Tryz.prog 27 #[.string s] w fun e w' => e = .returned (.bool (nameB s.data.toList)) ∧ Below w.heap.size w w') := name_any indexByte_said valid_said contains_said s w hs hT
  have CL : Hid (∀ W, Calls Tryz.prog 39 #[.string s] W fun e w' => ∃ v, e = .returned v ∧ (Sl w' v (levels s) ∧ ∀ g, v.ownBlock = some g → W.heap.size ≤ g) ∧ Below W.heap.size W w') := fun W => levels_any indexByte_said s W hs
  clear hPP H hr0 hr1 hrb hall hwf
  cases hF : nameB s.data.toList with
  | false =>
    rw [hF] at CF
    have HF := Lib.hid hF
    clear hF
    go_enter Tryz.func28, Tryz.ntmps28
    go_wp2_with fail
    refine CN.out.mono ?_
    rintro e w1 ⟨rfl, hw⟩
    subst w1
    go_wp2_with fail
    refine CF.out.mono ?_
    rintro e W1 ⟨rfl, hb1⟩
    have HB1 := Lib.hid hb1
    clear hb1
    go_wp2_with fail
    rw [← HPP.out]
    exact ⟨_, [], rfl, IRow.nil _ _, List.Pairwise.nil, fun z => Iff.intro (fun h => by cases h) (fun h => by have := h.1; rw [HF.out] at this; cases this), HB1.out⟩
  | true =>
    rw [hF] at CF
    have HF := Lib.hid hF
    clear hF
    have mk : ∀ w, (Instr.makeMap 102 none).run Tryz.prog w = .ok (.map (some w.heap.size)) (w.alloc (.map #[] 0)) := fun _ => rfl
    go_enter Tryz.func28, Tryz.ntmps28
    go_wp2_with fail
    refine CN.out.mono ?_
    rintro e w1 ⟨rfl, hw⟩
    subst w1
    go_wp2_with fail
    refine CF.out.mono ?_
    rintro e W1 ⟨rfl, hb1⟩
    have HB1 := Lib.hid hb1
    have H1 := Lib.hid (HH.out.below hb1)
    clear hb1
    have hs0 : 0 < s.size := nameB_size HF.out
    obtain ⟨r1, hr1, hr10, hrb⟩ := H1.out.root
    obtain ⟨A1, hA1⟩ : ∃ A1, W1.alloc (.map #[] 0) = A1 := ⟨_, rfl⟩
    have hrb2 : A1.heap[t]? = some (.cells #[.pointer (some ⟨r1.a, 0, none⟩), .int .i64 n] 96 (0, 0)) := by rw [← hA1]; exact (Below.heap_alloc _ _ _ H1.out.lt).trans hrb
    have c0 : A1.cell? ⟨t, 0, none⟩ = some (.pointer (some ⟨r1.a, 0, none⟩)) := by rw [cell_of_row A1 t 0 _ _ _ hrb2]; rfl
    have htl := (Array.getElem?_eq_some_iff.1 hrb2).1
    have HA1 := Lib.hid hA1
    clear hA1 hrb hrb2
    go_upto_region 4 with fail
    rw [HA1.out]
    obtain ⟨mb, hmb⟩ : ∃ mb, W1.heap.size = mb := ⟨_, rfl⟩
    rw [hmb]
    have HS : Hid (∀ W, MIn A1 mb A (Hears T s) W → W.cell? ⟨t, 0, none⟩ = some (.pointer (some ⟨r1.a, 0, none⟩)) ∧ MIn A1 mb A (Hears T s) W) := fun W hW => ⟨(World.cell?_of_block (hW.1.block t htl (by have := H1.out.lt; omega))).trans c0, hW⟩
    have M1 : Hid (MIn A1 mb A (Hears T s) A1) := by
      show MIn _ _ _ _ _
      refine ⟨Frame.of_below (Below.refl _ _), .map [], ?_, fun y h => by cases h⟩
      rw [← HA1.out, ← hmb]
      exact ⟨World.ownsMap_made _ _ _ _, fun k h => by cases h⟩
    have CM : Hid (∀ W v, MIn A1 mb A (Hears T s) W → Sl W v (levels s) → Calls Tryz.prog 61 #[.pointer (some ⟨r1.a, 0, none⟩), v, .bool (((s[0].toNat : Nat) : Int) != 36), .map (some mb)] W (fun e w' => e = .returned (.tuple #[]) ∧ ∃ D', FM w' mb D' A ∧ (∀ y, inF D' y = true ↔ Hears T s y) ∧ Frame (fun b => b = mb) A1 w')) := by
      intro W v hW hSl
      obtain ⟨hW1, D, hW2, hW3⟩ := hW
      have hft : ¬ foot T mb := fun h => by have := (H1.out.is.lt h).2; omega
      have his : TrieIs W base sz T := H1.out.is.kept fun b hb => by
        have h1 := (H1.out.is.lt hb).2
        refine (hW1.block b (by rw [← HA1.out]; simp; omega) (fun e => hft (e ▸ hb))).trans ?_
        rw [← HA1.out]
        exact Below.heap_alloc _ _ _ h1
      have hwild : (((s[0].toNat : Nat) : Int) != 36) = !dollarB s.data.toList := by rw [dollarB_get s hs0]; rfl
      rw [hwild]
      refine (match_any (levels s) (fun x hx => by have := levels_size s x hx; unfold maxLen; omega) W base sz T mb A r1 (!dollarB s.data.toList) D v ⟨his, hft, HAL.out, HWF.out, hA, hsz⟩ hr1 hSl hW2).mono ?_
      rintro e w' ⟨rfl, D', h1, h2, h3⟩
      refine ⟨rfl, D', h1, fun y => ?_, hW1.trans (h3.mono fun b hb => .inl hb)⟩
      rw [h2, hr10]
      have hh : Hears T s y ↔ ∃ F, Agr (levels s) (!dollarB s.data.toList) F ∧ IdAt T ([] ++ F) y := by
        simp only [List.nil_append]
        exact ⟨fun h => h.2, fun h => ⟨HF.out, h⟩⟩
      exact ⟨fun h => by rcases h with h | h; exact hW3 y h; exact hh.2 h, fun h => .inr (hh.1 h)⟩
    go_cut [] from 8 (fun W => ∃ D', FM W mb D' A ∧ (∀ y, inF D' y = true ↔ Hears T s y) ∧ Frame (fun b => b = mb) A1 W)
    case first =>
      go_region_held3 (fun W => W.cell? ⟨t, 0, none⟩ = some (.pointer (some ⟨r1.a, 0, none⟩)) ∧ MIn A1 mb A (Hears T s) W) (first | exact HS.out _ M1.out | exact MIn.drew (HS.out _ M1.out) | exact HS.out _ (MIn.low (And.right (by assumption)) hb2) | exact HS.out _ ⟨hfr3, D3, hF3, fun y hy => (hD3 y).1 hy⟩ | assumption | exact MIn.drew (by assumption)) (first | (go_at_call 39; refine (CL.out _).mono ?_; rintro e W2 ⟨v, rfl, ⟨hsl, -⟩, hb2⟩) | (go_at_call 61; refine (CM.out _ _ (And.right (by assumption)) (by assumption)).mono ?_; rintro e W3 ⟨rfl, D3, hF3, hD3, hfr3⟩))
      all_goals (go_wp2_with fail; go_meet; case rel => exact ⟨D3, hF3, hD3, hfr3⟩)
    case rest =>
    obtain ⟨D, hF, hD, hfr⟩ := hcut
    obtain ⟨i0, hi, hz0, hz1, hz2⟩ := info_parts info_int
    have hmbA : mb < A1.heap.size := by rw [← HA1.out, ← hmb]; simp
    have HFR := Lib.hid hfr
    have HD := Lib.hid hD
    have hown := hF.own
    have HFM := Lib.hid hF
    clear hfr hD hF
    go_wp2_with (first
      | (at_range; refine wpList_range_own _ rfl _ 102 rfl 3 3 int_keys Tryz.underlying102 _ mb _ D rfl hown ?_; intro w0 hrg0 hg0 hs0)
      | go_in)
    go_frame
    have hst : MRg A1 w0 mb wc.heap.size D (Maps.has D) (Maps.size D) (.slice none 0 0) [] := ⟨hrg0, IRow.nil _ _, List.nodup_nil, fun z => Iff.intro (fun h => by cases h) (fun h => by have h1 := h.1; have h2 := h.2; unfold inF at h1; rw [h1] at h2; cases h2), HFR.out.trans (Frame.of_grown hg0 (fun b e => by cases e)), hmbA, HFR.out.size⟩
    go_loopw [6] (fun v wr => ∃ (left : Lit → Bool) (cnt : Nat) (zs : List Int), MRg A1 wr mb wc.heap.size D left cnt v zs)
      (fun _ wr => wr.rangeLeft mb wc.heap.size)
    case atStart => exact ⟨_, _, _, hst⟩
    case round =>
      obtain ⟨left, cnt, zs, hM⟩ := hrel
      have hrg := hM.rg
      go_wp2_with (first
        | (at_next; refine wpList_next_ranges_ii _ rfl _ rfl 3 3 .i64 .i64 int_keys Tryz.underlying3 Tryz.underlying3 mb wc.heap.size _ _ _ _ rfl hrg ?_ ?_)
        | go_in)
      · intro _ hl0
        have HM := Lib.hid hM
        have hzl : zs.length ≤ 100000000 := Nat.le_trans (nodup_le hM.nd (fun z hz => by
          obtain ⟨y, hy, e⟩ := HFM.out.keys _ ((hM.mem z).1 hz).1
          injection e with _ e
          rw [e]; exact hy)) hA
        have SO := Lib.hid (sort_any _ zs _ wr hM.row hzl)
        have HL0 := Lib.hid hl0
        clear hM hrg hl0
        go_wp2_with fail
        refine SO.out.mono ?_
        rintro e w2 ⟨rfl, hrow, hg⟩
        have HRW := Lib.hid hrow
        have HG := Lib.hid hg
        clear hrow hg
        go_wp2_with fail
        rw [← HPP.out]
        refine ⟨_, _, rfl, ownsRow_mono HRW.out (by have := HB1.out.size; have := HFR.out.size; omega), sortedI_nodup HM.out.nd, fun z => ?_, ?_⟩
        · rw [List.mem_mergeSort, HM.out.mem, HL0.out, ← HD.out]
          exact ⟨fun h => h.1, fun h => ⟨h, rfl⟩⟩
        · have h1 : Below w.heap.size w A1 := by rw [← HA1.out]; exact HB1.out.alloc HB1.out.size _
          have h2 : Below w.heap.size A1 wr := ⟨HM.out.fr.os, HM.out.fr.tape, HM.out.fr.output, HM.out.fr.size, fun b hb => HM.out.fr.block b (by have := h1.size; omega) (by have := HB1.out.size; omega)⟩
          exact (h1.trans h2).grown HG.out (by have := h1.size; have := HM.out.fr.size; omega) (fun k hk => by have := (HM.out.row.lt k hk).1; have := HFR.out.size; have := h1.size; omega)
      · intro x c w1 cnt1 hwx hwc hlx hat hrg1 hlt hg1 hs1 hen
        obtain ⟨q, c', rfl⟩ := hM.row.slice
        have hrow1 : IRow w1 (wc.heap.size + 1) (.slice q zs.length c') zs := hM.row.kept hg1 (by
          right
          intro e
          have := (hM.row.lt _ e).1
          omega)
        have hzl : zs.length ≤ 100000000 := Nat.le_trans (nodup_le hM.nd (fun z hz => by
          obtain ⟨y, hy, e⟩ := HFM.out.keys _ ((hM.mem z).1 hz).1
          injection e with _ e
          rw [e]; exact hy)) hA
        have hr1 : wc.heap.size < w1.heap.size := hrg1.lt
        have HM := Lib.hid hM
        have HG1 := Lib.hid hg1
        have HRG1 := Lib.hid hrg1
        have HAT := Lib.hid hat
        have HLX := Lib.hid hlx
        have HLT := Lib.hid hlt
        have HRW := Lib.hid hrow1
        have HS1 := Lib.hid hs1
        clear hM hg1 hrg1 hat hlx hlt hrow1 hs1
        go_wp2_with (first | (at_builtin; refine wpList_append_own _ rfl _ _ 26 rfl (wc.heap.size + 1) 3 i0 (.int .i64 0) 1 8 Tryz.underlying26 hi hz0 hz1 hz2 rfl (by decide) _ _ _ rfl (HRW.out.alloc _) ⟨w1.heap.size, 0, none⟩ 1 1 [.int .i64 x] rfl rfl (cell_one_new _ _ _) (by intro u hu; simp at hu; subst hu; rfl) (by unfold maxLen; omega) (by omega) (by simp; omega) ?_; intro v2 w2 hown2 hg2 hnil2; have HOW := Lib.hid hown2; have HG2 := Lib.hid (show World.grownBy _ w2 (Value.slice q zs.length c').ownBlock from hg2); clear hown2 hg2 hnil2))
        have hwa : ∀ k, k = mb ∨ k = wc.heap.size → k ≠ (w1.alloc (.cells #[.int .i64 x] 3)).heap.size → some k ≠ (Value.slice q zs.length c').ownBlock := by
          intro k hk _ e
          have := (HRW.out.lt k e.symm).1
          have := HFR.out.size
          rcases hk with rfl | rfl <;> omega
        have hrlt := HRG1.out.lt
        have hrg2 := (HRG1.out.alloc (.cells #[.int .i64 x] 3)).kept HG2.out (hwa mb (.inl rfl) (by simp; have := HFR.out.size; omega)) (hwa _ (.inr rfl) (by simp; omega))
        have HRG2 := Lib.hid hrg2
        have HWA := Lib.hid hwa
        clear hrg2 hwa
        go_roundw
        case rel =>
          refine ⟨_, cnt1, zs ++ [x], HRG2.out, by unfold IRow ints; rw [List.length_append, List.map_append]; exact HOW.out, ?_, fun z => ?_, HM.out.fr.trans (Frame.trans (Frame.of_grown HG1.out (fun b e => .inr (by injection e with e; subst e; exact HFR.out.size))) (Frame.trans (Frame.of_below ((Below.refl _ _).alloc (Nat.le_refl _) _)) (Frame.of_grown HG2.out (fun b e => by have := (HRW.out.lt b e).1; have := HFR.out.size; have := HM.out.fr.size; exact .inl (.inl (.inr (by omega))))))), HM.out.low⟩
          · refine List.nodup_append.2 ⟨HM.out.nd, List.nodup_cons.2 ⟨List.not_mem_nil, List.nodup_nil⟩, fun a ha b hb e => ?_⟩
            rw [List.mem_singleton] at hb
            subst hb; subst e
            have := ((HM.out.mem a).1 ha).2
            rw [HLX.out] at this
            cases this
          · have hx : inF D x = true := Maps.has_true_of_atKey HAT.out
            show _ ↔ inF D z = true ∧ (left (.int .i64 z) && !(Lit.int .i64 z).sameKey (.int .i64 x)) = false
            rw [List.mem_append, List.mem_singleton, HM.out.mem]
            by_cases e : z = x
            · subst e
              rw [WideAt.sameKey_self (show WideAt.IsKeyLit (.int .i64 z) from trivial)]
              simp [hx]
            · have hk : (Lit.int .i64 z).sameKey (.int .i64 x) = false := by
                cases h : (Lit.int .i64 z).sameKey (.int .i64 x)
                · rfl
                · have := WideAt.sameKey_eq h
                  injection this with _ h1
                  exact absurd h1 e
              rw [hk]
              simp [e]
        case measure => rw [HRG2.out.left_eq, HM.out.rg.left_eq]; exact HLT.out
end Go.Proofs.YtincmegllckcjaaGreatDoor
