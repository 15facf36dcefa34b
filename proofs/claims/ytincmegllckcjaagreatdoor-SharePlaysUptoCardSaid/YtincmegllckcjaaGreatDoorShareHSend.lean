/- SHARE: Hub.Send. -/
import Derived.Maps.RangeWalk
import Derived.Test.YtincmegllckcjaaGreatDoorMTopicMatch
namespace Go.Proofs.YtincmegllckcjaaGreatDoor
open Go Go.RowKit
attribute [local go_sem ↓] Go.wp_at_zero Go.wp_at_succ

def SendPost (w : World) (base : Nat) (H : Hb) (s : ByteArray) (e : Ending) (w' : World) : Prop := ∃ H' v ids0 out, e = .returned v ∧ IRow w' w.heap.size v out ∧ SendA (H.l, absG H) s ids0 out (H'.l, absG H') ∧ HubTo w base H w' H' ∧ H'.sz = H.sz ∧ H'.gn = H.gn
theorem info_string2 : (Tryz.prog.info? 9).map (fun i => (i.zero, i.size, i.bytes)) = some (some (.string ByteArray.empty), 1, 16) := by kernel_rfl
set_option maxRecDepth 100000 in
set_option maxHeartbeats 8000000 in
theorem hubSend_any (w0 w : World) (H : Hb) (s : ByteArray) (h : HubG w w0.heap.size H) (hB : Below w0.heap.size w0 w) (hT0 : Tabs w0) (hs : s.size ≤ 1048576) (hwf : ∀ x ∈ H.l, (Lit.int .i64 x.2).wf = true) (hsz : H.sz ≤ 100000000) (hl : H.l.length ≤ 100000000) (hgn : H.gs.length ≤ 100000000) :
    Calls Tryz.prog 11 #[.pointer (some ⟨H.hb, 0, none⟩), .string s] w (SendPost w w0.heap.size H s) := by
  have hT := hT0.below hB
  have HB0 := Lib.hid hB
  have HT0 := Lib.hid hT0
  obtain ⟨base, hbase⟩ : ∃ base, w0.heap.size = base := ⟨_, rfl⟩
  have HBASE := Lib.hid hbase
  rw [hbase] at h ⊢
  obtain ⟨PP, hPP⟩ : ∃ PP : Ending → World → Prop, SendPost w base H s = PP := ⟨_, rfl⟩
  rw [hPP]
  have HPP := Lib.hid hPP
  have HH := Lib.hid h
  have HT := Lib.hid hT
  have HWF := Lib.hid hwf
  have CN := Lib.hid (hub_no h)
  have CF : Hid (Calls Tryz.prog 27 #[.string s] w fun e w' => e = .returned (.bool (nameB s.data.toList)) ∧ Below w.heap.size w w') := name_any indexByte_said valid_said contains_said s w hs hT
  clear hPP h hT hwf hB hT0 hbase
  cases hF : nameB s.data.toList with
  | false =>
    rw [hF] at CF
    have HF := Lib.hid hF
    clear hF
    go_enter Tryz.func11, Tryz.ntmps11
    go_wp2_with fail
    refine CN.out.mono ?_
    rintro e w1 ⟨rfl, hw⟩
    subst w1
    go_wp2_with fail
    refine CF.out.mono ?_
    rintro e W1 ⟨rfl, hb1⟩
    have HB1 := Lib.hid hb1
    clear hb1
    go_wp2_with fail
    rw [← HPP.out]
    refine ⟨H, _, [], [], rfl, IRow.nil _ _, ⟨List.Pairwise.nil, fun z => Iff.intro (fun h => by cases h) (fun h => by have := h.1; rw [HF.out] at this; cases this), by rw [HF.out]; rfl, rfl⟩, HH.out.same HB1.out, rfl, rfl⟩
  | true =>
    rw [hF] at CF
    have HF := Lib.hid hF
    clear hF
    go_enter Tryz.func11, Tryz.ntmps11
    go_wp2_with fail
    refine CN.out.mono ?_
    rintro e w1 ⟨rfl, hw⟩
    subst w1
    go_wp2_with fail
    refine CF.out.mono ?_
    rintro e W1 ⟨rfl, hb1⟩
    have HB1 := Lib.hid hb1
    have H1 := Lib.hid (HH.out.below hb1)
    clear hb1
    have CM := Lib.hid (tof_match s H1.out.tri hs (HT.out.below HB1.out) hsz HWF.out hl)
    obtain ⟨c0, c1⟩ := H1.out.cells
    have hhl := H1.out.hlt
    go_wp2_with fail
    refine CM.out.mono ?_
    rintro e A1 ⟨v0, ids0, rfl, hrow0, hr0, hm0, hb2⟩
    have HB2 := Lib.hid hb2
    have HR0 := Lib.hid hrow0
    have HP0 := Lib.hid hr0
    have HM0 := Lib.hid hm0
    have H2 := Lib.hid (H1.out.below hb2)
    have HLEN : Hid (ids0.length ≤ 100000000) := by
      have h1 := nodup_le (hr0.imp fun h e => by omega : ids0.Nodup) (fun z hz => by
        obtain ⟨-, f, hf, -⟩ := (hm0 z).1 hz
        exact List.mem_map_of_mem (f := (·.2)) hf : ∀ z ∈ ids0, z ∈ H.l.map (·.2))
      rw [List.length_map] at h1
      exact Nat.le_trans h1 hl
    clear hb2 hrow0 hr0 hm0 c0 c1 hhl
    obtain ⟨c0, c1⟩ := H2.out.cells
    have hhl := H2.out.hlt
    have hown := H2.out.gmap
    go_wp2_with (first
      | (at_range; refine wpList_range_own _ rfl _ 59 rfl 9 65 string_keys Tryz.underlying59 ptrR H.gm H.gn H.GD rfl hown ?_; intro wA hrg0 hg0 hs0)
      | go_in)
    go_frame
    have HG0 := Lib.hid hg0
    have hst : KRg A1 wA H A1.heap.size (Maps.has H.GD) (Maps.size H.GD) (.slice none 0 0) [] := ⟨hrg0, SRow.nil _ _, Collected.start _, Below.of_grown_none hg0, Nat.le_refl _⟩
    clear hrg0 hg0 c0 c1 hhl hown
    go_loopw [6] (fun v wr => ∃ (left : Lit → Bool) (cnt : Nat) (ss : List ByteArray), KRg A1 wr H A1.heap.size left cnt v ss)
      (fun _ wr => wr.rangeLeft H.gm A1.heap.size)
    case atStart => exact ⟨_, _, _, hst⟩
    case round =>
      obtain ⟨left, cnt, ss, hM⟩ := hrel
      have hrg := hM.rg
      go_wp2_with (first
        | (at_next; refine wpList_next_ranges _ rfl _ rfl 9 string_keys ptrR Value.string (fun b : Nat => Value.pointer (some ⟨b, 0, none⟩)) (fun key kl hkey => Maps.keyOf_string_inv Tryz.underlying9 hkey) (fun v y hv => by obtain ⟨b, h1, -⟩ := ptrR_inv hv; exact ⟨b, h1⟩) H.gm A1.heap.size _ _ _ _ rfl hrg ?_ ?_)
        | go_in)
      · intro _ hl0
        have hH := H2.out.below hM.bel
        obtain ⟨hks, hkl⟩ := keys_done H2.out hM hl0
        obtain ⟨q, c', rfl⟩ := hM.row.slice
        have SO := Lib.hid (sort_texts _ ss _ wr hM.row (by omega))
        have HM := Lib.hid hM
        have HKS := Lib.hid hks
        have hss : ss.length ≤ 100000000 := by omega
        clear hM hrg hl0 hH hks hkl
        go_wp2_with fail
        refine SO.out.mono ?_
        rintro e w2 ⟨rfl, hrow, hg⟩
        have HRW := Lib.hid hrow
        have HG := Lib.hid hg
        clear hrow hg
        have hSt : SndR w base H s (.slice q ss.length c') (keysA (absG H)) ids0 0 H.gs v0 ids0 w2 := by
          have h1 : Below A1.heap.size A1 w2 := HM.out.bel.grown HG.out HM.out.bel.size (fun k hk => by have := (HM.out.row.lt k hk).1; omega)
          have h2 := HB1.out.size
          have h3 := HB2.out.size
          have h4 : Below w.heap.size w A1 := HB1.out.trans (HB2.out.mono h2)
          refine ⟨H2.out.below h1, rfl, ownsRow_mono (row_of_heap HR0.out fun b e => h1.block b (HR0.out.lt b e).2) h2, ?_, Frame.of_below (h4.trans (h1.mono h4.size)), fun y hy b hb => ⟨y, hy, hb⟩, by omega, rfl⟩
          rw [← HKS.out]
          exact ownsRow_mono HRW.out (by omega)
        have hKl : (keysA (absG H)).length = ss.length := by
          rw [← HKS.out]; unfold sortS lists; simp
        have HST := Lib.hid hSt
        have hidl : ids0.length ≤ 100000000 := HLEN.out
        obtain ⟨K, hK⟩ : ∃ K, keysA (absG H) = K := ⟨_, rfl⟩
        rw [hK] at HST hKl
        have HKK := Lib.hid hK
        clear hSt hK
        obtain ⟨n, hn⟩ : ∃ n, ss.length = n := ⟨_, rfl⟩
        rw [hn] at HST hKl
        rw [hn]
        subst hKl
        have hKm : K.length ≤ 100000000 := by omega
        have CB : Hid (∀ f W, f.size ≤ 1048576 → Frame (FHub H) w W → Calls Tryz.prog 16 #[.string f, .string s] W fun e w' => e = .returned (.bool (matchB f s)) ∧ Below W.heap.size W w') := fun f W hf hb => topicMatch_any indexByte_said valid_said contains_said dollar_said f s W hf hs (HT0.out.below (below_frame HB0.out hb fun b hb => by rw [HBASE.out]; exact (HH.out.lt hb).1))
        clear hn
        go_wp2_with fail
        go_loopw [5, 41] (fun s5 s41 wr => ∃ (i : Nat) (gs : List KG) (out : List Int), s41 = .int .i64 (i : Nat) ∧ i ≤ K.length ∧ Hid (SndR w base H s (.slice q K.length c') K ids0 i gs s5 out wr)) (fun _ s41 _ => K.length - (intOf s41).toNat)
        case atStart => exact ⟨0, H.gs, ids0, rfl, Nat.zero_le _, HST.out⟩
        case round =>
          obtain ⟨i, gs, out, rfl, hi, HS⟩ := hrel
          by_cases hlt : i < K.length
          · obtain ⟨k, hk⟩ : ∃ k, K[i]? = some k := ⟨_, List.getElem?_eq_getElem hlt⟩
            obtain ⟨x, hx, hxk⟩ := HS.out.at_key HKK.out hk
            subst hxk
            obtain ⟨g, rfl⟩ := HS.out.keys.some_ptr (by omega)
            have hcs := HS.out.keys.cell hk
            have hbs := World.block_lt_of_cell? wr _ hcs
            obtain ⟨d0, d1⟩ := HS.out.is.cells
            have hhl := HS.out.is.hlt
            obtain ⟨hgi, hne, htn, hks, n0, hsp, hn0⟩ := HS.out.is.each x hx
            have hlk := HS.out.is.look (s := x.key) hks
            rw [(HS.out.is.gby x.key x.g.gb).2 ⟨x, hx, rfl, rfl⟩] at hlk
            simp only [Option.map_some] at hlk
            have HX := Lib.hid hx
            have HK := Lib.hid hk
            have HGI := Lib.hid hgi
            have HNE := Lib.hid hne
            have HTN := Lib.hid htn
            obtain ⟨-, -, e5⟩ := hgi.cells
            have hgl := hgi.lt (List.mem_cons_self ..)
            have hfs : x.g.fil.size ≤ 1048576 := Nat.le_trans (split_size hsp) hks
            have hltI : (i : Int) < (K.length : Int) := by omega
            have hi0 : (0 : Int) ≤ (i : Int) := by omega
            have CBW := Lib.hid (CB.out x.g.fil wr hfs HS.out.fr)
            clear hx hk hgi hne htn hsp hn0
            go_wp2_with fail
            refine CBW.out.mono ?_
            rintro e w3 ⟨rfl, hb3⟩
            have hB3 := hb3
            have HS3 := Lib.hid (HS.out.below hb3)
            clear hb3 hgl hhl hbs hcs d0 d1 hlk e5
            have HB3 := Lib.hid hB3
            clear hB3
            cases hm : matchB x.g.fil s with
            | false =>
              have HS4 := Lib.hid (HS3.out.skip HX.out HK.out hm)
              clear hm
              go_wp2_with fail
              go_roundw
              case rel => exact ⟨i + 1, gs, out, by go_num, by omega, HS4.out⟩
              case measure => simp [intOf]; omega
            | true =>
              have HMT := Lib.hid hm
              obtain ⟨qv, cv, rfl⟩ := IRow.slice HS3.out.row
              have hgi3 := (HS3.out.is.each x HX.out).1
              obtain ⟨⟨q3, c3, hq3⟩, -, -⟩ := hgi3.cells
              obtain ⟨mb, hmb, rfl⟩ := hq3 HNE.out
              obtain ⟨id, hid⟩ : ∃ id, x.g.ids[x.g.tn]? = some id := ⟨_, List.getElem?_eq_getElem HTN.out⟩
              obtain ⟨mp, mn, hmbx⟩ := hgi3.mem _ mb id hmb hid
              have cid : w3.cell? ⟨mb, 2, none⟩ = some (.int .i64 id) := by rw [cell_of_row _ _ _ _ _ _ hmbx]; rfl
              have hgl3 := hgi3.lt (List.mem_cons_self ..)
              have hml3 := World.block_lt_of_cell? w3 _ cid
              have HMB := Lib.hid hmb
              have HID := Lib.hid hid
              have hol : out.length ≤ 200000000 := by have := HS3.out.len; omega
              have HSA := Lib.hid (HS3.out.below (w' := w3.alloc (.cells #[.int .i64 id] 3)) ((Below.refl _ _).alloc (Nat.le_refl _) _))
              have hwl : w.heap.size ≤ w3.heap.size := HS3.out.fr.size
              obtain ⟨i0, hi0', hz0, hz1, hz2⟩ := info_parts info_int
              clear hm hgi3 hmb hid hmbx hq3
              go_wp2_with (first | (at_builtin; refine wpList_append_own _ rfl _ _ 26 rfl w.heap.size 3 i0 (.int .i64 0) 1 8 Tryz.underlying26 hi0' hz0 hz1 hz2 rfl (by decide) _ _ _ rfl HSA.out.row ⟨w3.heap.size, 0, none⟩ 1 1 [.int .i64 id] rfl rfl (cell_one_new _ _ _) (by intro u hu; simp at hu; subst hu; rfl) (by unfold maxLen; omega) (by omega) (by simp; omega) ?_; intro v2 w4 hown2 hg2 hnil2; have HOW := Lib.hid hown2; have HG4 := Lib.hid (show World.grownBy _ w4 (Value.slice qv out.length cv).ownBlock from hg2); have H4 := Lib.hid (HSA.out.grown HH.out HG4.out); obtain ⟨⟨q4, c34, hq4⟩, -, -⟩ := (H4.out.each x HX.out).1.cells; obtain ⟨mb4, hmb4, rfl⟩ := hq4 HNE.out; obtain rfl : mb4 = mb := (by rw [HMB.out] at hmb4; injection hmb4 with e; exact e.symm); have hgl4 := (H4.out.each x HX.out).1.lt (List.mem_cons_self ..); clear hown2 hg2 hnil2 hq4 hmb4))
              have CBH := Lib.hid (behind_any w4 base x.g x.g.tn mb4 (H4.out.each x HX.out).1 HMB.out)
              refine CBH.out.mono ?_
              rintro e w5 ⟨⟨c, hc, rfl⟩, hw5⟩
              subst hw5
              have HC := Lib.hid hc
              unfold ptr
              obtain ⟨bp, bn, btp, hbx, -⟩ := (H4.out.each x HX.out).1.box
              have f3 := frozen_of_row w5 x.g.gb 3 _ _ hbx
              have HS5 := Lib.hid (HSA.out.turn HH.out HX.out HK.out HMT.out HG4.out (show IRow w5 w.heap.size v2 (out ++ [id]) by unfold IRow ints; rw [List.length_append, List.map_append]; exact HOW.out) HID.out HC.out)
              clear hc hbx c3 cid
              go_wp2_with fail
              go_roundw
              case rel => exact ⟨i + 1, _, _, by go_num, by omega, HS5.out⟩
              case measure => simp [intOf]; omega
          · obtain rfl : i = K.length := by omega
            have hnI : ¬ (K.length : Int) < (K.length : Int) := by omega
            go_wp2_with fail
            rw [← HPP.out]
            have hfold := HS.out.fold
            rw [List.take_length] at hfold
            refine ⟨{ H with gs := gs }, _, ids0, out, rfl, HS.out.row, ⟨HP0.out, HM0.out, ?_, rfl⟩, ⟨HS.out.is, rfl, rfl, HS.out.fr, fun b hb => ?_⟩, rfl, rfl⟩
            · rw [HF.out, if_pos rfl]
              show (gs.map KG.ag, out) = (keysA (absG H)).foldl _ _
              rw [hfold, HKK.out]
            · rcases hb with hb | hb | hb | ⟨y, hy, hb⟩
              · exact .inl (.inl hb)
              · exact .inl (.inr (.inl hb))
              · exact .inl (.inr (.inr (.inl hb)))
              · obtain ⟨x, hx, hb⟩ := HS.out.blk y hy b hb
                exact .inl (.inr (.inr (.inr ⟨x, hx, hb⟩)))
      · intro l b kl d ps w1 cnt1 hkey hlx hR hat hrg1 hlt hg1 hs1 hen
        obtain rfl : kl = .string l.data.toList := by
          simp [keyOf, mapKey, Tryz.underlying9] at hkey
          exact hkey.2.symm
        obtain ⟨q, c', rfl⟩ := hM.row.slice
        have hrow1 : SRow w1 (A1.heap.size + 1) (.slice q ss.length c') ss := hM.row.of_heap fun k e => hg1.block k (hM.row.lt k e).2 (fun e2 => by
          injection e2 with e2
          have := (hM.row.lt k e).1
          omega)
        have hcol := hM.col.step hlx hat
        have hsl : ss.length ≤ 100000000 := by
          have h1 := hM.col.1
          have h2 : ∀ x ∈ lists ss, x ∈ lists (H.gs.map (·.key)) := fun x hx => H2.out.met ((hM.col.2 x).1 hx).1
          have := nodup_le h1 h2
          unfold lists at this
          simp at this
          omega
        have hr1 : A1.heap.size < w1.heap.size := hrg1.lt
        have HM := Lib.hid hM
        have HG1 := Lib.hid hg1
        have HRG1 := Lib.hid hrg1
        have HLT := Lib.hid hlt
        have HRW := Lib.hid hrow1
        have HCOL := Lib.hid hcol
        obtain ⟨i0, hi, hz0, hz1, hz2⟩ := info_parts info_string
        clear hM hg1 hrg1 hat hlx hlt hrow1 hs1 hR hkey hcol hrg
        go_wp2_with (first | (at_builtin; refine wpList_append_own _ rfl _ _ 55 rfl (A1.heap.size + 1) 9 i0 (.string ByteArray.empty) 1 16 Tryz.underlying55 hi hz0 hz1 hz2 rfl (by decide) _ _ _ rfl (HRW.out.alloc _) ⟨w1.heap.size, 0, none⟩ 1 1 [.string l] rfl rfl (cell_one_new _ _ _) (by intro u hu; simp at hu; subst hu; rfl) (by unfold maxLen; omega) (by omega) (by simp; omega) ?_; intro v2 w2 hown2 hg2 hnil2; have HOW := Lib.hid hown2; have HG2 := Lib.hid (show World.grownBy _ w2 (Value.slice q ss.length c').ownBlock from hg2); clear hown2 hg2 hnil2) | go_in)
        have hgl := HRG1.out.owns.lt
        have hwa : ∀ k, k = H.gm ∨ k = A1.heap.size → k ≠ (w1.alloc (.cells #[.string l] 9)).heap.size → some k ≠ (Value.slice q ss.length c').ownBlock := by
          intro k hk _ e
          have := (HRW.out.lt k e.symm).1
          have := H2.out.gmap.lt
          rcases hk with rfl | rfl <;> omega
        have hrg2 := (HRG1.out.alloc (.cells #[.string l] 9)).kept HG2.out (hwa H.gm (.inl rfl) (by simp; omega)) (hwa _ (.inr rfl) (by simp; omega))
        have HRG2 := Lib.hid hrg2
        clear hrg2 hwa
        go_roundw
        case rel =>
          refine ⟨_, cnt1, ss ++ [l], HRG2.out, by unfold SRow; rw [List.length_append, List.map_append]; exact HOW.out, by rw [lists_snoc]; exact HCOL.out, ?_, Nat.le_refl _⟩
          have h1 := HM.out.bel.grown HG1.out HM.out.bel.size (fun k hk => by injection hk with hk; omega)
          have h2 : Below A1.heap.size A1 (w1.alloc (.cells #[.string l] 9)) := h1.alloc (Nat.le_of_lt hr1) _
          exact h2.grown HG2.out h2.size (fun k hk => by have := (HRW.out.lt k hk).1; omega)
        case measure => rw [HRG2.out.left_eq, HM.out.rg.left_eq]; exact HLT.out
end Go.Proofs.YtincmegllckcjaaGreatDoor
