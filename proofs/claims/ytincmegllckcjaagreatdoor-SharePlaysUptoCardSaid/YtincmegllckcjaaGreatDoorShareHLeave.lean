/- SHARE: Hub.Leave. -/
import Derived.Test.YtincmegllckcjaaGreatDoorShareHJoin
namespace Go.Proofs.YtincmegllckcjaaGreatDoor
open Go Go.RowKit
attribute [local go_sem ↓] Go.wp_at_zero Go.wp_at_succ

def delA (G : List AG) (s : ByteArray) : List AG := G.filter fun a => decide (a.key.data.toList ≠ s.data.toList)
open Classical in
noncomputable def leaveA (st : HSt) (s : ByteArray) (id : Int) : Bool × HSt := match splitK s with
  | none => (false, st)
  | some x => if x.1.size = 0 then (decide ((x.2, id) ∈ st.1), subS st.1 x.2 id, st.2)
    else match findA st.2 s with
      | none => (false, st)
      | some a => if id ∈ a.ids then
          (if a.ids.length = 1 then (true, st.1, delA st.2 s) else (true, st.1, setA st.2 s { a with ids := a.ids.eraseIdx (a.ids.idxOf id), tn := turnL a.tn (a.ids.idxOf id) a.ids.length }))
        else (false, st)
theorem idx_nodup {x : Int} : ∀ {l : List Int} {i : Nat}, l.Nodup → l[i]? = some x → l.idxOf x = i
  | [], _, _, h => by cases h
  | a :: l, 0, _, h => by
    have h : some a = some x := h
    injection h with h
    subst h
    simp
  | a :: l, i + 1, hn, h => by
    have h : l[i]? = some x := h
    rw [List.nodup_cons] at hn
    have hne : a ≠ x := fun e => hn.1 (e ▸ List.mem_of_getElem? h)
    rw [List.idxOf_cons, beq_false_of_ne hne]
    show l.idxOf x + 1 = i + 1
    rw [idx_nodup hn.2 h]
theorem abs_delG (gs : List KG) (s : ByteArray) : (gs.filter fun x => decide (x.key.data.toList ≠ s.data.toList)).map KG.ag = delA (gs.map KG.ag) s := by
  unfold delA
  rw [List.filter_map]
  rfl
/-- an empty group is taken away -/
theorem HubG.delG2 {W W' : World} {base : Nat} {H : Hb} {s : ByteArray} (h : HubG W base H) (hfr : Frame (fun b => b = H.gm ∨ ∃ x ∈ H.gs, x.key = s ∧ b ∈ x.g.blocks) W W') (hmap : W'.ownsMap Tryz.prog 9 ptrR H.gm H.gn (H.GD.del (.string s.data.toList))) : HubG W' base { H with gs := H.gs.filter (fun x => decide (x.key.data.toList ≠ s.data.toList)), GD := H.GD.del (.string s.data.toList) } := by
  have hk : ∀ b, b < W.heap.size → b ≠ H.gm → (∀ x ∈ H.gs, x.key = s → b ∉ x.g.blocks) → W'.heap[b]? = W.heap[b]? := fun b h1 h2 h3 => hfr.block b h1 (fun e => by
    rcases e with e | ⟨x, hx, e, hb⟩
    · exact h2 e
    · exact h3 x hx e hb)
  have hmem : ∀ {y : KG}, y ∈ H.gs.filter (fun x => decide (x.key.data.toList ≠ s.data.toList)) ↔ y ∈ H.gs ∧ y.key ≠ s := fun {y} => by
    rw [List.mem_filter, decide_eq_true_eq]
    exact and_congr_right fun _ => ⟨fun h e => h (by rw [e]), fun h e => h (bytes_inj e)⟩
  refine ⟨(hk _ h.hlt h.hg fun x hx _ e => (h.sep x hx _ e).1 rfl).trans h.box, h.tri.kept fun b hb => hk b ?_ (fun e => ?_) (fun x hx _ e => ?_), hmap, fun key b => ?_, ?_, fun y hy => ?_, h.hg, fun y hy b hb => h.sep y (hmem.1 hy).1 b hb, fun y hy z hz hyz b hb hb2 => h.sep2 y (hmem.1 hy).1 z (hmem.1 hz).1 hyz b hb hb2, h.off1, h.off2, h.lo⟩
  · rcases hb with rfl | hb
    · exact h.tri.tri.lt
    · exact (h.tri.tri.is.lt hb).2
  · rcases hb with hb | hb
    · exact h.off2.1 (e ▸ hb)
    · exact h.off2.2 (e ▸ hb)
  · obtain ⟨-, -, h3, h4⟩ := h.sep x hx b e
    rcases hb with hb | hb
    · exact h3 hb
    · exact h4 hb
  · by_cases e : key = s
    · subst e
      rw [kid_del_same]
      constructor
      · intro e; cases e
      · rintro ⟨y, hy, h1, -⟩
        exact absurd h1 (hmem.1 hy).2
    · rw [kid_del_other e, h.gby]
      constructor
      · rintro ⟨y, hy, h1, h2⟩; exact ⟨y, hmem.2 ⟨hy, fun e2 => e (h1.symm.trans e2)⟩, h1, h2⟩
      · rintro ⟨y, hy, h1, h2⟩; exact ⟨y, (hmem.1 hy).1, h1, h2⟩
  · exact h.keys.sublist ((List.filter_sublist).map _)
  · obtain ⟨hy1, hy2⟩ := hmem.1 hy
    obtain ⟨h1, h2⟩ := h.each y hy1
    exact ⟨h1.kept fun b hb => hk b (h1.lt hb) (h.sep y hy1 b hb).2.1 (fun x hx e e2 => h.sep2 y hy1 x hx (fun e3 => hy2 (e3.trans e)) b hb e2), h2⟩
def LeavePost (w : World) (base : Nat) (H : Hb) (s : ByteArray) (id : Int) (e : Ending) (w' : World) : Prop := ∃ H', e = .returned (.bool (leaveA (H.l, absG H) s id).1) ∧ HubTo w base H w' H' ∧ (H'.l, absG H') = (leaveA (H.l, absG H) s id).2 ∧ H'.sz = H.sz ∧ H'.gn = H.gn
set_option maxRecDepth 100000 in
set_option maxHeartbeats 8000000 in
theorem hubLeave_any (w : World) (base : Nat) (H : Hb) (s : ByteArray) (id : Int) (h : HubG w base H) (hT : Tabs w) (hs : s.size ≤ 1048576) (hz : (Lit.int .i64 id).wf = true) (hsz : H.sz ≤ 100000000) (hl : H.l.length ≤ 100000000) :
    Calls Tryz.prog 20 #[.pointer (some ⟨H.hb, 0, none⟩), .string s, .int .i64 id] w (LeavePost w base H s id) := by
  obtain ⟨PP, hPP⟩ : ∃ PP : Ending → World → Prop, LeavePost w base H s id = PP := ⟨_, rfl⟩
  rw [hPP]
  have HPP := Lib.hid hPP
  have HH := Lib.hid h
  have HT := Lib.hid hT
  have CS : Hid (Calls Tryz.prog 17 #[.string s] w fun e w' => e = .returned (splitV s) ∧ Below w.heap.size w w') := split_any s w hs hT
  clear hPP h hT
  cases hk : splitK s with
  | none =>
    have HSV := Lib.hid (split_no hk)
    have HJ : Hid (leaveA (H.l, absG H) s id = (false, H.l, absG H)) := by
      show leaveA _ _ _ = _
      unfold leaveA; rw [hk]
    clear hk
    go_enter Tryz.func20, Tryz.ntmps20
    go_wp2_with fail
    refine CS.out.mono ?_
    rintro e w1 ⟨rfl, hb1⟩
    rw [HSV.out]
    have HH1 := Lib.hid (HH.out.below hb1)
    have HB1 := Lib.hid hb1
    have CN := Lib.hid (hub_no HH1.out)
    clear hb1
    go_wp2_with fail
    refine CN.out.mono ?_
    rintro e w2 ⟨rfl, hw⟩
    subst w2
    obtain ⟨c0, c1⟩ := HH1.out.cells
    have hhl := HH1.out.hlt
    go_wp2_with fail
    rw [← HPP.out]
    exact ⟨H, by (rw [HJ.out]; try rfl), HH.out.same HB1.out, by rw [HJ.out], rfl, rfl⟩
  | some x =>
    obtain ⟨n, f⟩ := x
    have HSV := Lib.hid (split_yes hk)
    have hfs : f.size ≤ s.size := split_size hk
    by_cases hn : n.size = 0
    · have hl1 : n.toList = [] := by rw [ByteArray.toList_eq]; exact List.eq_nil_of_length_eq_zero (by rw [show n.data.toList.length = n.size from Array.length_toList]; exact hn)
      have hl2 : n.toList.isEmpty = true := by rw [hl1]; rfl
      have HJ : Hid (∀ ok : Bool, (ok = true ↔ (f, id) ∈ H.l) → leaveA (H.l, absG H) s id = (ok, subS H.l f id, absG H)) := fun ok hok => by
        unfold leaveA
        rw [hk]
        simp only [hn, if_true]
        refine Prod.ext ?_ rfl
        exact dec_of hok
      clear hk hn
      go_enter Tryz.func20, Tryz.ntmps20
      go_wp2_with fail
      refine CS.out.mono ?_
      rintro e w1 ⟨rfl, hb1⟩
      rw [HSV.out]
      have HH1 := Lib.hid (HH.out.below hb1)
      have HB1 := Lib.hid hb1
      have CN := Lib.hid (hub_no HH1.out)
      clear hb1
      go_wp2_with fail
      refine CN.out.mono ?_
      rintro e w2 ⟨rfl, hw⟩
      subst w2
      obtain ⟨c0, c1⟩ := HH1.out.cells
      have hhl := HH1.out.hlt
      go_wp2_with fail
      refine (tof_remove f id HH1.out.tri (by omega) (HT.out.below HB1.out) (by omega) (by omega)).mono ?_
      rintro e w3 ⟨ok, T', rfl, hok, ho, hfr, hft⟩
      have HJ2 := Lib.hid (HJ.out ok hok)
      have HTO : Hid (HubTo w1 base H w3 { H with sz := H.sz, T := T', l := subS H.l f id }) := ⟨HH1.out.trie hfr ho (fun b hb => .inl (hft b hb)), rfl, rfl, hfr.mono (fun b hb => by rcases hb with hb | hb; exact .inl hb; exact .inr (.inl hb)), fun b hb => by
        rcases hb with rfl | hb | hb | hb
        · exact .inl (.inl rfl)
        · exact .inl (.inr (.inl (hft b hb)))
        · exact .inl (.inr (.inr (.inl hb)))
        · exact .inl (.inr (.inr (.inr hb)))⟩
      clear hok ho hfr hft
      go_wp2_with fail
      rw [← HPP.out]
      exact ⟨_, by (rw [HJ2.out]; try rfl), HTO.out.after HB1.out, by rw [HJ2.out]; rfl, rfl, rfl⟩
    · have hl1 : ¬ n.toList = [] := by rw [ByteArray.toList_eq]; intro e; apply hn; rw [← show n.data.toList.length = n.size from Array.length_toList, e]; rfl
      have hl2 : n.toList.isEmpty = false := by cases hh : n.toList with
        | nil => exact absurd hh hl1
        | cons a b => rfl
      cases hkd : kid H.GD s with
      | some gb =>
        obtain ⟨x, hx, hxk, hxg⟩ := (HH.out.gby s gb).1 hkd
        subst hxk; subst hxg
        have HX := Lib.hid hx
        have hfd : findA (absG H) x.key = some x.ag := find_some HH.out.keys hx
        have HJ0 : Hid (id ∉ x.g.ids → leaveA (H.l, absG H) x.key id = (false, H.l, absG H)) := fun h1 => by
          unfold leaveA
          rw [hk]
          simp only [hn, if_false]
          rw [hfd]
          simp only
          rw [if_neg (show ¬ id ∈ x.ag.ids from h1)]
        have HJ1 : Hid (id ∈ x.g.ids → x.g.ids.length = 1 → leaveA (H.l, absG H) x.key id = (true, H.l, delA (absG H) x.key)) := fun h1 h2 => by
          unfold leaveA
          rw [hk]
          simp only [hn, if_false]
          rw [hfd]
          simp only
          rw [if_pos (show id ∈ x.ag.ids from h1), if_pos (show x.ag.ids.length = 1 from h2)]
        have HJ2 : Hid (∀ (i : Nat) (g' : Grp), x.g.ids[i]? = some id → x.g.ids.length ≠ 1 → g'.fil = x.g.fil → g'.ids = x.g.ids.eraseIdx i → g'.tn = turnL x.g.tn i x.g.ids.length → leaveA (H.l, absG H) x.key id = (true, H.l, setA (absG H) x.key (KG.ag ⟨x.key, g'⟩))) := fun i g' h1 h2 h3 h4 h5 => by
          have hidx : x.g.ids.idxOf id = i := idx_nodup (HH.out.each x hx).1.idn h1
          unfold leaveA
          rw [hk]
          simp only [hn, if_false]
          rw [hfd]
          simp only
          rw [if_pos (show id ∈ x.ag.ids from List.mem_of_getElem? h1), if_neg (show ¬ x.ag.ids.length = 1 from h2), show x.ag.ids.idxOf id = i from hidx]
          unfold KG.ag
          simp only [h3, h4, h5]
        have hlk := fun W (hb : Below w.heap.size w W) => (HH.out.below hb).look (s := x.key) hs
        rw [hkd] at hlk
        have HLK := Lib.hid hlk
        obtain ⟨hgi, hne, htn, -, -⟩ := HH.out.each x hx
        have HNE2 := Lib.hid hne
        have HTN2 := Lib.hid htn
        clear hk hn hkd hx hfd hlk hgi hne htn
        go_enter Tryz.func20, Tryz.ntmps20
        go_wp2_with fail
        refine CS.out.mono ?_
        rintro e w1 ⟨rfl, hb1⟩
        rw [HSV.out]
        have HH1 := Lib.hid (HH.out.below hb1)
        have HB1 := Lib.hid hb1
        have CN := Lib.hid (hub_no HH1.out)
        clear hb1
        go_wp2_with fail
        refine CN.out.mono ?_
        rintro e w2 ⟨rfl, hw⟩
        subst w2
        obtain ⟨c0, c1⟩ := HH1.out.cells
        have hhl := HH1.out.hlt
        have hlk1 := HLK.out w1 HB1.out
        simp only [Option.map_some] at hlk1
        go_wp2_with fail
        refine (leave_any w1 base x.g id (HH1.out.each x HX.out).1 hz (fun _ => HTN2.out)).mono ?_
        rintro e w3 ⟨ok, g', rfl, hok, hto, hfa, htr⟩
        have HTO3 := Lib.hid hto
        have HGI3 := Lib.hid hto.is
        obtain ⟨p3, n3, tp3, hbx3, -⟩ := HGI3.out.box
        have g4 : w3.cell? ⟨x.g.gb, 4, none⟩ = some (.map (some g'.mb)) := by rw [← hto.gb, cell_of_row _ _ _ _ _ _ hbx3]; rfl
        have hgl3 : x.g.gb < w3.heap.size := World.block_lt_of_cell? w3 _ g4
        have hln3 := fun ty => HGI3.out.map.len (t := 75) (e := 70) Tryz.underlying75 ty
        rw [HGI3.out.sz] at hln3
        have HGM3 : Hid (w3.ownsMap Tryz.prog 9 ptrR H.gm H.gn H.GD) := map_kept HH1.out.gmap (hto.fr.block H.gm HH1.out.gmap.lt (fun e => (HH1.out.sep x HX.out _ e).2.1 rfl))
        have d1 : w3.cell? ⟨H.hb, 1, none⟩ = some (.map (some H.gm)) := (cell_same (hto.fr.block H.hb hhl (fun e => (HH1.out.sep x HX.out _ e).1 rfl))).trans c1
        have hhl3 : H.hb < w3.heap.size := World.block_lt_of_cell? w3 _ d1
        cases ok with
        | false =>
          have HNI : Hid (id ∉ x.g.ids) := fun e => by cases hok.2 e
          have HFA := Lib.hid (hfa rfl)
          have HB13 : Hid (HubG w3 base H ∨ True) := .inr trivial
          have HTOG : Hid (HubTo w1 base H w3 { H with gs := setG H.gs x.key g' }) := ⟨HH1.out.group HX.out hto (by rw [HFA.out.1]; exact HNE2.out) (by rw [HFA.out.1, HFA.out.2]; exact HTN2.out), rfl, rfl, hto.fr.mono (fun b hb => .inr (.inr (.inr ⟨x, HX.out, hb⟩))), fun b hb => by
            rcases hb with hb | hb | hb | ⟨y, hy, hb⟩
            · exact .inl (.inl hb)
            · exact .inl (.inr (.inl hb))
            · exact .inl (.inr (.inr (.inl hb)))
            · rcases mem_setG hy with ⟨rfl, -⟩ | ⟨hy, -⟩
              · rcases hto.own b hb with h1 | h1
                · exact .inl (.inr (.inr (.inr ⟨x, HX.out, h1⟩)))
                · exact .inr h1
              · exact .inl (.inr (.inr (.inr ⟨y, hy, hb⟩)))⟩
          have HA : Hid (setA (absG H) x.key (KG.ag ⟨x.key, g'⟩) = absG H) := setA_same fun b hb he => by
            unfold absG at hb
            obtain ⟨y, hy, rfl⟩ := List.mem_map.1 hb
            have := HH1.out.one hy HX.out (bytes_inj he)
            subst this
            unfold KG.ag
            simp only [HTO3.out.fil, HFA.out.1, HFA.out.2]
          clear hok hto hfa htr hlk1 hbx3 g4 hln3 d1
          go_wp2_with fail
          rw [← HPP.out]
          have hJ := HJ0.out HNI.out
          exact ⟨_, by (rw [hJ]; try rfl), HTOG.out.after HB1.out, by rw [hJ]; show (H.l, (setG H.gs x.key g').map KG.ag) = _; rw [abs_setG, show setA (H.gs.map KG.ag) x.key (KG.ag ⟨x.key, g'⟩) = _ from HA.out], rfl, rfl⟩
        | true =>
          obtain ⟨i, hi, hids, htn⟩ := htr rfl
          have hil := (List.getElem?_eq_some_iff.1 hi).1
          have HI := Lib.hid hi
          have HMI : Hid (id ∈ x.g.ids) := hok.1 rfl
          have hlen : g'.ids.length = x.g.ids.length - 1 := by rw [hids, List.length_eraseIdx, if_pos hil]
          rw [hlen] at hln3
          by_cases h1 : x.g.ids.length = 1
          · have H1 := Lib.hid h1
            have hln4 : ∀ ty, (Builtin.len_ #[75] ty #[.map (some g'.mb)]).run Tryz.prog w3 = .ok (.int .i64 0) w3 := by
              rw [h1] at hln3
              exact hln3
            obtain ⟨w4, hdel, hown, hturn⟩ := World.ownsMap.drop (t := 59) (e := 65) HGM3.out string_keys Tryz.underlying59 (WideMaps.keyOf_string_mk Tryz.underlying9 (s := x.key) (by unfold maxLen; omega)) 0
            have hdel : (Builtin.delete_ #[59, 9] 0 #[.map (some H.gm), .string x.key]).run Tryz.prog w3 = .ok (.tuple #[]) w4 := hdel
            have HGR := Lib.hid hturn.grown
            have HOW := Lib.hid hown
            have hfr4 : Frame (fun b => b = H.gm ∨ ∃ y ∈ H.gs, y.key = x.key ∧ b ∈ y.g.blocks) w1 w4 := ⟨HGR.out.os.trans hto.fr.os, HGR.out.tape.trans hto.fr.tape, HGR.out.output.trans hto.fr.output, Nat.le_trans hto.fr.size HGR.out.size, fun b h1 h2 => by
              have h3 : b < w3.heap.size := Nat.lt_of_lt_of_le h1 hto.fr.size
              rw [HGR.out.block b h3 (fun e => h2 (.inl (by injection e))), hto.fr.block b h1 (fun e => h2 (.inr ⟨x, HX.out, rfl, e⟩))]⟩
            have HTOG : Hid (HubTo w1 base H w4 { H with gs := H.gs.filter (fun y => decide (y.key.data.toList ≠ x.key.data.toList)), GD := H.GD.del (.string x.key.data.toList) }) := ⟨HH1.out.delG2 hfr4 hown, rfl, rfl, hfr4.mono (fun b hb => by
              rcases hb with hb | ⟨y, hy, -, hb⟩
              · exact .inr (.inr (.inl hb))
              · exact .inr (.inr (.inr ⟨y, hy, hb⟩))), fun b hb => by
              rcases hb with hb | hb | hb | ⟨y, hy, hb⟩
              · exact .inl (.inl hb)
              · exact .inl (.inr (.inl hb))
              · exact .inl (.inr (.inr (.inl hb)))
              · have hy : y ∈ H.gs.filter (fun y => decide (y.key.data.toList ≠ x.key.data.toList)) := hy
                exact .inl (.inr (.inr (.inr ⟨y, (List.mem_filter.1 hy).1, hb⟩)))⟩
            clear hok hto hfa htr hlk1 hbx3 hln3 hi hids htn hil hlen h1 hown hturn hfr4
            go_wp2_with fail
            rw [← HPP.out]
            have hJ := HJ1.out HMI.out H1.out
            exact ⟨_, by (rw [hJ]; try rfl), HTOG.out.after HB1.out, by rw [hJ]; show (H.l, (H.gs.filter (fun y => decide (y.key.data.toList ≠ x.key.data.toList))).map KG.ag) = _; rw [abs_delG]; rfl, rfl, rfl⟩
          · have H1 := Lib.hid h1
            obtain ⟨n0, hn0⟩ : ∃ n : Int, ((x.g.ids.length - 1 : Nat) : Int) = n := ⟨_, rfl⟩
            rw [hn0] at hln3
            have hn1 : (n0 == 0) = false := by rw [beq_eq_false_iff_ne]; omega
            have HJ3 := Lib.hid (HJ2.out i g' hi h1 hto.fil hids htn)
            have HTOG : Hid (HubTo w1 base H w3 { H with gs := setG H.gs x.key g' }) := ⟨HH1.out.group HX.out hto (fun e => by rw [e] at hlen; simp at hlen; omega) (by
              have h2 := HTN2.out
              rw [htn, hlen]
              unfold turnL
              split
              · split <;> omega
              · split <;> omega), rfl, rfl, hto.fr.mono (fun b hb => .inr (.inr (.inr ⟨x, HX.out, hb⟩))), fun b hb => by
              rcases hb with hb | hb | hb | ⟨y, hy, hb⟩
              · exact .inl (.inl hb)
              · exact .inl (.inr (.inl hb))
              · exact .inl (.inr (.inr (.inl hb)))
              · rcases mem_setG hy with ⟨rfl, -⟩ | ⟨hy, -⟩
                · rcases hto.own b hb with h1 | h1
                  · exact .inl (.inr (.inr (.inr ⟨x, HX.out, h1⟩)))
                  · exact .inr h1
                · exact .inl (.inr (.inr (.inr ⟨y, hy, hb⟩)))⟩
            clear hok hto hfa htr hlk1 hbx3 hi hids htn hil hlen h1 d1 hn0
            go_wp2_with fail
            rw [← HPP.out]
            have hJ := HJ3.out
            exact ⟨_, by (rw [hJ]; try rfl), HTOG.out.after HB1.out, by rw [hJ]; show (H.l, (setG H.gs x.key g').map KG.ag) = _; rw [abs_setG]; rfl, rfl, rfl⟩
      | none =>
        have hno := HH.out.kid_none hkd
        have hfd : findA (absG H) s = none := find_none hno
        have HJ : Hid (leaveA (H.l, absG H) s id = (false, H.l, absG H)) := by
          show leaveA _ _ _ = _
          unfold leaveA
          rw [hk]
          simp only [hn, if_false]
          rw [hfd]
        have hlk := fun W (hb : Below w.heap.size w W) => (HH.out.below hb).look (s := s) hs
        rw [hkd] at hlk
        have HLK := Lib.hid hlk
        clear hk hn hkd hno hfd hlk
        go_enter Tryz.func20, Tryz.ntmps20
        go_wp2_with fail
        refine CS.out.mono ?_
        rintro e w1 ⟨rfl, hb1⟩
        rw [HSV.out]
        have HH1 := Lib.hid (HH.out.below hb1)
        have HB1 := Lib.hid hb1
        have CN := Lib.hid (hub_no HH1.out)
        clear hb1
        go_wp2_with fail
        refine CN.out.mono ?_
        rintro e w2 ⟨rfl, hw⟩
        subst w2
        obtain ⟨c0, c1⟩ := HH1.out.cells
        have hhl := HH1.out.hlt
        have hlk1 := HLK.out w1 HB1.out
        simp only [Option.map_none] at hlk1
        go_wp2_with fail
        rw [← HPP.out]
        exact ⟨H, by (rw [HJ.out]; try rfl), HH.out.same HB1.out, by rw [HJ.out], rfl, rfl⟩
end Go.Proofs.YtincmegllckcjaaGreatDoor
