/- SHARE: the reference's hub: Join. SHARE: the reference's hub: Leave. -/
import Derived.Maps.AppendAt
import Derived.BigRegion
import Derived.Deep.AppendLies
import Derived.Test.YtincmegllckcjaaGreatDoorShareRefA
import Derived.Test.YtincmegllckcjaaGreatDoorMShareWays
namespace Go.Proofs.YtincmegllckcjaaGreatDoor
section
open Go Go.RowKit
attribute [local go_sem ↓] Go.wp_at_zero Go.wp_at_succ

/-- what every hub keeps to -/
structure GoodSt (st : HSt) : Prop where
  keys : (st.2.map (·.key)).Nodup
  each : ∀ a ∈ st.2, a.ids ≠ [] ∧ a.tn < a.ids.length ∧ a.ids.length ≤ 256 ∧ a.ids.Nodup ∧ a.key.size ≤ 1048576 ∧ ∃ n, splitK a.key = some (n, a.fil) ∧ n ≠ ByteArray.empty
  subs : ∀ x ∈ st.1, filterB x.1 = true
  nd : st.1.Nodup
theorem HubS.good {w0 W : World} {P : Nat → Prop} {hb : Nat} {st : HSt} {L : List AM} {sz gn kn : Nat} (h : HubS w0 W P hb st L sz gn kn) : GoodSt st := by
  obtain ⟨H, kn', KD, KB, ms, -, h2, rfl, -⟩ := h
  refine ⟨?_, fun a ha => ?_, h2.hub.tri.ok, h2.hub.tri.nd⟩
  · show ((H.gs.map KG.ag).map (·.key)).Nodup
    rw [List.map_map]
    exact h2.hub.keys
  · obtain ⟨x, hx, rfl⟩ := List.mem_map.1 ha
    obtain ⟨h3, h4, h5, h6, h7⟩ := h2.hub.each x hx
    exact ⟨h4, h5, h3.few, h3.idn, h6, h7⟩
theorem ag_keys {gs : List RG} {G : List AG} (h : gs.map RG.ag = G) : gs.map (·.key) = G.map (·.key) := by
  rw [← h, List.map_map]
  rfl
theorem findA_none {G : List AG} {s : ByteArray} (h : ∀ a ∈ G, a.key ≠ s) : findA G s = none := by
  unfold findA
  rw [List.find?_eq_none]
  intro a ha e
  exact h a ha (ByteArray.ext (Array.ext' (of_decide_eq_true e)))
theorem nodup_at {G : List AG} (h : (G.map (·.key)).Nodup) {i j : Nat} {a b : AG} (hi : G[i]? = some a) (hj : G[j]? = some b) (e : a.key = b.key) : i = j := by
  have h1 : (G.map (·.key))[i]? = some a.key := by rw [List.getElem?_map, hi]; rfl
  have h2 : (G.map (·.key))[j]? = some a.key := by rw [List.getElem?_map, hj, e]; rfl
  have hil : i < (G.map (·.key)).length := (List.getElem?_eq_some_iff.1 h1).1
  exact (List.getElem?_inj hil h).1 (h1.trans h2.symm)
theorem findA_at {G : List AG} (h : (G.map (·.key)).Nodup) {i : Nat} {a : AG} (hi : G[i]? = some a) : findA G a.key = some a := by
  unfold findA
  obtain ⟨hil, ha⟩ := List.getElem?_eq_some_iff.1 hi
  rw [List.find?_eq_some_iff_getElem]
  refine ⟨decide_eq_true rfl, i, hil, ha, fun j hj => ?_⟩
  rw [Bool.not_eq_true', decide_eq_false_iff_not]
  intro e
  have := nodup_at h (List.getElem?_eq_getElem (show j < G.length by omega)) hi (ByteArray.ext (Array.ext' e))
  omega
theorem setA_at {G : List AG} (h : (G.map (·.key)).Nodup) {i : Nat} {a : AG} (hi : G[i]? = some a) (a' : AG) : setA G a.key a' = G.set i a' := by
  unfold setA
  refine List.ext_getElem? fun j => ?_
  rw [List.getElem?_map, List.getElem?_set]
  by_cases hij : i = j
  · subst hij
    have hil := (List.getElem?_eq_some_iff.1 hi).1
    rw [if_pos rfl, if_pos hil, hi]
    show some (if _ then _ else _) = _
    rw [if_pos rfl]
  · rw [if_neg hij]
    cases hj : G[j]? with
    | none => rfl
    | some b =>
      show some (if _ then _ else _) = _
      rw [if_neg fun e => hij (nodup_at h hi hj (ByteArray.ext (Array.ext' e)).symm)]
theorem map_set_ag {gs : List RG} {i : Nat} {x' : RG} : (gs.set i x').map RG.ag = (gs.map RG.ag).set i x'.ag := List.map_set ..
theorem info_group : (Tryz.prog.info? 122).map (fun i => (i.zero, i.size, i.bytes)) = some (some (.agg #[.string ByteArray.empty, .string ByteArray.empty, .slice none 0 0, .int .i64 0]), 4, 64) := by kernel_rfl
theorem dis_snoc {W : World} {base rb : Nat} {vs vg vm : Value} {l : Subs} {gs : List RG} {ms : List Mg} {KB : Nat → Prop} (h : RHub W base rb vs vg vm l gs ms KB) {g : RG} (hg : ∀ b, g.mv.ownBlock = some b → W.heap.size ≤ b) : Dis (gs ++ [g]) := by
  intro i j gi gj b hi hj hij h1 h2
  have at_ : ∀ {i : Nat} {x : RG}, (gs ++ [g])[i]? = some x → gs[i]? = some x ∨ (x = g ∧ i = gs.length) := fun {i x} hx => by
    rcases Nat.lt_or_ge i gs.length with h3 | h3
    · rw [List.getElem?_append_left h3] at hx; exact .inl hx
    · rw [List.getElem?_append_right h3] at hx
      have := (List.getElem?_eq_some_iff.1 hx).1
      have e : i - gs.length = 0 := by simp at this; omega
      rw [e] at hx
      injection hx with hx
      exact .inr ⟨hx.symm, by omega⟩
  rcases at_ hi with a | ⟨rfl, a⟩ <;> rcases at_ hj with c | ⟨rfl, c⟩
  · exact h.dis i j gi gj b a c hij h1 h2
  · have := hg b h2
    have := ((h.mem gi (List.mem_of_getElem? a)).lt b h1).2; omega
  · have := hg b h1
    have := ((h.mem gj (List.mem_of_getElem? c)).lt b h2).2; omega
  · omega
def RJoinPost (w0 w : World) (P : Nat → Prop) (rb : Nat) (st : HSt) (L : List AM) (s : ByteArray) (id : Int) (e : Ending) (w' : World) : Prop := e = .returned (.bool (joinA st s id).1) ∧ RefD w0 w P rb (joinA st s id).2 L w'
theorem refD_same {w0 w w' : World} {P : Nat → Prop} {rb : Nat} {st : HSt} {L : List AM} (h : RefS w0 w P rb st L) (h0 : w0.heap.size ≤ w.heap.size) (hb : Below w.heap.size w w') : RefD w0 w P rb st L w' := by
  obtain ⟨vs, vg, vm, gs, ms, KB, h1, h2, h3, h4, h5⟩ := h
  exact refD_of h4 h0 h5 (h1.below hb) h2 h3 (Frame.of_below (F := fun _ => False) hb) (fun _ e => e.elim) fun b e => e.elim .inl fun e => .inr (.inl e)
set_option maxRecDepth 100000 in
set_option maxHeartbeats 8000000 in
set_option linter.unusedSimpArgs false in
theorem refJoin_any (w0 w : World) (P : Nat → Prop) (rb : Nat) (st : HSt) (L : List AM) (s : ByteArray) (id : Int) (h : RefS w0 w P rb st L) (hGd : GoodSt st) (hB : Below w0.heap.size w0 w) (hT0 : Tabs w0) (hs : s.size ≤ 1048576) (hl : st.1.length ≤ 100000000) (hgl : st.2.length ≤ 100000000) :
    Calls Tryz.prog 47 #[.pointer (some ⟨rb, 0, none⟩), .string s, .int .i64 id] w (RJoinPost w0 w P rb st L s id) := by
  obtain ⟨PP, hPP⟩ : ∃ PP : Ending → World → Prop, RJoinPost w0 w P rb st L s id = PP := ⟨_, rfl⟩
  rw [hPP]
  have HPP := Lib.hid hPP
  have hT := hT0.below hB
  have HT := Lib.hid hT
  have HB0 := Lib.hid hB
  have HGD := Lib.hid hGd
  have HRS := Lib.hid h
  have CS : Hid (Calls Tryz.prog 54 #[.string s] w (SplitPost s w)) := refSplit_any s w hs hT
  clear hPP hT hT0 hGd hB
  cases hk : splitK s with
  | none =>
    have HSV := Lib.hid (split_no hk)
    have HJ : Hid (joinA st s id = (false, st)) := by
      show joinA _ _ _ = _
      unfold joinA; rw [hk]
    clear hk h
    go_enter Tryz.func47, Tryz.ntmps47
    go_wp2_with fail
    refine CS.out.mono ?_
    rintro e w1 ⟨rfl, hb1⟩
    rw [HSV.out]
    have HB1 := Lib.hid hb1
    clear hb1
    go_wp2_with fail
    rw [← HPP.out]
    refine ⟨by rw [HJ.out]; rfl, ?_⟩
    rw [HJ.out]
    exact refD_same HRS.out HB0.out.size HB1.out
  | some x =>
    obtain ⟨n, f⟩ := x
    have HSV := Lib.hid (split_yes hk)
    have hfs : f.size ≤ s.size := split_size hk
    have HFB : Hid (filterB f = true) := split_fil hk
    obtain ⟨vs, vg, vm, gs, ms, KB, h1, h2, h3, h4, h5⟩ := h
    have HR := Lib.hid h1
    have HAG := Lib.hid h2
    have HAM := Lib.hid h3
    have HOW := Lib.hid h4
    have HPB := Lib.hid h5
    have hgl2 : gs.length ≤ 100000000 := by rw [← h2, List.length_map] at hgl; exact hgl
    by_cases hn : n.size = 0
    · have hl1 : n.toList = [] := by rw [ByteArray.toList_eq]; exact List.eq_nil_of_length_eq_zero (by rw [show n.data.toList.length = n.size from Array.length_toList]; exact hn)
      have hl2 : n.toList.isEmpty = true := by rw [hl1]; rfl
      have HJ : Hid (∀ ok : Bool, (ok = true ↔ filterB f = true ∧ (f, id) ∉ st.1) → joinA st s id = (ok, addS st.1 f id, st.2)) := fun ok hok => by
        unfold joinA
        rw [hk]
        simp only [hn, if_true]
        refine Prod.ext ?_ rfl
        exact dec_of hok
      clear hk hn h1 h2 h3 h4 h5
      go_enter Tryz.func47, Tryz.ntmps47
      go_wp2_with fail
      refine CS.out.mono ?_
      rintro e w1 ⟨rfl, hb1⟩
      rw [HSV.out]
      have HR1 := Lib.hid (HR.out.below hb1)
      have HB1 := Lib.hid hb1
      have hbl1 := HR1.out.blt
      clear hb1
      go_wp2_with fail
      refine (refAdd_any w1 w0.heap.size rb vg vm vs st.1 f id HR1.out.rl (HT.out.below HB1.out) (by omega) hl).mono ?_
      rintro e w3 ⟨ok, vs', rfl, hok, hto⟩
      have HJ2 := Lib.hid (HJ.out ok hok)
      have HTO := Lib.hid hto
      clear hok hto
      go_wp2_with fail
      rw [← HPP.out]
      refine ⟨by rw [HJ2.out]; rfl, ?_⟩
      rw [HJ2.out]
      refine refD_of HOW.out HB0.out.size HPB.out (HR1.out.subs_to HTO.out) HAG.out HAM.out (Frame.trans (Frame.of_below (F := fun b => b = rb ∨ vs.ownBlock = some b) HB1.out) (HTO.out.fr.mono fun b hb => .inl hb)) (fun b hb => .inl (hb.elim .inl fun e => .inr (.inl e))) fun b hb => ?_
      have hs1 := HB1.out.size
      rcases hb with (e | e | e | e | e) | e
      · exact .inl (.inl e)
      · rcases HTO.out.own b e with h1 | h1
        · exact .inl (.inr (.inl h1))
        · exact .inr (.inr (by omega))
      · exact .inl (.inr (.inr (.inl e)))
      · exact .inl (.inr (.inr (.inr (.inl e))))
      · exact .inl (.inr (.inr (.inr (.inr e))))
      · exact .inr (.inl e)
    · have hl1 : ¬ n.toList = [] := fun e => hn (by rw [ByteArray.toList_eq] at e; rw [show n.size = n.data.toList.length from Array.length_toList.symm, e]; rfl)
      have hl2 : n.toList.isEmpty = false := by cases hx : n.toList with | nil => exact absurd hx hl1 | cons a b => rfl
      have HJN : Hid ((∀ g ∈ gs, g.key ≠ s) → joinA st s id = (true, st.1, st.2 ++ [⟨s, f, [id], 0⟩])) := fun hno => joinA_new hk hn (findA_none fun a ha => by
        rw [← h2] at ha
        obtain ⟨g, hg, rfl⟩ := List.mem_map.1 ha
        exact hno g hg)
      have HJY : Hid (∀ (i : Nat) (g : RG), gs[i]? = some g → g.key = s → id ∉ g.ids → g.ids.length < 256 → joinA st s id = (true, st.1, st.2.set i ⟨g.key, g.fil, g.ids ++ [id], g.tn⟩)) := fun i g hg hgs hni hlt => by
        have ha : st.2[i]? = some g.ag := by rw [← h2, List.getElem?_map, hg]; rfl
        have e1 := findA_at HGD.out.keys ha
        have e2 := joinA_in (a := g.ag) hk hn (by rw [← hgs]; exact e1) hni hlt
        rw [e2]
        refine congrArg (fun y => (true, st.1, y)) ?_
        rw [← hgs]
        exact setA_at HGD.out.keys ha _
      have HJF : Hid (∀ (i : Nat) (g : RG), gs[i]? = some g → g.key = s → (id ∈ g.ids ∨ 256 ≤ g.ids.length) → joinA st s id = (false, st)) := fun i g hg hgs hno => by
        have ha : st.2[i]? = some g.ag := by rw [← h2, List.getElem?_map, hg]; rfl
        have e1 := findA_at HGD.out.keys ha
        exact joinA_no (a := g.ag) hk hn (by rw [← hgs]; exact e1) hno
      have HFEW : Hid (∀ g ∈ gs, g.ids.length ≤ 256) := fun g hg => (HGD.out.each g.ag (by rw [← h2]; exact List.mem_map.2 ⟨g, hg, rfl⟩)).2.2.1
      obtain ⟨qg, cg, rfl⟩ := h1.form
      clear hk hn h1 h2 h3 h4 h5
      go_enter Tryz.func47, Tryz.ntmps47
      go_wp2_with fail
      refine CS.out.mono ?_
      rintro e w1 ⟨rfl, hb1⟩
      rw [HSV.out]
      have HR1 := Lib.hid (HR.out.below hb1)
      have HB1 := Lib.hid hb1
      have hbl1 := HR1.out.blt
      clear hb1
      go_wp2_with fail
      refine (group_any w1 w0.heap.size rb vs _ vm st.1 gs ms KB s HR1.out hgl2).mono ?_
      rintro e w2 ⟨⟨r, rfl, hr⟩, hb2⟩
      have HR2 := Lib.hid (HR1.out.below hb2)
      have HB2 := Lib.hid (HB1.out.trans (hb2.mono HB1.out.size))
      have hbl2 := HR2.out.blt
      have c2 := HR2.out.cells.2.1
      have f2 := frozen_of_row w2 rb 1 _ _ HR2.out.box
      have hbase : w0.heap.size ≤ w2.heap.size := Nat.le_trans HB0.out.size HB2.out.size
      clear hb2 hbl1
      rcases hr with ⟨rfl, hr⟩ | ⟨i, x, rfl, hx, hxk⟩
      · have HJ := Lib.hid (HJN.out hr)
        clear hr
        obtain ⟨i0, hi, hz0, hz1, hz2⟩ := info_parts info_group
        obtain ⟨WB, hWB⟩ : ∃ WB, (w2.alloc (.cells #[.int .i64 id] 3)).alloc (.cells #[.string s, .string f, .slice (some ⟨w2.heap.size, 0, none⟩) 1 1, .int .i64 0] 122) = WB := ⟨_, rfl⟩
        have hWBs : WB.heap.size = w2.heap.size + 2 := by rw [← hWB]; simp
        have HWB := Lib.hid hWB
        have HBB : Hid (Below w2.heap.size w2 WB) := by rw [← hWB]; exact ((Below.refl _ _).alloc (Nat.le_refl _) _).alloc (by simp) _
        have HRB : Hid (WB.ownsRow w0.heap.size 122 4 (.slice qg gs.length cg) gs.length (rowG gs)) := by rw [← hWB]; exact (HR2.out.grp.alloc _).alloc _
        have HCB : Hid (∀ j u, [Value.string s, .string f, .slice (some ⟨w2.heap.size, 0, none⟩) 1 1, .int .i64 0][j]? = some u → WB.cell? ((⟨w2.heap.size + 1, 0, none⟩ : Addr).add j) = some u) := by
          rw [← hWB]
          have h := news13 (w2.alloc (.cells #[.int .i64 id] 3)) [Value.string s, .string f, .slice (some ⟨w2.heap.size, 0, none⟩) 1 1, .int .i64 0] 122
          rw [show (w2.alloc (.cells #[.int .i64 id] 3)).heap.size = w2.heap.size + 1 by simp] at h
          exact h
        have HMB : Hid (WB.ownsRow w0.heap.size 3 1 (.slice (some ⟨w2.heap.size, 0, none⟩) 1 1) 1 [.int .i64 id]) := by
          rw [← hWB]
          exact (World.ownsRow_lit w2 #[.int .i64 id] 1 hbase (by unfold maxLen; omega) rfl).alloc _
        clear hWB
        go_wp2_with (first
          | (at_builtin; rw [HWB.out]; refine wpList_append_own_at _ rfl _ _ 48 rfl w0.heap.size 122 i0 (.agg #[.string ByteArray.empty, .string ByteArray.empty, .slice none 0 0, .int .i64 0]) 4 64 Tryz.underlying48 hi hz0 hz1 hz2 rfl (by decide) _ _ _ rfl HRB.out ⟨w2.heap.size + 1, 0, none⟩ 1 1 [.string s, .string f, .slice (some ⟨w2.heap.size, 0, none⟩) 1 1, .int .i64 0] rfl rfl HCB.out (by intro u hu; simp at hu; rcases hu with rfl | rfl | rfl | rfl <;> rfl) (by unfold maxLen; omega) (by omega) (by omega) ?_; intro v3 w3 hown3 hg3' hnil3 hloc; have hg3 : WB.grownBy w3 (Value.slice qg gs.length cg).ownBlock := hg3'; have hbx3 : w3.heap[rb]? = some (.cells #[vs, .slice qg gs.length cg, vm] 50 (0, 0)) := (hg3.block rb (by omega) (fun e => HR2.out.off_box.2.1 e.symm)).trans ((HBB.out.block rb hbl2).trans HR2.out.box); obtain ⟨g3, cap3, rfl⟩ := ownsRow_succ hown3; have hfb3 := frozen_of_row w3 rb 1 _ _ hbx3; have hlb3 := (Array.getElem?_eq_some_iff.1 hbx3).1; have cb3 : w3.cell? ⟨rb, 1, none⟩ = some (.slice qg gs.length cg) := (by rw [cell_of_row w3 rb 1 _ _ _ hbx3]; rfl); have HOW3 := Lib.hid hown3; have HG3 := Lib.hid hg3; have HLOC := Lib.hid hloc; clear hown3 hg3 hg3' hnil3 hbx3 hloc)
          | fail)
        rw [← HPP.out]
        refine ⟨by rw [HJ.out]; rfl, ?_⟩
        rw [HJ.out]
        have hloc3 : ∀ b, (Value.slice (some ⟨g3, 0, none⟩) (gs.length + 1) cap3).ownBlock = some b → (Value.slice qg gs.length cg).ownBlock = some b ∨ w2.heap.size ≤ b := fun b hb => by
          rcases HLOC.out with h | h
          · exact .inl (h.symm.trans hb)
          · have h9 := hb.symm.trans h
            injection h9 with h9
            exact .inr (by omega)
        have hrow3 : w3.ownsRow w0.heap.size 3 1 (.slice (some ⟨w2.heap.size, 0, none⟩) 1 1) 1 [.int .i64 id] := row_of_heap HMB.out fun b hb => by
          injection hb with hb
          have hb : w2.heap.size = b := hb
          subst hb
          exact HG3.out.block _ (by omega) (fun e => by have := (HR2.out.grp.lt _ e.symm).2; omega)
        obtain ⟨k1, k2⟩ := HR2.out.groups_to (gs' := gs ++ [⟨s, f, [id], 0, .slice (some ⟨w2.heap.size, 0, none⟩) 1 1⟩]) HBB.out HG3.out (fun b hb => hb) (by rw [List.length_append, rowG_append]; exact HOW3.out) hloc3 (fun g hg => by
          rcases List.mem_append.1 hg with h | h
          · exact .inl h
          · rw [List.mem_singleton] at h
            subst h
            refine .inr ⟨hrow3, fun b hb => ?_⟩
            injection hb with hb
            have hb : w2.heap.size = b := hb
            omega) (dis_snoc HR2.out fun b hb => by
            injection hb with hb
            have hb : w2.heap.size = b := hb
            omega)
        refine refD_of HOW.out HB0.out.size HPB.out k1 (by rw [List.map_append, HAG.out]; rfl) HAM.out (Frame.trans (Frame.of_below (F := fun b => b = rb ∨ (Value.slice qg gs.length cg).ownBlock = some b) HB2.out) (k2.mono fun b hb => .inl hb)) (fun b hb => .inl (hb.elim .inl fun e => .inr (.inr (.inl e)))) fun b hb => ?_
        have hs2 := HB2.out.size
        rcases hb with (e | e | e | e | ⟨g, hg, e⟩) | e
        · exact .inl (.inl e)
        · exact .inl (.inr (.inl e))
        · rcases hloc3 b e with h1 | h1
          · exact .inl (.inr (.inr (.inl h1)))
          · exact .inr (.inr (by omega))
        · exact .inl (.inr (.inr (.inr (.inl e))))
        · rcases List.mem_append.1 hg with h | h
          · exact .inl (.inr (.inr (.inr (.inr ⟨g, h, e⟩))))
          · rw [List.mem_singleton] at h
            subst h
            injection e with e
            have e : w2.heap.size = b := e
            exact .inr (.inr (by omega))
        · exact .inr (.inl e)
      · have HX := Lib.hid hx
        have HXK := Lib.hid hxk
        have hxm : x ∈ gs := List.mem_of_getElem? hx
        have hil : i < gs.length := (List.getElem?_eq_some_iff.1 hx).1
        have hfew := HFEW.out x hxm
        obtain ⟨gb, rfl, e0, e1, e2, e3⟩ := HR2.out.at_ hx
        have hmv := HR2.out.mem x hxm
        obtain ⟨qm, cm, hqm⟩ := (Fl.of_own hmv).form
        rw [hqm] at e2
        have hIS : IS w2 (.slice qm x.ids.length cm) x.ids := IS_of (by rw [← hqm]; exact Fl.of_own hmv) rfl
        have hgbl : gb < w2.heap.size := World.block_lt_of_cell? w2 _ e2
        have hilI : (i : Int) < (gs.length : Int) := by omega
        have hi0 : (0 : Int) ≤ (i : Int) := by omega
        have HQM := Lib.hid hqm
        clear hx hxk hmv hqm
        go_wp2_with fail
        refine (at30_any w2 _ x.ids id hIS).mono ?_
        rintro e w4 ⟨⟨r, rfl, hr⟩, hb4⟩
        have HR4 := Lib.hid (HR2.out.below hb4)
        have HB4 := Lib.hid (HB2.out.trans (hb4.mono HB2.out.size))
        obtain ⟨gb', hgb', e0', e1', e2', e3'⟩ := HR4.out.at_ HX.out
        injection hgb' with hgb'
        injection hgb' with hgb'
        subst hgb'
        rw [HQM.out] at e2'
        have c4 := HR4.out.cells.2.1
        have hbl4 := HR4.out.blt
        have hgbl4 : gb < w4.heap.size := World.block_lt_of_cell? w4 _ e2'
        clear hb4 hIS e0 e1 e2 e3 c2 f2 hbl2 hgbl e0' e1' e3'
        by_cases hbad : id ∈ x.ids ∨ 256 ≤ x.ids.length
        · have HJ := Lib.hid (HJF.out i x HX.out HXK.out hbad)
          have hdone : RJoinPost w0 w P rb st L s id (.returned (.bool false)) w4 := by
            refine ⟨by rw [HJ.out], ?_⟩
            rw [HJ.out]
            exact refD_same HRS.out HB0.out.size HB4.out
          have HD := Lib.hid hdone
          clear hdone
          by_cases h0 : 0 ≤ r
          · clear hbad hr
            go_wp2_with fail
            rw [← HPP.out]
            exact HD.out
          · have hlen : (256 : Int) ≤ (x.ids.length : Int) := by
              rcases hbad with hbad | hbad
              · rcases hr with ⟨rfl, h⟩ | ⟨k, rfl, h⟩
                · exact absurd hbad h
                · omega
              · omega
            clear hbad hr
            go_wp2_with fail
            rw [← HPP.out]
            exact HD.out
        · have hni : id ∉ x.ids := fun e => hbad (.inl e)
          have hlt : x.ids.length < 256 := by omega
          obtain rfl : r = -1 := by
            rcases hr with ⟨rfl, -⟩ | ⟨k, rfl, h⟩
            · rfl
            · exact absurd (List.mem_of_getElem? h) hni
          have hlen : ¬ (256 : Int) ≤ (x.ids.length : Int) := by omega
          have HJ := Lib.hid (HJY.out i x HX.out HXK.out hni hlt)
          clear hbad hr hni
          go_wp2_with fail
          obtain ⟨i0, hi, hz0, hz1, hz2⟩ := info_parts info_int
          have HMV : Hid (w4.drew.ownsRow w0.heap.size 3 1 (.slice qm x.ids.length cm) x.ids.length (x.ids.map (Value.int .i64))) := by
            have h := HR4.out.mem x hxm
            rw [HQM.out] at h
            exact h.drew
          have hbase : w0.heap.size ≤ w4.heap.size := Nat.le_trans HB0.out.size HB4.out.size
          have HKS : Hid (∀ W', Below w4.heap.size w4 W' → W'.cell? ⟨rb, 1, none⟩ = some (.slice (some ⟨gb, 0, none⟩) gs.length cg) ∧ W'.cell? ⟨gb, i * 4 + 2, none⟩ = some (.slice qm x.ids.length cm)) := fun W' hb => ⟨(hb.cell (p := ⟨rb, 1, none⟩) hbl4).trans c4, (hb.cell (p := ⟨gb, i * 4 + 2, none⟩) hgbl4).trans e2'⟩
          have HKG : Hid (∀ W', (w4.drew.alloc (.cells #[.int .i64 id] 3)).grownBy W' (Value.slice qm x.ids.length cm).ownBlock → W'.cell? ⟨rb, 1, none⟩ = some (.slice (some ⟨gb, 0, none⟩) gs.length cg) ∧ W'.cell? ⟨gb, i * 4 + 2, none⟩ = some (.slice qm x.ids.length cm)) := fun W' hg => by
            have hb : Below w4.heap.size w4 (w4.drew.alloc (.cells #[.int .i64 id] 3)) := (Below.refl _ _).drew.alloc (Nat.le_refl _) _
            obtain ⟨k1, k2⟩ := HKS.out _ hb
            have hs := hb.size
            have n1 : (Value.slice qm x.ids.length cm).ownBlock ≠ some rb := by rw [← HQM.out]; exact HR4.out.off_box.2.2.2 x hxm
            have n2 : (Value.slice qm x.ids.length cm).ownBlock ≠ some gb := by rw [← HQM.out]; exact rows_ne HR4.out.grp (HR4.out.mem x hxm) (by decide) rfl
            exact ⟨cell_of_heap (hg.block rb (by omega) (fun e => n1 e.symm)) k1, cell_of_heap (hg.block gb (by omega) (fun e => n2 e.symm)) k2⟩
          have HNE : Hid (rb ≠ gb) := fun e => HR4.out.off_box.2.1 (by rw [e]; rfl)
          have HFZ : Hid (∀ W', (w4.drew.alloc (.cells #[.int .i64 id] 3)).grownBy W' (Value.slice qm x.ids.length cm).ownBlock → W'.frozen? ⟨gb, i * 4 + 2, none⟩ = false ∧ gb < W'.heap.size) := fun W' hg => by
            have hb : Below w4.heap.size w4 (w4.drew.alloc (.cells #[.int .i64 id] 3)) := (Below.refl _ _).drew.alloc (Nat.le_refl _) _
            have hs := hb.size
            have n2 : (Value.slice qm x.ids.length cm).ownBlock ≠ some gb := by rw [← HQM.out]; exact rows_ne HR4.out.grp (HR4.out.mem x hxm) (by decide) rfl
            obtain ⟨cur, hc⟩ := row_block HR4.out.grp
            have hc2 := ((hg.block gb (by omega) (fun e => n2 e.symm)).trans (hb.block gb hgbl4)).trans hc
            exact ⟨frozen_of_row W' gb (i * 4 + 2) _ _ hc2, (Array.getElem?_eq_some_iff.1 hc2).1⟩
          have HFIN : Hid (∀ (g5 cap5 : Nat) (w5 : World), (w4.drew.alloc (.cells #[.int .i64 id] 3)).grownBy w5 (Value.slice qm x.ids.length cm).ownBlock → w5.ownsRow w0.heap.size 3 1 (.slice (some ⟨g5, 0, none⟩) (x.ids.length + 1) cap5) (x.ids.length + 1) (x.ids.map (Value.int .i64) ++ [.int .i64 id]) → ((Value.slice qm x.ids.length cm).ownBlock = some g5 ∨ g5 = w4.heap.size + 1) → RJoinPost w0 w P rb st L s id (.returned (.bool true)) (w5.setCell ⟨gb, i * 4 + 2, none⟩ (.slice (some ⟨g5, 0, none⟩) (x.ids.length + 1) cap5))) := fun g5 cap5 w5 hgr hown hat => by
            have hs4 := HB4.out.size
            obtain ⟨k1, k2⟩ := HR4.out.member_to (mv2 := .slice (some ⟨g5, 0, none⟩) (x.ids.length + 1) cap5) (ids2 := x.ids ++ [id]) HX.out ((Below.refl w4.heap.size w4).drew.alloc (Nat.le_refl _) (.cells #[.int .i64 id] 3)) hgr (fun b hb => by rw [HQM.out]; exact hb) (by rw [List.length_append, List.map_append]; exact hown) (fun b hb => by
              injection hb with hb
              have hb : g5 = b := hb
              subst hb
              rcases hat with h | h
              · exact .inl (by rw [HQM.out]; exact h)
              · exact .inr (by omega))
            refine ⟨by rw [HJ.out], ?_⟩
            rw [HJ.out]
            refine refD_of HOW.out HB0.out.size HPB.out k1 (by rw [map_set_ag, HAG.out]; rfl) HAM.out (Frame.trans (Frame.of_below (F := fun b => b = gb ∨ x.mv.ownBlock = some b) HB4.out) (k2.mono fun b hb => .inl hb)) (fun b hb => .inl (hb.elim (fun e => .inr (.inr (.inl (by rw [e]; rfl)))) fun e => .inr (.inr (.inr (.inr ⟨x, hxm, e⟩))))) fun b hb => ?_
            rcases hb with (e | e | e | e | ⟨g, hg, e⟩) | e
            · exact .inl (.inl e)
            · exact .inl (.inr (.inl e))
            · exact .inl (.inr (.inr (.inl e)))
            · exact .inl (.inr (.inr (.inr (.inl e))))
            · rcases List.mem_or_eq_of_mem_set hg with h | h
              · exact .inl (.inr (.inr (.inr (.inr ⟨g, h, e⟩))))
              · subst h
                injection e with e
                have e : g5 = b := e
                subst e
                rcases hat with h | h
                · exact .inl (.inr (.inr (.inr (.inr ⟨x, hxm, by rw [HQM.out]; exact h⟩))))
                · exact .inr (.inr (by omega))
            · exact .inr (.inl e)
          refine wp_region_held_drew (S := (fun W' => W'.cell? ⟨rb, 1, none⟩ = some (.slice (some ⟨gb, 0, none⟩) gs.length cg))) (by kernel_rfl) (HKS.out _ (Below.refl _ _).drew).1 (fun hHeld => ?_)
          refine wpAnyH_take (i := 0) (oi := _) (v := ?_) rfl (by kernel_rfl) (by kernel_rfl) (by kernel_rfl) (fun _ _ _ h => h) (Or.inl ⟨by rfl, ?_⟩) (by assumption) ?_
          rotate_left
          focus (intro w' hSw; (try dsimp only at hSw); go_simp; try with_reducible rfl)
          (try simp only [Act.put, List.setIfInBounds_toArray, List.set_cons_zero, List.set_cons_succ, List.getElem_toArray, List.getElem_cons_succ, List.getElem_cons_zero])
          refine wpAnyH_take (i := 1) (oi := _) (v := ?_) rfl (by kernel_rfl) (by kernel_rfl) (by kernel_rfl) (fun _ _ _ h => h) (Or.inl ⟨by rfl, ?_⟩) (by assumption) ?_
          rotate_left
          focus (intro w' hSw; (try dsimp only at hSw); go_simp; try with_reducible rfl)
          (try simp only [Act.put, List.setIfInBounds_toArray, List.set_cons_zero, List.set_cons_succ, List.getElem_toArray, List.getElem_cons_succ, List.getElem_cons_zero])
          refine wpAnyH_take (i := 2) (oi := _) (v := ?_) rfl (by kernel_rfl) (by kernel_rfl) (by kernel_rfl) (fun _ _ _ h => h) (Or.inl ⟨by rfl, ?_⟩) (by assumption) ?_
          rotate_left
          focus (intro w' hSw; (try dsimp only at hSw); go_simp; try with_reducible rfl)
          (try simp only [Act.put, List.setIfInBounds_toArray, List.set_cons_zero, List.set_cons_succ, List.getElem_toArray, List.getElem_cons_succ, List.getElem_cons_zero])
          refine wpAnyH_take (i := 3) (oi := _) (v := ?_) rfl (by kernel_rfl) (by kernel_rfl) (by kernel_rfl) (fun _ _ _ h => h) (Or.inl ⟨by rfl, ?_⟩) (by assumption) ?_
          rotate_left
          focus (intro w' hSw; (try dsimp only at hSw); go_simp; try with_reducible rfl)
          (try simp only [Act.put, List.setIfInBounds_toArray, List.set_cons_zero, List.set_cons_succ, List.getElem_toArray, List.getElem_cons_succ, List.getElem_cons_zero])
          refine wpAnyH_take (i := 4) (oi := _) (v := ?_) rfl (by kernel_rfl) (by kernel_rfl) (by kernel_rfl) (fun _ _ _ h => h) (Or.inl ⟨by rfl, ?_⟩) (by assumption) ?_
          rotate_left
          focus (intro w' hSw; (try dsimp only at hSw); go_simp; try with_reducible rfl)
          (try simp only [Act.put, List.setIfInBounds_toArray, List.set_cons_zero, List.set_cons_succ, List.getElem_toArray, List.getElem_cons_succ, List.getElem_cons_zero])
          refine wpAnyH_take (i := 5) (oi := _) (v := ?_) rfl (by kernel_rfl) (by kernel_rfl) (by kernel_rfl) (fun _ _ _ h => h) (Or.inl ⟨by rfl, ?_⟩) (by assumption) ?_
          rotate_left
          focus (intro w' hSw; (try dsimp only at hSw); go_simp; try with_reducible rfl)
          (try simp only [Act.put, List.setIfInBounds_toArray, List.set_cons_zero, List.set_cons_succ, List.getElem_toArray, List.getElem_cons_succ, List.getElem_cons_zero])
          refine wpAnyH_take (i := 6) (oi := _) (v := ?_) rfl (by kernel_rfl) (by kernel_rfl) (by kernel_rfl) (fun _ _ _ h => h) (Or.inl ⟨by rfl, ?_⟩) (by assumption) ?_
          rotate_left
          focus (intro w' hSw; (try dsimp only at hSw); go_simp; try with_reducible rfl)
          (try simp only [Act.put, List.setIfInBounds_toArray, List.set_cons_zero, List.set_cons_succ, List.getElem_toArray, List.getElem_cons_succ, List.getElem_cons_zero])
          refine wpAnyH_take (i := 7) (oi := _) (v := ?_) rfl (by kernel_rfl) (by kernel_rfl) (by kernel_rfl) (fun _ _ _ h => h) (Or.inl ⟨by rfl, ?_⟩) (by assumption) ?_
          rotate_left
          focus (intro w' hSw; (try dsimp only at hSw); go_simp; try with_reducible rfl)
          (try simp only [Act.put, List.setIfInBounds_toArray, List.set_cons_zero, List.set_cons_succ, List.getElem_toArray, List.getElem_cons_succ, List.getElem_cons_zero])
          refine wpAnyH_take (i := 8) (oi := _) (v := ?_) rfl (by kernel_rfl) (by kernel_rfl) (by kernel_rfl) (fun _ _ _ h => h) (Or.inl ⟨by rfl, ?_⟩) (by assumption) ?_
          rotate_left
          focus (intro w' hSw; (try dsimp only at hSw); go_simp; try with_reducible rfl)
          (try simp only [Act.put, List.setIfInBounds_toArray, List.set_cons_zero, List.set_cons_succ, List.getElem_toArray, List.getElem_cons_succ, List.getElem_cons_zero])
          refine wpAnyH_take (i := 9) (oi := _) (v := ?_) rfl (by kernel_rfl) (by kernel_rfl) (by kernel_rfl) (fun _ _ _ h => h) (Or.inl ⟨by rfl, ?_⟩) (by assumption) ?_
          rotate_left
          focus (intro w' hSw; (try dsimp only at hSw); go_simp; try with_reducible rfl)
          (try simp only [Act.put, List.setIfInBounds_toArray, List.set_cons_zero, List.set_cons_succ, List.getElem_toArray, List.getElem_cons_succ, List.getElem_cons_zero])
          refine wpAnyH_take (i := 10) (oi := _) (v := ?_) rfl (by kernel_rfl) (by kernel_rfl) (by kernel_rfl) (fun _ _ _ h => h) (Or.inl ⟨by rfl, ?_⟩) (by assumption) ?_
          rotate_left
          focus (intro w' hSw; (try dsimp only at hSw); go_simp; try with_reducible rfl)
          (try simp only [Act.put, List.setIfInBounds_toArray, List.set_cons_zero, List.set_cons_succ, List.getElem_toArray, List.getElem_cons_succ, List.getElem_cons_zero])
          refine wpAnyH_take (i := 11) (oi := _) (v := ?_) rfl (by kernel_rfl) (by kernel_rfl) (by kernel_rfl) (fun _ _ _ h => h) (Or.inl ⟨by rfl, ?_⟩) (by assumption) ?_
          rotate_left
          focus (intro w' hSw; (try dsimp only at hSw); go_simp; try with_reducible rfl)
          (try simp only [Act.put, List.setIfInBounds_toArray, List.set_cons_zero, List.set_cons_succ, List.getElem_toArray, List.getElem_cons_succ, List.getElem_cons_zero])
          refine wpAnyH_take (i := 13) (oi := _) (v := ?_) rfl (by kernel_rfl) (by kernel_rfl) (by kernel_rfl) (fun _ _ _ h => h) (Or.inl ⟨by rfl, ?_⟩) (by assumption) ?_
          rotate_left
          focus (intro w' hSw; (try dsimp only at hSw); go_simp; try with_reducible rfl)
          (try simp only [Act.put, List.setIfInBounds_toArray, List.set_cons_zero, List.set_cons_succ, List.getElem_toArray, List.getElem_cons_succ, List.getElem_cons_zero])
          refine wpAnyH_ready (rs := [12, 14]) (by kernel_rfl) (by simp) ?_
          refine AllReadyH.cons (o := _) rfl (fun K hK => ?_) ?_
          · go_simp
            refine hK.out _ _ (HKS.out _ (Below.refl _ _).drew).1 (fun hHeld => ?_)
            clear hK K
            (try simp only [Act.put, List.setIfInBounds_toArray, List.set_cons_zero, List.set_cons_succ, List.getElem_toArray, List.getElem_cons_succ, List.getElem_cons_zero])
            refine wpAnyH_ready (rs := [14]) (by kernel_rfl) (by simp) ?_
            refine AllReadyH.cons (o := _) rfl (fun K hK => ?_) AllReadyH.nil
            go_simp
            refine hK.out _ _ (HKS.out _ ((Below.refl _ _).drew.alloc (Nat.le_refl _) _)).1 (fun hHeld => ?_)
            clear hK K
            (try simp only [Act.put, List.setIfInBounds_toArray, List.set_cons_zero, List.set_cons_succ, List.getElem_toArray, List.getElem_cons_succ, List.getElem_cons_zero])
            refine wpAnyH_ready (rs := [15]) (by kernel_rfl) (by simp) ?_
            refine AllReadyH.cons (o := _) rfl (fun K hK => ?_) AllReadyH.nil
            (refine step_append_lies _ (by rfl) _ _ _ (by rfl) w0.heap.size 3 i0 (.int .i64 0) 1 8 Tryz.underlying26 hi hz0 hz1 hz2 rfl (by decide) (.slice qm x.ids.length cm) x.ids.length (x.ids.map (Value.int .i64)) (by rfl) (HMV.out.alloc _) ⟨w4.heap.size, 0, none⟩ 1 1 [.int .i64 id] (by rfl) rfl (World.news_of_block (heap_alloc_new w4.drew _)) (by intro u hu; simp at hu; subst hu; rfl) (by decide) (by unfold maxLen; omega) (by omega) (by simp; omega) (w4.heap.size + 1) (by simp) ?_); intro g5 cap5 w5 hown5 hgr5 hat5 hlt5; have HGR := Lib.hid hgr5; have HOW5 := Lib.hid hown5; have HAT := Lib.hid hat5; obtain ⟨cb5, cg5⟩ := HKG.out _ hgr5; obtain ⟨fz5, gl5⟩ := HFZ.out _ hgr5; have HST : Hid (∀ v, (w5.setCell ⟨gb, i * 4 + 2, none⟩ v).cell? ⟨rb, 1, none⟩ = some (.slice (some ⟨gb, 0, none⟩) gs.length cg)) := (fun v => cell_of_heap (Below.heap_setCell w5 ⟨gb, i * 4 + 2, none⟩ v rb HNE.out) cb5); clear hgr5 hown5 hat5
            refine hK.out _ _ cb5 (fun hHeld => ?_)
            clear hK K
            (try simp only [Act.put, List.setIfInBounds_toArray, List.set_cons_zero, List.set_cons_succ, List.getElem_toArray, List.getElem_cons_succ, List.getElem_cons_zero])
            refine wpAnyH_take (i := 16) (oi := _) (v := ?_) rfl (by kernel_rfl) (by kernel_rfl) (by kernel_rfl) (fun _ _ _ h => h) (Or.inl ⟨by rfl, ?_⟩) (by assumption) ?_
            rotate_left
            focus (intro w' hSw; (try dsimp only at hSw); go_simp; try with_reducible rfl)
            (try simp only [Act.put, List.setIfInBounds_toArray, List.set_cons_zero, List.set_cons_succ, List.getElem_toArray, List.getElem_cons_succ, List.getElem_cons_zero])
            refine wpAnyH_take (i := 17) (oi := _) (v := ?_) rfl (by kernel_rfl) (by kernel_rfl) (by kernel_rfl) (fun _ _ _ h => h) (Or.inl ⟨by rfl, ?_⟩) (by assumption) ?_
            rotate_left
            focus (intro w' hSw; (try dsimp only at hSw); go_simp; try with_reducible rfl)
            (try simp only [Act.put, List.setIfInBounds_toArray, List.set_cons_zero, List.set_cons_succ, List.getElem_toArray, List.getElem_cons_succ, List.getElem_cons_zero])
            refine wpAnyH_ready (rs := [18]) (by kernel_rfl) (by simp) ?_
            refine AllReadyH.cons (o := _) rfl (fun K hK => ?_) AllReadyH.nil
            go_simp
            refine hK.out _ _ (HST.out _) (fun hHeld => ?_)
            clear hK K
            (try simp only [Act.put, List.setIfInBounds_toArray, List.set_cons_zero, List.set_cons_succ, List.getElem_toArray, List.getElem_cons_succ, List.getElem_cons_zero])
            refine wpAnyH_done (by kernel_rfl) ?_ _
            go_simp
            go_wp2_with fail
            rw [← HPP.out]
            exact HFIN.out _ _ _ HGR.out HOW5.out HAT.out
          refine AllReadyH.cons (o := _) rfl (fun K hK => ?_) AllReadyH.nil
          go_simp
          refine hK.out _ _ (HKS.out _ ((Below.refl _ _).drew.alloc (Nat.le_refl _) _)).1 (fun hHeld => ?_)
          clear hK K
          (try simp only [Act.put, List.setIfInBounds_toArray, List.set_cons_zero, List.set_cons_succ, List.getElem_toArray, List.getElem_cons_succ, List.getElem_cons_zero])
          refine wpAnyH_ready (rs := [12]) (by kernel_rfl) (by simp) ?_
          refine AllReadyH.cons (o := _) rfl (fun K hK => ?_) AllReadyH.nil
          go_simp
          refine hK.out _ _ (HKS.out _ ((Below.refl _ _).drew.alloc (Nat.le_refl _) _)).1 (fun hHeld => ?_)
          clear hK K
          (try simp only [Act.put, List.setIfInBounds_toArray, List.set_cons_zero, List.set_cons_succ, List.getElem_toArray, List.getElem_cons_succ, List.getElem_cons_zero])
          refine wpAnyH_ready (rs := [15]) (by kernel_rfl) (by simp) ?_
          refine AllReadyH.cons (o := _) rfl (fun K hK => ?_) AllReadyH.nil
          (refine step_append_lies _ (by rfl) _ _ _ (by rfl) w0.heap.size 3 i0 (.int .i64 0) 1 8 Tryz.underlying26 hi hz0 hz1 hz2 rfl (by decide) (.slice qm x.ids.length cm) x.ids.length (x.ids.map (Value.int .i64)) (by rfl) (HMV.out.alloc _) ⟨w4.heap.size, 0, none⟩ 1 1 [.int .i64 id] (by rfl) rfl (World.news_of_block (heap_alloc_new w4.drew _)) (by intro u hu; simp at hu; subst hu; rfl) (by decide) (by unfold maxLen; omega) (by omega) (by simp; omega) (w4.heap.size + 1) (by simp) ?_); intro g5 cap5 w5 hown5 hgr5 hat5 hlt5; have HGR := Lib.hid hgr5; have HOW5 := Lib.hid hown5; have HAT := Lib.hid hat5; obtain ⟨cb5, cg5⟩ := HKG.out _ hgr5; obtain ⟨fz5, gl5⟩ := HFZ.out _ hgr5; have HST : Hid (∀ v, (w5.setCell ⟨gb, i * 4 + 2, none⟩ v).cell? ⟨rb, 1, none⟩ = some (.slice (some ⟨gb, 0, none⟩) gs.length cg)) := (fun v => cell_of_heap (Below.heap_setCell w5 ⟨gb, i * 4 + 2, none⟩ v rb HNE.out) cb5); clear hgr5 hown5 hat5
          refine hK.out _ _ cb5 (fun hHeld => ?_)
          clear hK K
          (try simp only [Act.put, List.setIfInBounds_toArray, List.set_cons_zero, List.set_cons_succ, List.getElem_toArray, List.getElem_cons_succ, List.getElem_cons_zero])
          refine wpAnyH_take (i := 16) (oi := _) (v := ?_) rfl (by kernel_rfl) (by kernel_rfl) (by kernel_rfl) (fun _ _ _ h => h) (Or.inl ⟨by rfl, ?_⟩) (by assumption) ?_
          rotate_left
          focus (intro w' hSw; (try dsimp only at hSw); go_simp; try with_reducible rfl)
          (try simp only [Act.put, List.setIfInBounds_toArray, List.set_cons_zero, List.set_cons_succ, List.getElem_toArray, List.getElem_cons_succ, List.getElem_cons_zero])
          refine wpAnyH_take (i := 17) (oi := _) (v := ?_) rfl (by kernel_rfl) (by kernel_rfl) (by kernel_rfl) (fun _ _ _ h => h) (Or.inl ⟨by rfl, ?_⟩) (by assumption) ?_
          rotate_left
          focus (intro w' hSw; (try dsimp only at hSw); go_simp; try with_reducible rfl)
          (try simp only [Act.put, List.setIfInBounds_toArray, List.set_cons_zero, List.set_cons_succ, List.getElem_toArray, List.getElem_cons_succ, List.getElem_cons_zero])
          refine wpAnyH_ready (rs := [18]) (by kernel_rfl) (by simp) ?_
          refine AllReadyH.cons (o := _) rfl (fun K hK => ?_) AllReadyH.nil
          go_simp
          refine hK.out _ _ (HST.out _) (fun hHeld => ?_)
          clear hK K
          (try simp only [Act.put, List.setIfInBounds_toArray, List.set_cons_zero, List.set_cons_succ, List.getElem_toArray, List.getElem_cons_succ, List.getElem_cons_zero])
          refine wpAnyH_done (by kernel_rfl) ?_ _
          go_simp
          go_wp2_with fail
          rw [← HPP.out]
          exact HFIN.out _ _ _ HGR.out HOW5.out HAT.out
end
section
open Go Go.RowKit
attribute [local go_sem ↓] Go.wp_at_zero Go.wp_at_succ

theorem leaveA_no {st : HSt} {s : ByteArray} {id : Int} {n f : ByteArray} (h : splitK s = some (n, f)) (hn : n.size ≠ 0) (hf : findA st.2 s = none) : leaveA st s id = (false, st) := by
  unfold leaveA
  rw [h]
  refine (if_neg hn).trans ?_
  rw [hf]
theorem leaveA_out {st : HSt} {s : ByteArray} {id : Int} {n f : ByteArray} {a : AG} (h : splitK s = some (n, f)) (hn : n.size ≠ 0) (hf : findA st.2 s = some a) (hi : id ∉ a.ids) : leaveA st s id = (false, st) := by
  unfold leaveA
  rw [h]
  refine (if_neg hn).trans ?_
  rw [hf]
  exact if_neg hi
theorem leaveA_last {st : HSt} {s : ByteArray} {id : Int} {n f : ByteArray} {a : AG} (h : splitK s = some (n, f)) (hn : n.size ≠ 0) (hf : findA st.2 s = some a) (hi : id ∈ a.ids) (hl : a.ids.length = 1) : leaveA st s id = (true, st.1, delA st.2 s) := by
  unfold leaveA
  rw [h]
  refine (if_neg hn).trans ?_
  rw [hf]
  exact (if_pos hi).trans (if_pos hl)
theorem leaveA_one {st : HSt} {s : ByteArray} {id : Int} {n f : ByteArray} {a : AG} (h : splitK s = some (n, f)) (hn : n.size ≠ 0) (hf : findA st.2 s = some a) (hi : id ∈ a.ids) (hl : a.ids.length ≠ 1) : leaveA st s id = (true, st.1, setA st.2 s { a with ids := a.ids.eraseIdx (a.ids.idxOf id), tn := turnL a.tn (a.ids.idxOf id) a.ids.length }) := by
  unfold leaveA
  rw [h]
  refine (if_neg hn).trans ?_
  rw [hf]
  exact (if_pos hi).trans (if_neg hl)
theorem delA_at {G : List AG} (h : (G.map (·.key)).Nodup) {i : Nat} {a : AG} (hi : G[i]? = some a) : delA G a.key = G.eraseIdx i := by
  obtain ⟨hil, ha⟩ := List.getElem?_eq_some_iff.1 hi
  unfold delA
  rw [List.eraseIdx_eq_take_drop_succ]
  have e : G = G.take i ++ a :: G.drop (i + 1) := by rw [← ha, ← List.drop_eq_getElem_cons hil, List.take_append_drop]
  conv => lhs; rw [e]
  have hk : ∀ (j : Nat) (b : AG), G[j]? = some b → j ≠ i → decide (b.key.data.toList ≠ a.key.data.toList) = true := fun j b hj hne => decide_eq_true fun e => hne (nodup_at h hj hi (ByteArray.ext (Array.ext' e)))
  rw [List.filter_append, List.filter_cons_of_neg (by simp)]
  congr 1
  · refine List.filter_eq_self.2 fun b hb => ?_
    obtain ⟨j, hj, e⟩ := List.mem_iff_getElem.1 hb
    rw [List.length_take] at hj
    rw [List.getElem_take] at e
    exact hk j b (by rw [List.getElem?_eq_getElem (by omega), e]) (by omega)
  · refine List.filter_eq_self.2 fun b hb => ?_
    obtain ⟨j, hj, e⟩ := List.mem_iff_getElem.1 hb
    rw [List.length_drop] at hj
    rw [List.getElem_drop] at e
    exact hk (i + 1 + j) b (by rw [List.getElem?_eq_getElem (by omega), e]) (by omega)
theorem dis_erase {gs : List RG} (h : Dis gs) (k : Nat) : Dis (gs.eraseIdx k) := by
  intro i j gi gj b hi hj hij h1 h2
  rw [List.getElem?_eraseIdx] at hi hj
  by_cases hik : i < k
  · rw [if_pos hik] at hi
    by_cases hjk : j < k
    · rw [if_pos hjk] at hj; exact h i j gi gj b hi hj hij h1 h2
    · rw [if_neg hjk] at hj; exact h i (j + 1) gi gj b hi hj (by omega) h1 h2
  · rw [if_neg hik] at hi
    by_cases hjk : j < k
    · rw [if_pos hjk] at hj; exact h (i + 1) j gi gj b hi hj (by omega) h1 h2
    · rw [if_neg hjk] at hj; exact h (i + 1) (j + 1) gi gj b hi hj (by omega) h1 h2
theorem grown_of_below {W W' : World} (h : Below W.heap.size W W') : W.grownBy W' none := ⟨h.os, h.tape, h.output, h.size, fun b hb _ => h.block b hb⟩
theorem turn_mod {t i n : Nat} (ht : t < n) (hi : i < n) (hn : 1 < n) : (if i < t then t - 1 else t) % (n - 1) = turnL t i n := by
  unfold turnL
  by_cases e : t = i
  · subst e
    rw [if_neg (by omega), if_pos rfl]
    by_cases h : t + 1 < n
    · rw [if_pos h, Nat.mod_eq_of_lt (by omega)]
    · rw [if_neg h, show t = n - 1 by omega, Nat.mod_self]
  · rw [if_neg e]
    by_cases h : i < t
    · simp only [if_pos h]; exact Nat.mod_eq_of_lt (by omega)
    · simp only [if_neg h]; exact Nat.mod_eq_of_lt (by omega)
theorem erase_parts {α : Type} (l : List α) (i : Nat) : l.take i ++ l.drop (i + 1) = l.eraseIdx i := (List.eraseIdx_eq_take_drop_succ ..).symm
theorem set_erase {α : Type} (l : List α) (i : Nat) (x : α) : (l.set i x).eraseIdx i = l.eraseIdx i := by
  rw [← erase_parts, ← erase_parts, List.take_set_of_le (Nat.le_refl _), List.drop_set_of_lt (Nat.lt_succ_self i)]
def RLeavePost (w0 w : World) (P : Nat → Prop) (rb : Nat) (st : HSt) (L : List AM) (s : ByteArray) (id : Int) (e : Ending) (w' : World) : Prop := e = .returned (.bool (leaveA st s id).1) ∧ RefD w0 w P rb (leaveA st s id).2 L w'
/-- the lists have turned -/
structure Turned (w : World) (base rb : Nat) (vs vg vm : Value) (l : Subs) (gs : List RG) (ms : List Mg) (KB : Nat → Prop) (vg' : Value) (gs' : List RG) (W : World) : Prop where
  is : RHub W base rb vs vg' vm l gs' ms KB
  fr : Frame (RF0 rb vs vg vm gs) w W
  own : ∀ b, RF0 rb vs vg' vm gs' b → RF0 rb vs vg vm gs b ∨ w.heap.size ≤ b
theorem Turned.below {w W W' : World} {base rb : Nat} {vs vg vm vg' : Value} {l : Subs} {gs gs' : List RG} {ms : List Mg} {KB : Nat → Prop} (h : Turned w base rb vs vg vm l gs ms KB vg' gs' W) (hb : Below W.heap.size W W') : Turned w base rb vs vg vm l gs ms KB vg' gs' W' :=
  ⟨h.is.below hb, Frame.trans h.fr (Frame.of_below (F := fun _ => False) hb |>.mono fun _ e => e.elim), h.own⟩
theorem turned_start {w W : World} {base rb : Nat} {vs vg vm : Value} {l : Subs} {gs : List RG} {ms : List Mg} {KB : Nat → Prop} (h : RHub w base rb vs vg vm l gs ms KB) (hb : Below w.heap.size w W) : Turned w base rb vs vg vm l gs ms KB vg gs W := ⟨h.below hb, Frame.of_below hb, fun _ e => .inl e⟩
theorem Turned.member {w W WB w3 : World} {base rb gb n cap i : Nat} {vs vg vm mv2 : Value} {l : Subs} {gs gs' : List RG} {ms : List Mg} {KB : Nat → Prop} {row : Option Nat} {x : RG} {ids2 : List Int} (h : Turned w base rb vs vg vm l gs ms KB (.slice (some ⟨gb, 0, none⟩) n cap) gs' W) (hx : gs'[i]? = some x)
    (hb : Below W.heap.size W WB) (hg : WB.grownBy w3 row) (hr : ∀ b, row = some b → x.mv.ownBlock = some b) (hrow : w3.ownsRow base 3 1 mv2 ids2.length (ids2.map (Value.int .i64))) (hloc : ∀ b, mv2.ownBlock = some b → x.mv.ownBlock = some b ∨ W.heap.size ≤ b) :
    Turned w base rb vs vg vm l gs ms KB (.slice (some ⟨gb, 0, none⟩) n cap) (gs'.set i { x with ids := ids2, mv := mv2 }) (w3.setCell ⟨gb, i * 4 + 2, none⟩ mv2) := by
  obtain ⟨k1, k2⟩ := h.is.member_to hx hb hg hr hrow hloc
  have hxm := List.mem_of_getElem? hx
  have hs := h.fr.size
  refine ⟨k1, Frame.trans h.fr (k2.mono fun b hb => ?_), fun b hb => ?_⟩
  · rcases hb with e | e
    · exact h.own b (.inr (.inr (.inl (by rw [e]; rfl))))
    · exact h.own b (.inr (.inr (.inr (.inr ⟨x, hxm, e⟩))))
  · rcases hb with e | e | e | e | ⟨g, hg, e⟩
    · exact h.own b (.inl e)
    · exact h.own b (.inr (.inl e))
    · exact h.own b (.inr (.inr (.inl e)))
    · exact h.own b (.inr (.inr (.inr (.inl e))))
    · rcases List.mem_or_eq_of_mem_set hg with h1 | h1
      · exact h.own b (.inr (.inr (.inr (.inr ⟨g, h1, e⟩))))
      · subst h1
        rcases hloc b e with h2 | h2
        · exact h.own b (.inr (.inr (.inr (.inr ⟨x, hxm, h2⟩))))
        · exact .inr (by omega)
theorem Turned.turn {w W : World} {base rb gb n cap i : Nat} {vs vg vm : Value} {l : Subs} {gs gs' : List RG} {ms : List Mg} {KB : Nat → Prop} {x : RG} (h : Turned w base rb vs vg vm l gs ms KB (.slice (some ⟨gb, 0, none⟩) n cap) gs' W) (hx : gs'[i]? = some x) (t : Nat) :
    Turned w base rb vs vg vm l gs ms KB (.slice (some ⟨gb, 0, none⟩) n cap) (gs'.set i { x with tn := t }) (W.setCell ⟨gb, i * 4 + 3, none⟩ (.int .i64 (t : Int))) := by
  obtain ⟨k1, k2⟩ := h.is.turn_to hx t
  refine ⟨k1, Frame.trans h.fr (k2.mono fun c hb => h.own c (.inr (.inr (.inl (by rw [show c = gb from hb]; rfl))))), fun b hb => ?_⟩
  rcases hb with e | e | e | e | ⟨g, hg, e⟩
  · exact h.own b (.inl e)
  · exact h.own b (.inr (.inl e))
  · exact h.own b (.inr (.inr (.inl e)))
  · exact h.own b (.inr (.inr (.inr (.inl e))))
  · rcases List.mem_or_eq_of_mem_set hg with h1 | h1
    · exact h.own b (.inr (.inr (.inr (.inr ⟨g, h1, e⟩))))
    · subst h1
      exact h.own b (.inr (.inr (.inr (.inr ⟨x, List.mem_of_getElem? hx, e⟩))))
theorem Turned.groups {w W WB w3 : World} {base rb : Nat} {vs vg vm vg1 vg2 : Value} {l : Subs} {gs gs1 gs2 : List RG} {ms : List Mg} {KB : Nat → Prop} {row : Option Nat} (h : Turned w base rb vs vg vm l gs ms KB vg1 gs1 W) (hb : Below W.heap.size W WB) (hg : WB.grownBy w3 row) (hr : ∀ b, row = some b → vg1.ownBlock = some b)
    (hrow : w3.ownsRow base 122 4 vg2 gs2.length (rowG gs2)) (hloc : ∀ b, vg2.ownBlock = some b → vg1.ownBlock = some b ∨ W.heap.size ≤ b) (hmem : ∀ g ∈ gs2, g ∈ gs1) (hdis : Dis gs2) : Turned w base rb vs vg vm l gs ms KB vg2 gs2 (w3.setCell ⟨rb, 1, none⟩ vg2) := by
  obtain ⟨k1, k2⟩ := h.is.groups_to hb hg hr hrow hloc (fun g hg => .inl (hmem g hg)) hdis
  have hs := h.fr.size
  refine ⟨k1, Frame.trans h.fr (k2.mono fun b hb => ?_), fun b hb => ?_⟩
  · rcases hb with e | e
    · exact h.own b (.inl e)
    · exact h.own b (.inr (.inr (.inl e)))
  · rcases hb with e | e | e | e | ⟨g, hg, e⟩
    · exact h.own b (.inl e)
    · exact h.own b (.inr (.inl e))
    · rcases hloc b e with h2 | h2
      · exact h.own b (.inr (.inr (.inl h2)))
      · exact .inr (by omega)
    · exact h.own b (.inr (.inr (.inr (.inl e))))
    · exact h.own b (.inr (.inr (.inr (.inr ⟨g, hmem g hg, e⟩))))
theorem Turned.done {w0 w W : World} {P : Nat → Prop} {rb : Nat} {vs vg vm vg' : Value} {st : HSt} {gs gs' : List RG} {ms : List Mg} {KB : Nat → Prop} {L : List AM} {G : List AG} (h : Turned w w0.heap.size rb vs vg vm st.1 gs ms KB vg' gs' W) (h4 : Owns w0 w P) (h0 : w0.heap.size ≤ w.heap.size) (h5 : ∀ b, RF0 rb vs vg vm gs b ∨ KB b → P b) (hm : ms.map Mg.am = L) (hG : gs'.map RG.ag = G) : RefD w0 w P rb (st.1, G) L W :=
  refD_of (st' := (st.1, G)) h4 h0 h5 h.is hG hm h.fr (fun _ hb => .inl hb) fun b hb => hb.elim (fun e => (h.own b e).elim .inl fun e => .inr (.inr e)) fun e => .inr (.inl e)
set_option maxRecDepth 100000 in
set_option maxHeartbeats 8000000 in
theorem refLeave_any (w0 w : World) (P : Nat → Prop) (rb : Nat) (st : HSt) (L : List AM) (s : ByteArray) (id : Int) (h : RefS w0 w P rb st L) (hGd : GoodSt st) (hB : Below w0.heap.size w0 w) (hT0 : Tabs w0) (hs : s.size ≤ 1048576) (hl : st.1.length ≤ 100000000) (hgl : st.2.length ≤ 100000000) :
    Calls Tryz.prog 48 #[.pointer (some ⟨rb, 0, none⟩), .string s, .int .i64 id] w (RLeavePost w0 w P rb st L s id) := by
  obtain ⟨PP, hPP⟩ : ∃ PP : Ending → World → Prop, RLeavePost w0 w P rb st L s id = PP := ⟨_, rfl⟩
  rw [hPP]
  have HPP := Lib.hid hPP
  have hT := hT0.below hB
  have HT := Lib.hid hT
  have HB0 := Lib.hid hB
  have HGD := Lib.hid hGd
  have HRS := Lib.hid h
  have CS : Hid (Calls Tryz.prog 54 #[.string s] w (SplitPost s w)) := refSplit_any s w hs hT
  clear hPP hT hT0 hGd hB
  cases hk : splitK s with
  | none =>
    have HSV := Lib.hid (split_no hk)
    have HJ : Hid (leaveA st s id = (false, st)) := by
      show leaveA _ _ _ = _
      unfold leaveA; rw [hk]
    clear hk h
    go_enter Tryz.func48, Tryz.ntmps48
    go_wp2_with fail
    refine CS.out.mono ?_
    rintro e w1 ⟨rfl, hb1⟩
    rw [HSV.out]
    have HB1 := Lib.hid hb1
    clear hb1
    go_wp2_with fail
    rw [← HPP.out]
    refine ⟨by rw [HJ.out]; rfl, ?_⟩
    rw [HJ.out]
    exact refD_same HRS.out HB0.out.size HB1.out
  | some x =>
    obtain ⟨n, f⟩ := x
    have HSV := Lib.hid (split_yes hk)
    have hfs : f.size ≤ s.size := split_size hk
    obtain ⟨vs, vg, vm, gs, ms, KB, h1, h2, h3, h4, h5⟩ := h
    have HR := Lib.hid h1
    have HAG := Lib.hid h2
    have HAM := Lib.hid h3
    have HOW := Lib.hid h4
    have HPB := Lib.hid h5
    have hgl2 : gs.length ≤ 100000000 := by rw [← h2, List.length_map] at hgl; exact hgl
    by_cases hn : n.size = 0
    · have hl1 : n.toList = [] := by rw [ByteArray.toList_eq]; exact List.eq_nil_of_length_eq_zero (by rw [show n.data.toList.length = n.size from Array.length_toList]; exact hn)
      have hl2 : n.toList.isEmpty = true := by rw [hl1]; rfl
      have HJ : Hid (∀ ok : Bool, (ok = true ↔ (f, id) ∈ st.1) → leaveA st s id = (ok, subS st.1 f id, st.2)) := fun ok hok => by
        unfold leaveA
        rw [hk]
        simp only [hn, if_true]
        refine Prod.ext ?_ rfl
        exact dec_of hok
      clear hk hn h1 h2 h3 h4 h5
      go_enter Tryz.func48, Tryz.ntmps48
      go_wp2_with fail
      refine CS.out.mono ?_
      rintro e w1 ⟨rfl, hb1⟩
      rw [HSV.out]
      have HR1 := Lib.hid (HR.out.below hb1)
      have HB1 := Lib.hid hb1
      have hbl1 := HR1.out.blt
      clear hb1
      go_wp2_with fail
      refine (refRemove_any w1 w0.heap.size rb vg vm vs st.1 f id HR1.out.rl HGD.out.nd hl).mono ?_
      rintro e w3 ⟨ok, vs', rfl, hok, hto⟩
      have HJ2 := Lib.hid (HJ.out ok hok)
      have HTO := Lib.hid hto
      clear hok hto
      go_wp2_with fail
      rw [← HPP.out]
      refine ⟨by rw [HJ2.out]; rfl, ?_⟩
      rw [HJ2.out]
      refine refD_of HOW.out HB0.out.size HPB.out (HR1.out.subs_to HTO.out) HAG.out HAM.out (Frame.trans (Frame.of_below (F := fun b => b = rb ∨ vs.ownBlock = some b) HB1.out) (HTO.out.fr.mono fun b hb => .inl hb)) (fun b hb => .inl (hb.elim .inl fun e => .inr (.inl e))) fun b hb => ?_
      have hs1 := HB1.out.size
      rcases hb with (e | e | e | e | e) | e
      · exact .inl (.inl e)
      · rcases HTO.out.own b e with h1 | h1
        · exact .inl (.inr (.inl h1))
        · exact .inr (.inr (by omega))
      · exact .inl (.inr (.inr (.inl e)))
      · exact .inl (.inr (.inr (.inr (.inl e))))
      · exact .inl (.inr (.inr (.inr (.inr e))))
      · exact .inr (.inl e)
    · have hl1 : ¬ n.toList = [] := fun e => hn (by rw [ByteArray.toList_eq] at e; rw [show n.size = n.data.toList.length from Array.length_toList.symm, e]; rfl)
      have hl2 : n.toList.isEmpty = false := by cases hx : n.toList with | nil => exact absurd hx hl1 | cons a b => rfl
      have HJN : Hid ((∀ g ∈ gs, g.key ≠ s) → leaveA st s id = (false, st)) := fun hno => leaveA_no hk hn (findA_none fun a ha => by
        rw [← h2] at ha
        obtain ⟨g, hg, rfl⟩ := List.mem_map.1 ha
        exact hno g hg)
      have HJO : Hid (∀ (i : Nat) (g : RG), gs[i]? = some g → g.key = s → id ∉ g.ids → leaveA st s id = (false, st)) := fun i g hg hgs hni => by
        have ha : st.2[i]? = some g.ag := by rw [← h2, List.getElem?_map, hg]; rfl
        have e1 := findA_at HGD.out.keys ha
        exact leaveA_out (a := g.ag) hk hn (by rw [← hgs]; exact e1) hni
      have HJ1 : Hid (∀ (i : Nat) (g : RG), gs[i]? = some g → g.key = s → id ∈ g.ids → g.ids.length = 1 → leaveA st s id = (true, st.1, st.2.eraseIdx i)) := fun i g hg hgs hni hlt => by
        have ha : st.2[i]? = some g.ag := by rw [← h2, List.getElem?_map, hg]; rfl
        have e1 := findA_at HGD.out.keys ha
        rw [leaveA_last (a := g.ag) hk hn (by rw [← hgs]; exact e1) hni hlt]
        refine congrArg (fun y => (true, st.1, y)) ?_
        rw [← hgs]
        exact delA_at HGD.out.keys ha
      have HJ2 : Hid (∀ (i k : Nat) (g : RG), gs[i]? = some g → g.key = s → g.ids[k]? = some id → g.ids.length ≠ 1 → leaveA st s id = (true, st.1, st.2.set i ⟨g.key, g.fil, g.ids.eraseIdx k, turnL g.tn k g.ids.length⟩)) := fun i k g hg hgs hni hlt => by
        have ha : st.2[i]? = some g.ag := by rw [← h2, List.getElem?_map, hg]; rfl
        have e1 := findA_at HGD.out.keys ha
        have hx : g.ids.idxOf id = k := idx_nodup (HGD.out.each g.ag (List.mem_of_getElem? ha)).2.2.2.1 hni
        rw [leaveA_one (a := g.ag) hk hn (by rw [← hgs]; exact e1) (List.mem_of_getElem? hni) hlt]
        refine congrArg (fun y => (true, st.1, y)) ?_
        rw [← hgs]
        refine (setA_at HGD.out.keys ha _).trans ?_
        show st.2.set i ⟨g.key, g.fil, g.ids.eraseIdx (g.ids.idxOf id), turnL g.tn (g.ids.idxOf id) g.ids.length⟩ = _
        rw [hx]
      have HFEW : Hid (∀ g ∈ gs, g.ids.length ≤ 256 ∧ g.tn < g.ids.length) := fun g hg => by
        have h := HGD.out.each g.ag (by rw [← h2]; exact List.mem_map.2 ⟨g, hg, rfl⟩)
        exact ⟨h.2.2.1, h.2.1⟩
      obtain ⟨qg, cg, rfl⟩ := h1.form
      clear hk hn h1 h2 h3 h4 h5
      go_enter Tryz.func48, Tryz.ntmps48
      go_wp2_with fail
      refine CS.out.mono ?_
      rintro e w1 ⟨rfl, hb1⟩
      rw [HSV.out]
      have HR1 := Lib.hid (HR.out.below hb1)
      have HB1 := Lib.hid hb1
      have hbl1 := HR1.out.blt
      clear hb1
      go_wp2_with fail
      refine (group_any w1 w0.heap.size rb vs _ vm st.1 gs ms KB s HR1.out hgl2).mono ?_
      rintro e w2 ⟨⟨r, rfl, hr⟩, hb2⟩
      have HR2 := Lib.hid (HR1.out.below hb2)
      have HB2 := Lib.hid (HB1.out.trans (hb2.mono HB1.out.size))
      have hbl2 := HR2.out.blt
      have c2 := HR2.out.cells.2.1
      have hbase : w0.heap.size ≤ w2.heap.size := Nat.le_trans HB0.out.size HB2.out.size
      clear hb2 hbl1
      rcases hr with ⟨rfl, hr⟩ | ⟨i, x, rfl, hx, hxk⟩
      · have HJ := Lib.hid (HJN.out hr)
        clear hr
        go_wp2_with fail
        rw [← HPP.out]
        refine ⟨by rw [HJ.out]; rfl, ?_⟩
        rw [HJ.out]
        exact refD_same HRS.out HB0.out.size HB2.out
      · have HX := Lib.hid hx
        have HXK := Lib.hid hxk
        have hxm : x ∈ gs := List.mem_of_getElem? hx
        have hil : i < gs.length := (List.getElem?_eq_some_iff.1 hx).1
        obtain ⟨hfew, htnl⟩ := HFEW.out x hxm
        obtain ⟨gb, rfl, -, -, e2, -⟩ := HR2.out.at_ hx
        have hmv := HR2.out.mem x hxm
        obtain ⟨qm, cm, hqm⟩ := (Fl.of_own hmv).form
        rw [hqm] at e2
        have HIS : Hid (∀ W, Below w2.heap.size w2 W → IS W (.slice qm x.ids.length cm) x.ids) := fun W hb => (IS_of (by rw [← hqm]; exact Fl.of_own hmv) rfl : IS w2 (.slice qm x.ids.length cm) x.ids).below hb
        have hgbl : gb < w2.heap.size := World.block_lt_of_cell? w2 _ e2
        have hilI : (i : Int) < (gs.length : Int) := by omega
        have hi0 : (0 : Int) ≤ (i : Int) := by omega
        have hin0 : ¬ ((i : Int) < 0) := by omega
        have HQM := Lib.hid hqm
        clear hx hxk hmv hqm
        go_wp2_with fail
        refine (at30_any w2 _ x.ids id (HIS.out w2 (Below.refl _ _))).mono ?_
        rintro e w4 ⟨⟨r, rfl, hr⟩, hb4⟩
        have HR4 := Lib.hid (HR2.out.below hb4)
        have HB24 := Lib.hid hb4
        have HB4 := Lib.hid (HB2.out.trans (hb4.mono HB2.out.size))
        have e4 : w4.cell? ⟨gb, i * 4 + 2, none⟩ = some (.slice qm x.ids.length cm) := (hb4.cell (p := ⟨gb, i * 4 + 2, none⟩) hgbl).trans e2
        have c4 := HR4.out.cells.2.1
        have hbl4 := HR4.out.blt
        have hgbl4 : gb < w4.heap.size := World.block_lt_of_cell? w4 _ e4
        clear hb4 e2 c2 hbl2 hgbl
        rcases hr with ⟨rfl, hr⟩ | ⟨k, rfl, hr⟩
        · have HJ := Lib.hid (HJO.out i x HX.out HXK.out hr)
          clear hr
          go_wp2_with fail
          rw [← HPP.out]
          refine ⟨by rw [HJ.out]; rfl, ?_⟩
          rw [HJ.out]
          exact refD_same HRS.out HB0.out.size HB4.out
        · have HK := Lib.hid hr
          have hkl : k < x.ids.length := (List.getElem?_eq_some_iff.1 hr).1
          have hk0 : ¬ ((k : Int) < 0) := by omega
          clear hr
          go_wp2_with fail
          refine (at30_any w4 _ x.ids id (HIS.out w4 HB24.out)).mono ?_
          rintro e w5 ⟨⟨r, rfl, hr⟩, hb5⟩
          obtain rfl : r = (k : Int) := by
            rcases hr with ⟨-, h⟩ | ⟨k', rfl, h⟩
            · exact absurd (List.mem_of_getElem? HK.out) h
            · have := (List.getElem?_inj hkl (HGD.out.each x.ag (by rw [← HAG.out]; exact List.mem_map.2 ⟨x, hxm, rfl⟩)).2.2.2.1).1 (HK.out.trans h.symm)
              rw [this]
          have HR5 := Lib.hid (HR4.out.below hb5)
          have HB45 := Lib.hid hb5
          have HB5 := Lib.hid (HB4.out.trans (hb5.mono HB4.out.size))
          have e5 : w5.cell? ⟨gb, i * 4 + 2, none⟩ = some (.slice qm x.ids.length cm) := (hb5.cell (p := ⟨gb, i * 4 + 2, none⟩) hgbl4).trans e4
          have c5 := HR5.out.cells.2.1
          have hbl5 := HR5.out.blt
          have hgbl5 : gb < w5.heap.size := World.block_lt_of_cell? w5 _ e5
          have hbase5 : w0.heap.size ≤ w5.heap.size := Nat.le_trans HB0.out.size HB5.out.size
          have HNE : Hid (rb ≠ gb) := fun e => HR5.out.off_box.2.1 (by rw [e]; rfl)
          have hne := HNE.out
          have hne2 : gb ≠ rb := fun e => hne e.symm
          clear hb5 hr e4 c4 hbl4 hgbl4
          obtain ⟨i0, hi, hz0, hz1, hz2⟩ := info_parts info_int
          have hFl : Fl w5 1 (.slice qm x.ids.length cm) x.ids.length (x.ids.map (Value.int .i64)) := by
            have h := Fl.of_own (HR5.out.mem x hxm)
            rw [HQM.out] at h
            exact h
          obtain ⟨q1, cq1, hrun1, hf1⟩ := hFl.cut (P := Tryz.prog) 26 3 i0 Tryz.underlying26 hi (i := k) (by omega)
          obtain ⟨q2, cq2, hrun2, hf2⟩ := hFl.rest (P := Tryz.prog) 26 3 i0 Tryz.underlying26 hi hz1 (i := k + 1) (by omega)
          rw [show ((k + 1 : Nat) : Int) = (k : Int) + 1 by omega] at hrun2
          rw [Nat.mul_one] at hf1 hf2
          have HF1 := Lib.hid hf1
          have HF2 := Lib.hid hf2
          have HONE : Hid (∀ u ∈ x.ids.map (Value.int .i64), u.oneCell' = true) := fun u hu => by
            obtain ⟨z, -, rfl⟩ := List.mem_map.1 hu
            rfl
          have HT5 := Lib.hid (turned_start HR.out HB5.out)
          -- what the new members lie in
          have HMB : Hid (∀ (w6 : World) (q6 : Option Addr) (cap6 : Nat), Below w5.heap.size w5 w6 → w6.ownsRow w0.heap.size 3 1 (.slice q6 (k + (x.ids.length - (k + 1))) cap6) (k + (x.ids.length - (k + 1))) ((x.ids.map (Value.int .i64)).take k ++ (x.ids.map (Value.int .i64)).drop (k + 1)) → (∀ b, (Value.slice q6 (k + (x.ids.length - (k + 1))) cap6).ownBlock = some b → w5.heap.size ≤ b) →
              Turned w w0.heap.size rb vs (.slice (some ⟨gb, 0, none⟩) gs.length cg) vm st.1 gs ms KB (.slice (some ⟨gb, 0, none⟩) gs.length cg) (gs.set i { x with ids := x.ids.eraseIdx k, mv := .slice q6 (k + (x.ids.length - (k + 1))) cap6 }) (w6.setCell ⟨gb, i * 4 + 2, none⟩ (.slice q6 (k + (x.ids.length - (k + 1))) cap6))) := fun w6 q6 cap6 hb hown hv => by
            refine HT5.out.member (row := none) HX.out (Below.refl _ _) (grown_of_below hb) (fun b h => by cases h) ?_ (fun b h => .inr (hv b h))
            have e1 : (x.ids.eraseIdx k).length = k + (x.ids.length - (k + 1)) := by rw [List.length_eraseIdx, if_pos hkl]; omega
            have e2 : (x.ids.eraseIdx k).map (Value.int .i64) = (x.ids.map (Value.int .i64)).take k ++ (x.ids.map (Value.int .i64)).drop (k + 1) := by rw [← erase_parts, List.map_append, List.map_take, List.map_drop]
            rw [e1, e2]
            exact hown
          have HC6 : Hid (∀ w6, Below w5.heap.size w5 w6 → w6.cell? ⟨rb, 1, none⟩ = some (.slice (some ⟨gb, 0, none⟩) gs.length cg) ∧ w6.cell? ⟨gb, i * 4 + 2, none⟩ = some (.slice qm x.ids.length cm) ∧ w6.cell? ⟨gb, i * 4 + 3, none⟩ = some (.int .i64 (x.tn : Int)) ∧ w6.frozen? ⟨gb, i * 4 + 2, none⟩ = false ∧ w6.frozen? ⟨gb, i * 4 + 3, none⟩ = false ∧ w6.frozen? ⟨rb, 1, none⟩ = false ∧ rb < w6.heap.size ∧ gb < w6.heap.size) := fun w6 hb => by
            have h := HR5.out.below hb
            obtain ⟨gb', hgb', -, -, a2, a3⟩ := h.at_ HX.out
            injection hgb' with hgb'
            injection hgb' with hgb'
            subst hgb'
            rw [HQM.out] at a2
            obtain ⟨cur, hc⟩ := row_block h.grp
            exact ⟨h.cells.2.1, a2, a3, frozen_of_row w6 gb _ _ _ hc, frozen_of_row w6 gb _ _ _ hc, frozen_of_row w6 rb _ _ _ h.box, h.blt, World.block_lt_of_cell? w6 _ a2⟩
          obtain ⟨tn, htn⟩ : ∃ tn, x.tn = tn := ⟨_, rfl⟩
          rw [htn] at htnl HC6
          have HTN := Lib.hid htn
          clear hf1 hf2 hFl htn
          obtain ⟨n', hn'⟩ : ∃ n', k + (x.ids.length - (k + 1)) = n' := ⟨_, rfl⟩
          rw [hn'] at HMB
          have HN2 : Hid (x.ids.length = n' + 1) := by show x.ids.length = n' + 1; omega
          have HFIN : Hid (∀ (W8 : World) (v6 : Value) (t1 : Nat), Turned w w0.heap.size rb vs (.slice (some ⟨gb, 0, none⟩) gs.length cg) vm st.1 gs ms KB (.slice (some ⟨gb, 0, none⟩) gs.length cg) (gs.set i { x with ids := x.ids.eraseIdx k, mv := v6, tn := t1 }) W8 → t1 = (if k < tn then tn - 1 else tn) → n' ≠ 0 → RLeavePost w0 w P rb st L s id (.returned (.bool true)) (W8.setCell ⟨gb, i * 4 + 3, none⟩ (.int .i64 ((t1 : Int) % (n' : Int)))).drew) := fun W8 v6 t1 hT ht hn0 => by
            have hJ := HJ2.out i k x HX.out HXK.out HK.out (by have := HN2.out; omega)
            refine ⟨by rw [hJ], ?_⟩
            rw [hJ]
            have hx2 : (gs.set i { x with ids := x.ids.eraseIdx k, mv := v6, tn := t1 })[i]? = some { x with ids := x.ids.eraseIdx k, mv := v6, tn := t1 } := by rw [List.getElem?_set, if_pos rfl, if_pos hil]
            refine (Turned.below (hT.turn hx2 (t1 % n')) (Below.drew_of _)).done HOW.out HB0.out.size HPB.out HAM.out ?_
            rw [List.set_set, map_set_ag, HAG.out]
            refine congrArg (fun y => st.2.set i y) ?_
            show AG.mk x.key x.fil (x.ids.eraseIdx k) (t1 % n') = _
            rw [HTN.out, ← turn_mod htnl hkl (by have := HN2.out; omega), ht, show x.ids.length - 1 = n' by have := HN2.out; omega]
          have HC8 : Hid (∀ (W8 : World) (x2 : RG), Turned w w0.heap.size rb vs (.slice (some ⟨gb, 0, none⟩) gs.length cg) vm st.1 gs ms KB (.slice (some ⟨gb, 0, none⟩) gs.length cg) (gs.set i x2) W8 → W8.cell? ⟨rb, 1, none⟩ = some (.slice (some ⟨gb, 0, none⟩) gs.length cg) ∧ W8.cell? ⟨gb, i * 4 + 3, none⟩ = some (.int .i64 (x2.tn : Int)) ∧ W8.frozen? ⟨gb, i * 4 + 3, none⟩ = false ∧ rb < W8.heap.size ∧ gb < W8.heap.size) := fun W8 x2 hT => by
            have h := hT.is
            have hx2 : (gs.set i x2)[i]? = some x2 := by rw [List.getElem?_set, if_pos rfl, if_pos hil]
            obtain ⟨gb', hgb', -, -, -, a3⟩ := h.at_ hx2
            injection hgb' with hgb'
            injection hgb' with hgb'
            subst hgb'
            obtain ⟨cur, hc⟩ := row_block h.grp
            exact ⟨h.cells.2.1, a3, frozen_of_row W8 gb _ _ _ hc, h.blt, World.block_lt_of_cell? W8 _ a3⟩
          by_cases hone : n' = 0
          · have hktI : ¬ ((k : Int) < (tn : Int)) := by have := HN2.out; omega
            have hpos : ¬ (0 : Int) < (n' : Int) := by omega
            have HONE0 := Lib.hid hone
            clear hone
            obtain ⟨j0, hj, hy0, hy1, hy2⟩ := info_parts info_group
            have HFL : Hid (∀ W x2, Turned w w0.heap.size rb vs (.slice (some ⟨gb, 0, none⟩) gs.length cg) vm st.1 gs ms KB (.slice (some ⟨gb, 0, none⟩) gs.length cg) (gs.set i x2) W → Fl W 4 (.slice (some ⟨gb, 0, none⟩) gs.length cg) gs.length (rowG (gs.set i x2))) := fun W x2 h => by
              have h2 := Fl.of_own h.is.grp
              rw [List.length_set] at h2
              exact h2
            have HONG : Hid (∀ x2 : RG, x2.mv.oneCell' = true → ∀ u ∈ rowG (gs.set i x2), u.oneCell' = true) := fun x2 hx2 u hu => by
              unfold rowG at hu
              obtain ⟨cs, hcs, hu⟩ := List.mem_flatten.1 hu
              obtain ⟨g, hg, rfl⟩ := List.mem_map.1 hcs
              have hgm : g.mv.oneCell' = true := by
                rcases List.mem_or_eq_of_mem_set hg with h1 | h1
                · obtain ⟨q, c, e⟩ := (Fl.of_own (HR.out.mem g h1)).form
                  rw [e]; rfl
                · rw [h1]; exact hx2
              simp only [RG.cells, List.mem_cons, List.not_mem_nil, or_false] at hu
              rcases hu with rfl | rfl | rfl | rfl
              · rfl
              · rfl
              · exact hgm
              · rfl
            have HJL := Lib.hid (HJ1.out i x HX.out HXK.out (List.mem_of_getElem? HK.out) (by have := HN2.out; have := HONE0.out; omega))
            have hlen2 : gs.length - (i + 1) ≤ gs.length := by omega
            go_wp2_with (first
              | (at_builtin; refine wpList_append_fl _ rfl (.tmp 58) (.tmp 68) 26 3 rfl w0.heap.size 1 8 i0 (.int .i64 0) Tryz.underlying26 hi hz0 hz1 hz2 rfl (by decide) _ 0 [] rfl (World.ownsRow_nil _ _ _ _) _ rfl k ((x.ids.map (Value.int .i64)).take k) HF1.out (fun u hu => HONE.out u (List.mem_of_mem_take hu)) (by unfold maxLen; omega) (by omega) hbase5 ?_; intro v3 w3 hown3 hg3 hloc3; rw [Nat.zero_add, List.nil_append] at hown3; have HB3 := Lib.hid ((Below.refl w5.heap.size w5).grown hg3 (Nat.le_refl _) (fun k hk => by cases hk)); obtain ⟨c3, e3, t3, fa3, fb3, fc3, ga3, gg3⟩ := HC6.out w3 HB3.out; have hs3 := HB3.out.size; have HO3 := Lib.hid hown3; have HL3 := Lib.hid hloc3; clear hg3 hown3 hloc3)
              | (at_builtin; refine wpList_append_fl _ rfl (.tmp 70) (.tmp 81) 26 3 rfl w0.heap.size 1 8 i0 (.int .i64 0) Tryz.underlying26 hi hz0 hz1 hz2 rfl (by decide) _ k _ rfl HO3.out _ rfl (x.ids.length - (k + 1)) ((x.ids.map (Value.int .i64)).drop (k + 1)) (HF2.out.below HB3.out) (fun u hu => HONE.out u (List.mem_of_mem_drop hu)) (by unfold maxLen; omega) (by omega) (by omega) ?_; intro v6 w6 hown6 hg6 hloc6; rw [hn'] at hown6; obtain ⟨q6, cap6, rfl⟩ := (Fl.of_own hown6).form; have hv3 : ∀ b, v3.ownBlock = some b → w5.heap.size ≤ b := (fun b hb => HL3.out.elim (fun h => by rw [h] at hb; cases hb) (fun h => by rw [h] at hb; injection hb with hb; omega)); have HB6 := Lib.hid (HB3.out.grown hg6 hs3 hv3); have HV6 := Lib.hid (show ∀ b, (Value.slice q6 n' cap6).ownBlock = some b → w5.heap.size ≤ b from fun b hb => hloc6.elim (fun h => hv3 b (h.symm.trans hb)) (fun h => by rw [h] at hb; injection hb with hb; omega)); obtain ⟨c6, e6, t6, fa6, fb6, fc6, ga6, gg6⟩ := HC6.out w6 HB6.out; have HT7 := Lib.hid (HMB.out w6 q6 cap6 HB6.out hown6 HV6.out); clear hg6 hown6 hloc6 hv3 hs3 c3 e3 t3 fa3 fb3 fc3 ga3 gg3; obtain ⟨q7, cq7, hrun7, hf7⟩ := (HFL.out _ _ HT7.out).cut (P := Tryz.prog) 48 122 j0 Tryz.underlying48 hj (i := i) (by omega); obtain ⟨q8, cq8, hrun8, hf8⟩ := (HFL.out _ _ HT7.out).rest (P := Tryz.prog) 48 122 j0 Tryz.underlying48 hj hy1 (i := i + 1) (by omega); rw [show ((i + 1 : Nat) : Int) = (i : Int) + 1 by omega] at hrun8; have HF7 := Lib.hid hf7; have HF8 := Lib.hid hf8; have HOG := Lib.hid (HONG.out ({ x with ids := x.ids.eraseIdx k, mv := .slice q6 n' cap6 } : RG) rfl); have hb7 : w0.heap.size ≤ (w6.setCell ⟨gb, i * 4 + 2, none⟩ (.slice q6 n' cap6)).heap.size := (by have := HT7.out.fr.size; have := HB0.out.size; omega); have HC9 : Hid (∀ W, Below (w6.setCell ⟨gb, i * 4 + 2, none⟩ (.slice q6 n' cap6)).heap.size (w6.setCell ⟨gb, i * 4 + 2, none⟩ (.slice q6 n' cap6)) W → W.cell? ⟨rb, 1, none⟩ = some (.slice (some ⟨gb, 0, none⟩) gs.length cg) ∧ W.frozen? ⟨rb, 1, none⟩ = false ∧ rb < W.heap.size) := (fun W hb => ⟨(HT7.out.is.below hb).cells.2.1, frozen_of_row W rb _ _ _ (HT7.out.is.below hb).box, (HT7.out.is.below hb).blt⟩); clear hf7 hf8)
              | (at_builtin; refine wpList_append_fl _ rfl (.tmp 133) (.tmp 139) 48 122 rfl w0.heap.size 4 64 j0 (.agg #[.string ByteArray.empty, .string ByteArray.empty, .slice none 0 0, .int .i64 0]) Tryz.underlying48 hj hy0 hy1 hy2 rfl (by decide) _ 0 [] rfl (World.ownsRow_nil _ _ _ _) _ rfl i ((rowG (gs.set i ({ x with ids := x.ids.eraseIdx k, mv := .slice q6 n' cap6 } : RG))).take (i * 4)) HF7.out (fun u hu => HOG.out u (List.mem_of_mem_take hu)) (by unfold maxLen; omega) (by omega) hb7 ?_; intro v8 w8 hown8 hg8 hloc8; rw [Nat.zero_add, List.nil_append] at hown8; have HB8 := Lib.hid ((Below.refl (w6.setCell ⟨gb, i * 4 + 2, none⟩ (.slice q6 n' cap6)).heap.size (w6.setCell ⟨gb, i * 4 + 2, none⟩ (.slice q6 n' cap6))).grown hg8 (Nat.le_refl _) (fun k hk => by cases hk)); obtain ⟨c8, f8, l8⟩ := HC9.out w8 HB8.out; have hs8 := HB8.out.size; have HO8 := Lib.hid hown8; have HL8 := Lib.hid hloc8; clear hg8 hown8 hloc8)
              | (at_builtin; refine wpList_append_fl _ rfl (.tmp 142) (.tmp 149) 48 122 rfl w0.heap.size 4 64 j0 (.agg #[.string ByteArray.empty, .string ByteArray.empty, .slice none 0 0, .int .i64 0]) Tryz.underlying48 hj hy0 hy1 hy2 rfl (by decide) _ i _ rfl HO8.out _ rfl (gs.length - (i + 1)) ((rowG (gs.set i ({ x with ids := x.ids.eraseIdx k, mv := .slice q6 n' cap6 } : RG))).drop ((i + 1) * 4)) (HF8.out.below HB8.out) (fun u hu => HOG.out u (List.mem_of_mem_drop hu)) (by unfold maxLen; omega) (by omega) (by omega) ?_; intro v9 w9 hown9 hg9 hloc9; obtain ⟨q9, cap9, rfl⟩ := (Fl.of_own hown9).form; have hv8 : ∀ b, v8.ownBlock = some b → (w6.setCell ⟨gb, i * 4 + 2, none⟩ (.slice q6 n' cap6)).heap.size ≤ b := (fun b hb => HL8.out.elim (fun h => by rw [h] at hb; cases hb) (fun h => by rw [h] at hb; injection hb with hb; omega)); have HB9 := Lib.hid (HB8.out.grown hg9 hs8 hv8); have HV9 := Lib.hid (show ∀ b, (Value.slice q9 (i + (gs.length - (i + 1))) cap9).ownBlock = some b → (w6.setCell ⟨gb, i * 4 + 2, none⟩ (.slice q6 n' cap6)).heap.size ≤ b from fun b hb => hloc9.elim (fun h => hv8 b (h.symm.trans hb)) (fun h => by rw [h] at hb; injection hb with hb; omega)); have HO9 := Lib.hid hown9; obtain ⟨c9, f9, l9⟩ := HC9.out w9 HB9.out; clear hg9 hown9 hloc9 hv8 hs8 c8 f8 l8)
              | fail)
            rw [← HPP.out]
            refine ⟨by rw [HJL.out]; rfl, ?_⟩
            rw [HJL.out]
            refine (HT7.out.groups (row := none) (gs2 := (gs.set i { x with ids := x.ids.eraseIdx k, mv := .slice q6 n' cap6 }).eraseIdx i) (Below.refl _ _) (grown_of_below HB9.out) (fun b h => by cases h) ?_ (fun b h => .inr (HV9.out b h)) (fun g hg => List.mem_of_mem_eraseIdx hg) (dis_erase HT7.out.is.dis i)).done HOW.out HB0.out.size HPB.out HAM.out ?_
            · rw [← erase_parts, rowG_append, rowG_take, rowG_drop, List.length_append, List.length_take, List.length_drop, List.length_set, Nat.min_eq_left (Nat.le_of_lt hil)]
              exact HO9.out
            · rw [set_erase, ← erase_parts, ← erase_parts, List.map_append, List.map_take, List.map_drop, HAG.out]
          · have hpos : (0 : Int) < (n' : Int) := by omega
            have hmod : ∀ t1 : Nat, t1 ≤ 256 → IntKind.i64.wrap ((t1 : Int).tmod (n' : Int)) = ((t1 % n' : Nat) : Int) := fun t1 ht => by
              rw [show (t1 : Int).tmod (n' : Int) = ((t1 % n' : Nat) : Int) from (Int.ofNat_tmod t1 n').symm]
              have := Nat.mod_le t1 n'
              rw [IntKind.wrap_i64]; omega
            by_cases hkt : k < tn
            · have hktI : (k : Int) < (tn : Int) := by omega
              go_wp2_with (first
                | (at_builtin; refine wpList_append_fl _ rfl (.tmp 58) (.tmp 68) 26 3 rfl w0.heap.size 1 8 i0 (.int .i64 0) Tryz.underlying26 hi hz0 hz1 hz2 rfl (by decide) _ 0 [] rfl (World.ownsRow_nil _ _ _ _) _ rfl k ((x.ids.map (Value.int .i64)).take k) HF1.out (fun u hu => HONE.out u (List.mem_of_mem_take hu)) (by unfold maxLen; omega) (by omega) hbase5 ?_; intro v3 w3 hown3 hg3 hloc3; rw [Nat.zero_add, List.nil_append] at hown3; have HB3 := Lib.hid ((Below.refl w5.heap.size w5).grown hg3 (Nat.le_refl _) (fun k hk => by cases hk)); obtain ⟨c3, e3, t3, fa3, fb3, fc3, ga3, gg3⟩ := HC6.out w3 HB3.out; have hs3 := HB3.out.size; have HO3 := Lib.hid hown3; have HL3 := Lib.hid hloc3; clear hg3 hown3 hloc3)
                | (at_builtin; refine wpList_append_fl _ rfl (.tmp 70) (.tmp 81) 26 3 rfl w0.heap.size 1 8 i0 (.int .i64 0) Tryz.underlying26 hi hz0 hz1 hz2 rfl (by decide) _ k _ rfl HO3.out _ rfl (x.ids.length - (k + 1)) ((x.ids.map (Value.int .i64)).drop (k + 1)) (HF2.out.below HB3.out) (fun u hu => HONE.out u (List.mem_of_mem_drop hu)) (by unfold maxLen; omega) (by omega) (by omega) ?_; intro v6 w6 hown6 hg6 hloc6; rw [hn'] at hown6; obtain ⟨q6, cap6, rfl⟩ := (Fl.of_own hown6).form; have hv3 : ∀ b, v3.ownBlock = some b → w5.heap.size ≤ b := (fun b hb => HL3.out.elim (fun h => by rw [h] at hb; cases hb) (fun h => by rw [h] at hb; injection hb with hb; omega)); have HB6 := Lib.hid (HB3.out.grown hg6 hs3 hv3); have HV6 := Lib.hid (show ∀ b, (Value.slice q6 n' cap6).ownBlock = some b → w5.heap.size ≤ b from fun b hb => hloc6.elim (fun h => hv3 b (h.symm.trans hb)) (fun h => by rw [h] at hb; injection hb with hb; omega)); obtain ⟨c6, e6, t6, fa6, fb6, fc6, ga6, gg6⟩ := HC6.out w6 HB6.out; have HT7 := Lib.hid (HMB.out w6 q6 cap6 HB6.out hown6 HV6.out); clear hg6 hown6 hloc6 hv3 hs3 c3 e3 t3 fa3 fb3 fc3 ga3 gg3)
                | fail)
              have HT8 : Hid (Turned w w0.heap.size rb vs (.slice (some ⟨gb, 0, none⟩) gs.length cg) vm st.1 gs ms KB (.slice (some ⟨gb, 0, none⟩) gs.length cg) (gs.set i { x with ids := x.ids.eraseIdx k, mv := .slice q6 n' cap6, tn := tn - 1 }) ((w6.setCell ⟨gb, i * 4 + 2, none⟩ (.slice q6 n' cap6)).setCell ⟨gb, i * 4 + 3, none⟩ (.int .i64 ((tn : Int) - 1)))) := by
                have h := HT7.out.turn (i := i) (x := { x with ids := x.ids.eraseIdx k, mv := .slice q6 n' cap6 }) (by rw [List.getElem?_set, if_pos rfl, if_pos hil]) (tn - 1)
                rw [List.set_set, show ((tn - 1 : Nat) : Int) = (tn : Int) - 1 by omega] at h
                exact h
              obtain ⟨W8, hW8⟩ : ∃ W8, (w6.setCell ⟨gb, i * 4 + 2, none⟩ (.slice q6 n' cap6)).setCell ⟨gb, i * 4 + 3, none⟩ (.int .i64 ((tn : Int) - 1)) = W8 := ⟨_, rfl⟩
              rw [hW8] at HT8 ⊢
              obtain ⟨c8, t8, f8, l8, g8⟩ := HC8.out W8 _ HT8.out
              have HF8 := Lib.hid (HFIN.out W8 _ _ HT8.out (by rw [if_pos hkt]) hone)
              obtain ⟨t1, ht1⟩ : ∃ t1, tn - 1 = t1 := ⟨_, rfl⟩
              have t8 : W8.cell? ⟨gb, i * 4 + 3, none⟩ = some (.int .i64 ((tn - 1 : Nat) : Int)) := t8
              rw [ht1] at t8 HF8
              have hm8 := hmod t1 (by omega)
              clear hmod hW8 c6 e6 t6 fa6 fb6 fc6 ga6 gg6 c5 e5
              have HT1 := Lib.hid ht1
              clear ht1
              go_region
              go_simp
              go_wp2_with fail
              rw [← HPP.out]
              (have hf := HF8.out; rw [← HT1.out] at hf; exact hf)
            · have hktI : ¬ ((k : Int) < (tn : Int)) := by omega
              go_wp2_with (first
                | (at_builtin; refine wpList_append_fl _ rfl (.tmp 58) (.tmp 68) 26 3 rfl w0.heap.size 1 8 i0 (.int .i64 0) Tryz.underlying26 hi hz0 hz1 hz2 rfl (by decide) _ 0 [] rfl (World.ownsRow_nil _ _ _ _) _ rfl k ((x.ids.map (Value.int .i64)).take k) HF1.out (fun u hu => HONE.out u (List.mem_of_mem_take hu)) (by unfold maxLen; omega) (by omega) hbase5 ?_; intro v3 w3 hown3 hg3 hloc3; rw [Nat.zero_add, List.nil_append] at hown3; have HB3 := Lib.hid ((Below.refl w5.heap.size w5).grown hg3 (Nat.le_refl _) (fun k hk => by cases hk)); obtain ⟨c3, e3, t3, fa3, fb3, fc3, ga3, gg3⟩ := HC6.out w3 HB3.out; have hs3 := HB3.out.size; have HO3 := Lib.hid hown3; have HL3 := Lib.hid hloc3; clear hg3 hown3 hloc3)
                | (at_builtin; refine wpList_append_fl _ rfl (.tmp 70) (.tmp 81) 26 3 rfl w0.heap.size 1 8 i0 (.int .i64 0) Tryz.underlying26 hi hz0 hz1 hz2 rfl (by decide) _ k _ rfl HO3.out _ rfl (x.ids.length - (k + 1)) ((x.ids.map (Value.int .i64)).drop (k + 1)) (HF2.out.below HB3.out) (fun u hu => HONE.out u (List.mem_of_mem_drop hu)) (by unfold maxLen; omega) (by omega) (by omega) ?_; intro v6 w6 hown6 hg6 hloc6; rw [hn'] at hown6; obtain ⟨q6, cap6, rfl⟩ := (Fl.of_own hown6).form; have hv3 : ∀ b, v3.ownBlock = some b → w5.heap.size ≤ b := (fun b hb => HL3.out.elim (fun h => by rw [h] at hb; cases hb) (fun h => by rw [h] at hb; injection hb with hb; omega)); have HB6 := Lib.hid (HB3.out.grown hg6 hs3 hv3); have HV6 := Lib.hid (show ∀ b, (Value.slice q6 n' cap6).ownBlock = some b → w5.heap.size ≤ b from fun b hb => hloc6.elim (fun h => hv3 b (h.symm.trans hb)) (fun h => by rw [h] at hb; injection hb with hb; omega)); obtain ⟨c6, e6, t6, fa6, fb6, fc6, ga6, gg6⟩ := HC6.out w6 HB6.out; have HT7 := Lib.hid (HMB.out w6 q6 cap6 HB6.out hown6 HV6.out); clear hg6 hown6 hloc6 hv3 hs3 c3 e3 t3 fa3 fb3 fc3 ga3 gg3)
                | fail)
              have HT8 : Hid (Turned w w0.heap.size rb vs (.slice (some ⟨gb, 0, none⟩) gs.length cg) vm st.1 gs ms KB (.slice (some ⟨gb, 0, none⟩) gs.length cg) (gs.set i { x with ids := x.ids.eraseIdx k, mv := .slice q6 n' cap6, tn := tn }) (w6.setCell ⟨gb, i * 4 + 2, none⟩ (.slice q6 n' cap6))) := by
                have h := HT7.out
                rw [← HTN.out]
                exact h
              obtain ⟨W8, hW8⟩ : ∃ W8, w6.setCell ⟨gb, i * 4 + 2, none⟩ (.slice q6 n' cap6) = W8 := ⟨_, rfl⟩
              rw [hW8] at HT8 ⊢
              obtain ⟨c8, t8, f8, l8, g8⟩ := HC8.out W8 _ HT8.out
              have t8 : W8.cell? ⟨gb, i * 4 + 3, none⟩ = some (.int .i64 (tn : Int)) := t8
              have HF8 := Lib.hid (HFIN.out W8 _ _ HT8.out (by rw [if_neg hkt]) hone)
              have hm8 := hmod tn (by omega)
              clear hmod hW8 c6 e6 t6 fa6 fb6 fc6 ga6 gg6 c5 e5
              go_region
              go_simp
              go_wp2_with fail
              rw [← HPP.out]
              exact HF8.out
end
end Go.Proofs.YtincmegllckcjaaGreatDoor
