/- SHARE: Hub.Join. -/
import Derived.Test.YtincmegllckcjaaGreatDoorMShareLeave
namespace Go.Proofs.YtincmegllckcjaaGreatDoor
open Go Go.RowKit
attribute [local go_sem ↓] Go.wp_at_zero Go.wp_at_succ

/-- a group, as far as it is told -/
structure AG where
  key : ByteArray
  fil : ByteArray
  ids : List Int
  tn : Nat
def KG.ag (x : KG) : AG := ⟨x.key, x.g.fil, x.g.ids, x.g.tn⟩
def absG (H : Hb) : List AG := H.gs.map KG.ag
def findA (G : List AG) (s : ByteArray) : Option AG := G.find? fun a => decide (a.key.data.toList = s.data.toList)
def setA (G : List AG) (s : ByteArray) (a' : AG) : List AG := G.map fun a => if a.key.data.toList = s.data.toList then a' else a
abbrev HSt := Subs × List AG
theorem dec_of {p : Prop} {i : Decidable p} {ok : Bool} (h : ok = true ↔ p) : @decide p i = ok := by
  cases ok with
  | true => exact decide_eq_true (h.1 rfl)
  | false => exact decide_eq_false (fun e => by cases h.2 e)
open Classical in
noncomputable def joinA (st : HSt) (s : ByteArray) (id : Int) : Bool × HSt := match splitK s with
  | none => (false, st)
  | some x => if x.1.size = 0 then (decide (filterB x.2 = true ∧ (x.2, id) ∉ st.1), addS st.1 x.2 id, st.2)
    else match findA st.2 s with
      | none => (true, st.1, st.2 ++ [⟨s, x.2, [id], 0⟩])
      | some a => if id ∉ a.ids ∧ a.ids.length < 256 then (true, st.1, setA st.2 s { a with ids := a.ids ++ [id] }) else (false, st)
theorem find_none {gs : List KG} {s : ByteArray} (h : ∀ x ∈ gs, x.key ≠ s) : findA (gs.map KG.ag) s = none := by
  unfold findA
  rw [List.find?_eq_none]
  intro a ha
  obtain ⟨x, hx, rfl⟩ := List.mem_map.1 ha
  simp only [decide_eq_true_eq]
  exact fun e => h x hx (bytes_inj e)
theorem find_some {gs : List KG} {x : KG} (hn : (gs.map (·.key)).Nodup) (hx : x ∈ gs) : findA (gs.map KG.ag) x.key = some x.ag := by
  unfold findA
  induction gs with
  | nil => cases hx
  | cons y gs ih =>
    rw [List.map_cons, List.find?_cons]
    rw [List.map_cons, List.nodup_cons] at hn
    rcases List.mem_cons.1 hx with rfl | hx
    · rw [show decide (x.ag.key.data.toList = x.key.data.toList) = true from decide_eq_true rfl]
    · have hne : y.key ≠ x.key := fun e => hn.1 (e ▸ List.mem_map.2 ⟨x, hx, rfl⟩)
      rw [show decide (y.ag.key.data.toList = x.key.data.toList) = false from decide_eq_false fun e => hne (bytes_inj e)]
      exact ih hn.2 hx
theorem abs_setG (gs : List KG) (s : ByteArray) (g' : Grp) : (setG gs s g').map KG.ag = setA (gs.map KG.ag) s (KG.ag ⟨s, g'⟩) := by
  unfold setG setA
  rw [List.map_map, List.map_map]
  refine List.map_congr_left fun y _ => ?_
  show KG.ag (if y.key.data.toList = s.data.toList then (⟨s, g'⟩ : KG) else y) = if y.key.data.toList = s.data.toList then KG.ag ⟨s, g'⟩ else y.ag
  split <;> rfl
theorem setA_same {G : List AG} {s : ByteArray} {a : AG} (h : ∀ b ∈ G, b.key.data.toList = s.data.toList → b = a) : setA G s a = G := by
  unfold setA
  conv => rhs; rw [← List.map_id G]
  refine List.map_congr_left fun b hb => ?_
  by_cases e : b.key.data.toList = s.data.toList
  · rw [if_pos e, h b hb e]; rfl
  · rw [if_neg e]; rfl
/-- what a call on the hub leaves -/
structure HubTo (w : World) (base : Nat) (H : Hb) (w' : World) (H' : Hb) : Prop where
  is : HubG w' base H'
  hb : H'.hb = H.hb
  km : H'.km = H.km
  fr : Frame (FHub H) w w'
  own : ∀ b, FHub H' b → FHub H b ∨ w.heap.size ≤ b
theorem HubG.same {W W' : World} {base : Nat} {H : Hb} (h : HubG W base H) (hb : Below W.heap.size W W') : HubTo W base H W' H := ⟨h.below hb, rfl, rfl, Frame.of_below hb, fun _ h => .inl h⟩
theorem HubTo.after {W W1 W' : World} {base : Nat} {H H' : Hb} (hb : Below W.heap.size W W1) (h : HubTo W1 base H W' H') : HubTo W base H W' H' :=
  ⟨h.is, h.hb, h.km, ⟨h.fr.os.trans hb.os, h.fr.tape.trans hb.tape, h.fr.output.trans hb.output, Nat.le_trans hb.size h.fr.size, fun b h1 h2 => (h.fr.block b (Nat.lt_of_lt_of_le h1 hb.size) h2).trans (hb.block b h1)⟩, fun b h1 => by
    rcases h.own b h1 with h2 | h2
    · exact .inl h2
    · exact .inr (Nat.le_trans hb.size h2)⟩
theorem HubG.cells {W : World} {base : Nat} {H : Hb} (h : HubG W base H) : W.cell? ⟨H.hb, 0, none⟩ = some (.pointer (some ⟨H.t, 0, none⟩)) ∧ W.cell? ⟨H.hb, 1, none⟩ = some (.map (some H.gm)) := by
  constructor <;> (rw [cell_of_row _ _ _ _ _ _ h.box]; rfl)
theorem HubG.look {W : World} {base : Nat} {H : Hb} (h : HubG W base H) {s : ByteArray} (hs : s.size ≤ 1048576) :
    (Instr.lookup 59 (.map (some H.gm)) (.string s) false).run Tryz.prog W = .ok (.pointer ((kid H.GD s).map fun b => ⟨b, 0, none⟩)) W := by
  obtain ⟨es, clock, hb, F, _, hD⟩ := h.gmap
  rw [hD]
  rcases Maps.fit_look (w := W) (z := .pointer none) false string_keys Tryz.underlying59 (by kernel_rfl) hb F (WideMaps.keyOf_string_mk Tryz.underlying9 (s := s) (by unfold maxLen; omega)) with ⟨hrun, _, hat⟩ | ⟨e0, y, _, _, hrun, hRv, hat, _⟩
  · rw [Go.Proofs.YtincmegllckcjaaGreatDoor.kid_none (hat noD)]
    exact hrun
  · obtain ⟨b, hv, rfl⟩ := ptrR_inv hRv
    rw [kid_some (hat noD)]
    rw [hv] at hrun
    exact hrun
theorem HubG.kid_none {W : World} {base : Nat} {H : Hb} (h : HubG W base H) {s : ByteArray} (hk : kid H.GD s = none) : ∀ x ∈ H.gs, x.key ≠ s := fun x hx e => by
  have := (h.gby s x.g.gb).2 ⟨x, hx, e, rfl⟩
  rw [hk] at this
  cases this
theorem hub_no {W : World} {base : Nat} {H : Hb} (h : HubG W base H) : Calls Tryz.prog 23 #[.pointer (some ⟨H.hb, 0, none⟩)] W fun e w' => e = .returned (.bool false) ∧ w' = W := by
  obtain ⟨PP, hPP⟩ : ∃ PP : Ending → World → Prop, (fun e w' => e = .returned (.bool false) ∧ w' = W) = PP := ⟨_, rfl⟩
  rw [hPP]
  have HPP := Lib.hid hPP
  obtain ⟨c0, -⟩ := h.cells
  have hl := h.hlt
  clear hPP h
  go_enter Tryz.func23, Tryz.ntmps23
  go_wp2_with fail
  rw [← HPP.out]
  exact ⟨rfl, rfl⟩
def JoinPost (w : World) (base : Nat) (H : Hb) (s : ByteArray) (id : Int) (e : Ending) (w' : World) : Prop := ∃ H', e = .returned (.bool (joinA (H.l, absG H) s id).1) ∧ HubTo w base H w' H' ∧ (H'.l, absG H') = (joinA (H.l, absG H) s id).2 ∧ H'.sz ≤ H.sz + s.size + 2 ∧ H'.gn ≤ H.gn + 1
theorem split_parts {s : ByteArray} {x : ByteArray × ByteArray} (h : splitK s = some x) : filterB x.2 = true ∧ x.2.size ≤ s.size := by
  by_cases hp : Lib.hasPrefix s.data.toList pfx = true
  · have e : splitK s = if cutK (restS s) < 0 then none else if gnameB ((restS s).extract 0 (cutK (restS s)).toNat).data.toList && filterB ((restS s).extract ((cutK (restS s)).toNat + 1) (restS s).size) then some ((restS s).extract 0 (cutK (restS s)).toNat, (restS s).extract ((cutK (restS s)).toNat + 1) (restS s).size) else none := by
      conv => lhs; unfold splitK
      rw [if_pos hp]
    rw [e] at h
    have hs : ((restS s).extract ((cutK (restS s)).toNat + 1) (restS s).size).size ≤ s.size := Nat.le_trans (ext_size _ _ _) (ext_size _ _ _)
    generalize (restS s).extract 0 (cutK (restS s)).toNat = n at h
    generalize (restS s).extract ((cutK (restS s)).toNat + 1) (restS s).size = f at h hs
    by_cases hk : cutK (restS s) < 0
    · rw [if_pos hk] at h; cases h
    · rw [if_neg hk] at h
      cases hg : filterB f with
      | false => rw [hg] at h; simp at h
      | true =>
        rw [hg] at h
        cases hn : gnameB n.data.toList with
        | false => rw [hn] at h; simp at h
        | true =>
          rw [hn] at h
          simp at h
          rw [← h]
          exact ⟨hg, hs⟩
  · have e : splitK s = if filterB s then some (ByteArray.empty, s) else none := by
      conv => lhs; unfold splitK
      rw [if_neg hp]
    rw [e] at h
    cases hg : filterB s with
    | false => rw [hg] at h; simp at h
    | true =>
      rw [hg] at h
      simp at h
      rw [← h]
      exact ⟨hg, Nat.le_refl _⟩
theorem split_size {s : ByteArray} {x : ByteArray × ByteArray} (h : splitK s = some x) : x.2.size ≤ s.size := (split_parts h).2
theorem split_fil {s : ByteArray} {x : ByteArray × ByteArray} (h : splitK s = some x) : filterB x.2 = true := (split_parts h).1
set_option maxRecDepth 100000 in
set_option maxHeartbeats 8000000 in
theorem hubJoin_any (w : World) (base : Nat) (H : Hb) (s : ByteArray) (id : Int) (h : HubG w base H) (hT : Tabs w) (hs : s.size ≤ 1048576) (hz : (Lit.int .i64 id).wf = true) (hsz : H.sz ≤ 50000000) (hl : H.l.length ≤ 100000000) (hgn : H.gn ≤ 100000000) :
    Calls Tryz.prog 10 #[.pointer (some ⟨H.hb, 0, none⟩), .string s, .int .i64 id] w (JoinPost w base H s id) := by
  obtain ⟨PP, hPP⟩ : ∃ PP : Ending → World → Prop, JoinPost w base H s id = PP := ⟨_, rfl⟩
  rw [hPP]
  have HPP := Lib.hid hPP
  have HH := Lib.hid h
  have HT := Lib.hid hT
  have CS : Hid (Calls Tryz.prog 17 #[.string s] w fun e w' => e = .returned (splitV s) ∧ Below w.heap.size w w') := split_any s w hs hT
  clear hPP h hT
  cases hk : splitK s with
  | none =>
    have HSV := Lib.hid (split_no hk)
    have HJ : Hid (joinA (H.l, absG H) s id = (false, H.l, absG H)) := by
      show joinA _ _ _ = _
      unfold joinA; rw [hk]
    clear hk
    go_enter Tryz.func10, Tryz.ntmps10
    go_wp2_with fail
    refine CS.out.mono ?_
    rintro e w1 ⟨rfl, hb1⟩
    rw [HSV.out]
    have HH1 := Lib.hid (HH.out.below hb1)
    have HB1 := Lib.hid hb1
    have CN := Lib.hid (hub_no HH1.out)
    clear hb1
    go_wp2_with fail
    refine CN.out.mono ?_
    rintro e w2 ⟨rfl, hw⟩
    subst w2
    obtain ⟨c0, c1⟩ := HH1.out.cells
    have hhl := HH1.out.hlt
    go_wp2_with fail
    rw [← HPP.out]
    exact ⟨H, by (rw [HJ.out]; try rfl), HH.out.same HB1.out, by rw [HJ.out], by omega, by omega⟩
  | some x =>
    obtain ⟨n, f⟩ := x
    have HSV := Lib.hid (split_yes hk)
    have hfs : f.size ≤ s.size := split_size hk
    have HFB : Hid (filterB f = true) := split_fil hk
    have HK := Lib.hid hk
    by_cases hn : n.size = 0
    · have hl1 : n.toList = [] := by rw [ByteArray.toList_eq]; exact List.eq_nil_of_length_eq_zero (by rw [show n.data.toList.length = n.size from Array.length_toList]; exact hn)
      have hl2 : n.toList.isEmpty = true := by rw [hl1]; rfl
      have HJ : Hid (∀ ok : Bool, (ok = true ↔ filterB f = true ∧ (f, id) ∉ H.l) → joinA (H.l, absG H) s id = (ok, addS H.l f id, absG H)) := fun ok hok => by
        unfold joinA
        rw [hk]
        simp only [hn, if_true]
        refine Prod.ext ?_ rfl
        exact dec_of hok
      clear hk hn
      go_enter Tryz.func10, Tryz.ntmps10
      go_wp2_with fail
      refine CS.out.mono ?_
      rintro e w1 ⟨rfl, hb1⟩
      rw [HSV.out]
      have HH1 := Lib.hid (HH.out.below hb1)
      have HB1 := Lib.hid hb1
      have CN := Lib.hid (hub_no HH1.out)
      clear hb1
      go_wp2_with fail
      refine CN.out.mono ?_
      rintro e w2 ⟨rfl, hw⟩
      subst w2
      obtain ⟨c0, c1⟩ := HH1.out.cells
      have hhl := HH1.out.hlt
      go_wp2_with fail
      refine (tof_add f id HH1.out.tri (by omega) (HT.out.below HB1.out) (by omega) (by omega)).mono ?_
      rintro e w3 ⟨ok, T', rfl, hok, ho, hfr, hft⟩
      have HJ2 := Lib.hid (HJ.out ok hok)
      have HTO : Hid (HubTo w1 base H w3 { H with sz := H.sz + f.size + 2, T := T', l := addS H.l f id }) := ⟨HH1.out.trie hfr ho hft, rfl, rfl, hfr.mono (fun b hb => by rcases hb with hb | hb; exact .inl hb; exact .inr (.inl hb)), fun b hb => by
        rcases hb with rfl | hb | hb | hb
        · exact .inl (.inl rfl)
        · rcases hft b hb with h1 | h1
          · exact .inl (.inr (.inl h1))
          · exact .inr h1
        · exact .inl (.inr (.inr (.inl hb)))
        · exact .inl (.inr (.inr (.inr hb)))⟩
      clear hok ho hfr hft
      go_wp2_with fail
      rw [← HPP.out]
      exact ⟨_, by (rw [HJ2.out]; try rfl), HTO.out.after HB1.out, by rw [HJ2.out]; rfl, by show H.sz + f.size + 2 ≤ _; omega, by show H.gn ≤ _; omega⟩
    · have hl1 : ¬ n.toList = [] := by rw [ByteArray.toList_eq]; intro e; apply hn; rw [← show n.data.toList.length = n.size from Array.length_toList, e]; rfl
      have hl2 : n.toList.isEmpty = false := by cases hh : n.toList with
        | nil => exact absurd hh hl1
        | cons a b => rfl
      have HNE : Hid (n ≠ ByteArray.empty) := fun e => hn (by rw [e]; rfl)
      cases hkd : kid H.GD s with
      | some gb =>
        obtain ⟨x, hx, hxk, hxg⟩ := (HH.out.gby s gb).1 hkd
        subst hxk; subst hxg
        have HX := Lib.hid hx
        have hfd : findA (absG H) x.key = some x.ag := find_some HH.out.keys hx
        have HJ : Hid (∀ (ok : Bool) (g' : Grp), (ok = true ↔ id ∉ x.g.ids ∧ x.g.ids.length < 256) → g'.fil = x.g.fil → g'.ids = (if ok = true then x.g.ids ++ [id] else x.g.ids) → g'.tn = x.g.tn → joinA (H.l, absG H) x.key id = (ok, H.l, setA (absG H) x.key (KG.ag ⟨x.key, g'⟩))) := fun ok g' hok h1 h2 h3 => by
          unfold joinA
          rw [hk]
          simp only [hn, if_false]
          rw [hfd]
          cases ok with
          | true =>
            have h4 := hok.1 rfl
            simp only
            rw [if_pos (show id ∉ x.ag.ids ∧ x.ag.ids.length < 256 from h4)]
            unfold KG.ag
            rw [if_pos rfl] at h2
            simp only [h1, h2, h3]
          | false =>
            simp only
            rw [if_neg (show ¬ (id ∉ x.ag.ids ∧ x.ag.ids.length < 256) from fun e => by cases hok.2 e)]
            rw [if_neg (by simp)] at h2
            congr 2
            refine (setA_same fun b hb he => ?_).symm
            unfold absG at hb
            obtain ⟨y, hy, rfl⟩ := List.mem_map.1 hb
            have := HH.out.one hy hx (bytes_inj he)
            subst this
            unfold KG.ag
            simp only [h1, h2, h3]
        have hlk := fun W (hb : Below w.heap.size w W) => (HH.out.below hb).look (s := x.key) hs
        rw [hkd] at hlk
        have HLK := Lib.hid hlk
        obtain ⟨hgi, hne, htn, -, -⟩ := HH.out.each x hx
        have HNE2 := Lib.hid hne
        have HTN2 := Lib.hid htn
        clear hk hn hkd hx hfd hlk hgi hne htn
        go_enter Tryz.func10, Tryz.ntmps10
        go_wp2_with fail
        refine CS.out.mono ?_
        rintro e w1 ⟨rfl, hb1⟩
        rw [HSV.out]
        have HH1 := Lib.hid (HH.out.below hb1)
        have HB1 := Lib.hid hb1
        have CN := Lib.hid (hub_no HH1.out)
        clear hb1
        go_wp2_with fail
        refine CN.out.mono ?_
        rintro e w2 ⟨rfl, hw⟩
        subst w2
        obtain ⟨c0, c1⟩ := HH1.out.cells
        have hhl := HH1.out.hlt
        have hlk1 := HLK.out w1 HB1.out
        simp only [Option.map_some] at hlk1
        go_wp2_with fail
        refine (join_any w1 base x.g id (HH1.out.each x HX.out).1 hz).mono ?_
        rintro e w3 ⟨ok, g', rfl, hok, hto, hids, htn⟩
        rw [if_neg (fun e => HNE2.out e.1)] at htn
        have HJ2 := Lib.hid (HJ.out ok g' hok hto.fil hids htn)
        have hne3 : g'.ids ≠ [] := by rw [hids]; cases ok <;> simp [HNE2.out]
        have htn3 : g'.tn < g'.ids.length := by
          rw [htn, hids]
          have := HTN2.out
          cases ok
          · simpa using this
          · simp; omega
        have HTO : Hid (HubTo w1 base H w3 { H with gs := setG H.gs x.key g' }) := ⟨HH1.out.group HX.out hto hne3 htn3, rfl, rfl, hto.fr.mono (fun b hb => .inr (.inr (.inr ⟨x, HX.out, hb⟩))), fun b hb => by
          rcases hb with hb | hb | hb | ⟨y, hy, hb⟩
          · exact .inl (.inl hb)
          · exact .inl (.inr (.inl hb))
          · exact .inl (.inr (.inr (.inl hb)))
          · rcases mem_setG hy with ⟨rfl, -⟩ | ⟨hy, -⟩
            · rcases hto.own b hb with h1 | h1
              · exact .inl (.inr (.inr (.inr ⟨x, HX.out, h1⟩)))
              · exact .inr h1
            · exact .inl (.inr (.inr (.inr ⟨y, hy, hb⟩)))⟩
        clear hok hto hids htn hne3 htn3 hlk1
        go_wp2_with fail
        rw [← HPP.out]
        exact ⟨_, by (rw [HJ2.out]; try rfl), HTO.out.after HB1.out, by rw [HJ2.out]; show (H.l, (setG H.gs x.key g').map KG.ag) = _; rw [abs_setG]; rfl, by show H.sz ≤ _; omega, by show H.gn ≤ _; omega⟩
      | none =>
        have hno := HH.out.kid_none hkd
        have HNO := Lib.hid hno
        have hfd : findA (absG H) s = none := find_none hno
        have HJ : Hid (joinA (H.l, absG H) s id = (true, H.l, absG H ++ [⟨s, f, [id], 0⟩])) := by
          show joinA _ _ _ = _
          unfold joinA
          rw [hk]
          simp only [hn, if_false]
          rw [hfd]
        have hlk := fun W (hb : Below w.heap.size w W) => (HH.out.below hb).look (s := s) hs
        rw [hkd] at hlk
        have HLK := Lib.hid hlk
        clear hk hn hkd hno hfd hlk
        go_enter Tryz.func10, Tryz.ntmps10
        go_wp2_with fail
        refine CS.out.mono ?_
        rintro e w1 ⟨rfl, hb1⟩
        rw [HSV.out]
        have HH1 := Lib.hid (HH.out.below hb1)
        have HB1 := Lib.hid hb1
        have CN := Lib.hid (hub_no HH1.out)
        clear hb1
        go_wp2_with fail
        refine CN.out.mono ?_
        rintro e w2 ⟨rfl, hw⟩
        subst w2
        obtain ⟨c0, c1⟩ := HH1.out.cells
        have hhl := HH1.out.hlt
        have hlk1 := HLK.out w1 HB1.out
        simp only [Option.map_none] at hlk1
        go_wp2_with fail
        refine (newGroup_any w1 f).mono ?_
        rintro e w3 ⟨g, rfl, hg0, hgf, hgi, hb3⟩
        unfold ptr
        have HG3 := Lib.hid hgi
        have HB3 := Lib.hid hb3
        have HH3 := Lib.hid (HH1.out.below hb3)
        obtain ⟨d0, d1⟩ := HH3.out.cells
        have hhl3 := HH3.out.hlt
        obtain ⟨w4, hst, hown, hturn⟩ := HH3.out.gmap.store (t := 59) (e := 65) string_keys Tryz.underlying59 (by unfold maxLen; omega) (WideMaps.keyOf_string_mk Tryz.underlying9 (s := s) (by unfold maxLen; omega)) (ptrR_some g.gb)
        have hst : (Instr.mapUpdate 59 (.map (some H.gm)) (.string s) (.pointer (some ⟨g.gb, 0, none⟩))).run Tryz.prog w3 = .ok () w4 := hst
        have HGR := Lib.hid hturn.grown
        have HOW := Lib.hid hown
        have hgml := HH1.out.gmap.lt
        have HG4 := Lib.hid (HG3.out.kept (W' := w4) fun b hb => HGR.out.block b (HG3.out.lt hb) (fun e => by injection e with e; have := HG3.out.lo b hb; omega))
        have HID0 := Lib.hid hg0
        have HGF := Lib.hid hgf
        clear hgi hb3 hown hturn hg0 hgf c0 c1 hlk1
        go_wp2_with fail
        refine (join_any w4 w1.heap.size g id HG4.out hz).mono ?_
        rintro e w5 ⟨ok, g', rfl, hok, hto, hids, htn⟩
        have hok1 : ok = true := hok.2 (by rw [HID0.out]; simp)
        subst hok1
        rw [if_pos rfl, HID0.out] at hids
        rw [if_pos (show g.ids = [] ∧ true = true from ⟨HID0.out, rfl⟩)] at htn
        have hids : g'.ids = [id] := hids
        have hfr5 : Frame (fun b => b = H.gm) w1 w5 := ⟨hto.fr.os.trans (HGR.out.os.trans HB3.out.os), hto.fr.tape.trans (HGR.out.tape.trans HB3.out.tape), hto.fr.output.trans (HGR.out.output.trans HB3.out.output), by have := hto.fr.size; have := HGR.out.size; have := HB3.out.size; omega, fun b h1 h2 => by
          have h3 : b < w3.heap.size := Nat.lt_of_lt_of_le h1 HB3.out.size
          have h4 : b < w4.heap.size := Nat.lt_of_lt_of_le h3 HGR.out.size
          rw [hto.fr.block b h4 (fun e => by have := HG4.out.lo b e; omega), HGR.out.block b h3 (fun e => h2 (by injection e)), HB3.out.block b h1]⟩
        have hgm5 : w5.ownsMap Tryz.prog 9 ptrR H.gm (H.gn + 1) (H.GD.put (.string s.data.toList) (kidD g'.gb)) := by
          rw [hto.gb]
          exact map_kept HOW.out (hto.fr.block H.gm HOW.out.lt (fun e => by have := HG4.out.lo _ e; omega))
        have hnew5 : ∀ b ∈ g'.blocks, w1.heap.size ≤ b := fun b hb => by
          rcases hto.own b hb with h1 | h1
          · exact HG4.out.lo b h1
          · have := HGR.out.size; have := HB3.out.size; omega
        have hgi5 : GrpIs w5 base g' := by
          have h1 := hto.is
          exact ⟨h1.box, h1.mem, h1.link, h1.len, h1.idn, h1.bn, h1.map, h1.sz, h1.by_, h1.wf, h1.few, fun b hb => by have := hnew5 b hb; have := HH1.out.lo.2; omega⟩
        have HTO : Hid (HubTo w1 base H w5 { H with gs := H.gs ++ [⟨s, g'⟩], gn := H.gn + 1, GD := H.GD.put (.string s.data.toList) (kidD g'.gb) }) := ⟨HH1.out.addG HNO.out hs (by rw [HK.out]; show some (n, f) = some (n, g'.fil); rw [hto.fil, HGF.out]) HNE.out hgi5 (by rw [hids]; simp) (by rw [htn, hids]; simp) hnew5 hfr5 hgm5, rfl, rfl, hfr5.mono (fun b hb => .inr (.inr (.inl hb))), fun b hb => by
          rcases hb with hb | hb | hb | ⟨y, hy, hb⟩
          · exact .inl (.inl hb)
          · exact .inl (.inr (.inl hb))
          · exact .inl (.inr (.inr (.inl hb)))
          · have hy : y ∈ H.gs ++ [⟨s, g'⟩] := hy
            rcases List.mem_append.1 hy with hy | hy
            · exact .inl (.inr (.inr (.inr ⟨y, hy, hb⟩)))
            · rw [List.mem_singleton] at hy
              subst hy
              exact .inr (hnew5 b hb)⟩
        have HA : Hid ((H.gs ++ [(⟨s, g'⟩ : KG)]).map KG.ag = absG H ++ [(⟨s, f, [id], 0⟩ : AG)]) := by
          show _ = _
          rw [List.map_append]
          show absG H ++ [KG.ag ⟨s, g'⟩] = _
          unfold KG.ag
          simp only [hids, htn, hto.fil, HGF.out]
        clear hok hto hids htn hfr5 hgm5 hnew5 hgi5
        go_wp2_with fail
        rw [← HPP.out]
        exact ⟨_, by (rw [HJ.out]; try rfl), HTO.out.after HB1.out, by rw [HJ.out]; show (H.l, (H.gs ++ [(⟨s, g'⟩ : KG)]).map KG.ag) = _; rw [HA.out], by show H.sz ≤ _; omega, by show H.gn + 1 ≤ _; omega⟩
end Go.Proofs.YtincmegllckcjaaGreatDoor
