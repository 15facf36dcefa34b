/- TRIE: answers that are kept. THE LAW TrieCovered. -/
import Derived.Test.YtflomcbclofbaaaDoorTrieTB
import Derived.Deep.RegionHeld3
import Derived.Test.YtflomcbclofbaaaDoorTrieCov
namespace Go.Proofs.YtflomcbclofbaaaDoor
open Go Go.RowKit
attribute [local go_sem ↓] Go.wp_at_zero Go.wp_at_succ

/-- lists of numbers that were told, in rows of the law's own -/
def WasR (W : World) (B : Nat) (v : Value) (was : List (List Int)) : Prop :=
  ∃ vs : List Value, W.ownsRow B 30 1 v was.length vs ∧ (∀ u ∈ vs, u.oneCell' = true) ∧ ∀ (j : Nat) s, was[j]? = some s → ∃ u, vs[j]? = some u ∧ IRow W B u s
theorem WasR.nil (W : World) (B : Nat) : WasR W B (.slice none 0 0) [] := ⟨[], World.ownsRow_nil _ _ _ _, fun _ h => (List.not_mem_nil h).elim, fun j s h => by cases h⟩
theorem WasR.kept {W W' : World} {B : Nat} {v : Value} {was : List (List Int)} (h : WasR W B v was) (hk : ∀ b, B ≤ b → b < W.heap.size → W'.heap[b]? = W.heap[b]?) : WasR W' B v was := by
  obtain ⟨vs, h1, h0, h2⟩ := h
  refine ⟨vs, row_of_heap h1 fun b hb => hk b (h1.lt b hb).1 (h1.lt b hb).2, h0, fun j s hj => ?_⟩
  obtain ⟨u, h3, h4⟩ := h2 j s hj
  exact ⟨u, h3, row_of_heap (show W.ownsRow B 3 1 u s.length (ints s) from h4) fun b hb => hk b (World.ownsRow.lt h4 b hb).1 (World.ownsRow.lt h4 b hb).2⟩
theorem WasR.below {W W' : World} {B : Nat} {v : Value} {was : List (List Int)} (h : WasR W B v was) (hb : Below W.heap.size W W') : WasR W' B v was := h.kept fun b _ hl => hb.block b hl
theorem WasR.add {W W' : World} {B : Nat} {v v' u : Value} {was : List (List Int)} {s : List Int} (vs : List Value) (h1 : W.ownsRow B 30 1 v was.length vs) (h0 : ∀ u ∈ vs, u.oneCell' = true)
    (h2 : ∀ (j : Nat) s, was[j]? = some s → ∃ u, vs[j]? = some u ∧ IRow W B u s) (hu : IRow W B u s) (ho : u.oneCell' = true)
    (hg : W.grownBy W' v.ownBlock) (h' : W'.ownsRow B 30 1 v' (was.length + 1) (vs ++ [u])) : WasR W' B v' (was ++ [s]) := by
  have hvl : vs.length = was.length := by rw [h1.1, Nat.mul_one]
  have hk : ∀ {u : Value} {s : List Int}, IRow W B u s → IRow W' B u s := fun {u s} h => row_of_heap (show W.ownsRow B 3 1 u s.length (ints s) from h) fun b hb => by
    refine hg.block b (World.ownsRow.lt h b hb).2 (fun e => ?_)
    obtain ⟨c1, e1⟩ := own_type h hb
    obtain ⟨c2, e2⟩ := own_type h1 e.symm
    rw [e1] at e2
    injection e2 with e2
    injection e2 with _ e2 _
    revert e2
    decide
  refine ⟨vs ++ [u], by rw [List.length_append]; exact h', fun x hx => ?_, fun j s2 hj => ?_⟩
  · rcases List.mem_append.1 hx with hx | hx
    · exact h0 x hx
    · rw [List.mem_singleton] at hx; subst hx; exact ho
  · by_cases hjl : j < was.length
    · rw [List.getElem?_append_left hjl] at hj
      obtain ⟨u2, h3, h4⟩ := h2 j s2 hj
      exact ⟨u2, by rw [List.getElem?_append_left (by omega)]; exact h3, hk h4⟩
    · have hjs := (List.getElem?_eq_some_iff.1 hj).1
      rw [List.length_append, List.length_singleton] at hjs
      have : j = was.length := by omega
      subst this
      rw [List.getElem?_append_right (Nat.le_refl _), Nat.sub_self] at hj
      injection hj with hj
      subst hj
      exact ⟨u, by rw [List.getElem?_append_right (by omega), hvl, Nat.sub_self]; rfl, hk hu⟩
theorem info_intss : (Tryd.prog.info? 30).map (fun i => (i.zero, i.size, i.bytes)) = some (some (.slice none 0 0), 1, 24) := by kernel_rfl
/-- the answers of a list of subscriptions -/
def Told (l : Subs) (ns : List ByteArray) (was : List (List Int)) : Prop := ∀ (j : Nat) n ids, ns[j]? = some n → was[j]? = some ids → ids.Pairwise (fun a b : Int => a < b) ∧ ∀ z, z ∈ ids ↔ ∃ f, (f, z) ∈ l ∧ matchB f n = true
theorem Told.snoc {l : Subs} {ns : List ByteArray} {was : List (List Int)} {n : ByteArray} {ids : List Int} (h : Told l ns was) (hn : ns[was.length]? = some n) (h1 : ids.Pairwise (fun a b : Int => a < b)) (h2 : ∀ z, z ∈ ids ↔ ∃ f, (f, z) ∈ l ∧ matchB f n = true) : Told l ns (was ++ [ids]) := by
  intro j n' ids' hj hw
  by_cases hjl : j < was.length
  · rw [List.getElem?_append_left hjl] at hw
    exact h j n' ids' hj hw
  · have hjs := (List.getElem?_eq_some_iff.1 hw).1
    rw [List.length_append, List.length_singleton] at hjs
    have : j = was.length := by omega
    subst this
    rw [List.getElem?_append_right (Nat.le_refl _), Nat.sub_self] at hw
    injection hw with hw
    rw [hn] at hj
    injection hj with hj
    subst hw; subst hj
    exact ⟨h1, h2⟩
theorem WasR.at_ {W : World} {B n c : Nat} {q : Option Addr} {was : List (List Int)} (h : WasR W B (.slice q n c) was) {j : Nat} {s : List Int} (hj : was[j]? = some s) : ∃ g u, q = some ⟨g, 0, none⟩ ∧ W.cell? ⟨g, j, none⟩ = some u ∧ IRow W B u s := by
  obtain ⟨vs, h1, -, h2⟩ := h
  obtain ⟨u, h3, h4⟩ := h2 j s hj
  have hjl := (List.getElem?_eq_some_iff.1 hj).1
  rcases h1.2 with ⟨-, h5⟩ | ⟨g, cap, cur, h5, -⟩
  · omega
  · injection h5 with h5 h6 h7
    subst h5; subst h6; subst h7
    have := h1.cellAt j (by omega)
    rw [h3] at this
    exact ⟨g, u, rfl, this, h4⟩

/-- the trie, and what it told -/
structure Cov (w W : World) (B sz t : Nat) (T : List Nd) (l : Subs) (vw : Value) (was : List (List Int)) : Prop where
  st : St w W sz t T l
  was : WasR W B vw was
theorem Cov.below {w W W' : World} {B sz t : Nat} {T : List Nd} {vw : Value} {l : Subs} {was : List (List Int)} (h : Cov w W B sz t T l vw was) (hb : Below W.heap.size W W') : Cov w W' B sz t T l vw was := ⟨h.st.below hb, h.was.below hb⟩
theorem addS_mem {l : Subs} {f : ByteArray} {z : Int} {x : ByteArray × Int} : x ∈ addS l f z ↔ x ∈ l ∨ (filterB f = true ∧ x = (f, z)) := by
  unfold addS
  split
  · rename_i h
    rw [List.mem_append, List.mem_singleton]
    exact ⟨fun k => k.elim .inl (fun k => .inr ⟨h.1, k⟩), fun k => k.elim .inl (fun k => .inr k.2)⟩
  · rename_i h
    refine ⟨.inl, fun k => k.elim id (fun k => ?_)⟩
    rw [k.2]
    exact Classical.byContradiction fun e => h ⟨k.1, e⟩
/-- a number under a filter that is covered changes nothing -/
theorem cov_same {l : Subs} {f g n : ByteArray} {z : Int} (h : covB f g = true) (y : Int) : (∃ e, (e, y) ∈ addS (addS l f z) g z ∧ matchB e n = true) ↔ ∃ e, (e, y) ∈ addS l f z ∧ matchB e n = true := by
  have hf : filterB f = true := by unfold covB at h; simp only [Bool.and_eq_true] at h; exact h.1
  constructor
  · rintro ⟨e, h1, h2⟩
    rcases addS_mem.1 h1 with h1 | ⟨hg, h1⟩
    · exact ⟨e, h1, h2⟩
    · injection h1 with h3 h4
      subst h3; subst h4
      exact ⟨f, addS_mem.2 (.inr ⟨hf, rfl⟩), holds_match hf h h2⟩
  · rintro ⟨e, h1, h2⟩; exact ⟨e, addS_mem.2 (.inl h1), h2⟩
theorem Known.add {l : Subs} (h : Known l) {f : ByteArray} {z : Int} (hz : (Lit.int .i64 z).wf = true) : ∀ x ∈ addS l f z, (Lit.int .i64 x.2).wf = true := fun x hx => by
  rcases addS_sub hx with hx | rfl
  · exact h.wf x hx
  · exact hz
set_option maxRecDepth 100000 in
set_option maxHeartbeats 8000000 in
theorem trieCovered_any (w : World) (hT : Tabs w) (v vn : Value) (L : Acts) (f g : ByteArray) (z : Int) (ns : List ByteArray) (h : Script w v L) (hf : f.size ≤ 1048576) (hg : g.size ≤ 1048576) (hz : (Lit.int .i64 z).wf = true) (hn : Names w vn ns) :
    Calls Tryd.prog 3 #[v, .string f, .string g, .int .i64 z, vn] w fun e w' => e = .returned (.bool true) ∧ Below w.heap.size w w' := by
  obtain ⟨PP, hPP⟩ : ∃ PP : Ending → World → Prop, (fun e w' => e = .returned (.bool true) ∧ Below w.heap.size w w') = PP := ⟨_, rfl⟩
  rw [hPP]
  have HPP := Lib.hid hPP
  have HT := Lib.hid hT
  have HSC := Lib.hid h
  have HNM := Lib.hid hn
  have HZ := Lib.hid hz
  have hnl := hn.len
  have HBU := Lib.hid (h.built hT)
  obtain ⟨qn, cn, rfl⟩ : ∃ q c, vn = .slice q ns.length c := (Sl_fl hn.sl).form
  obtain ⟨i0, hi, hz0, hz1, hz2⟩ := info_parts info_intss
  clear hPP h hn hT hz
  go_enter Tryd.func3, Tryd.ntmps3
  go_wp2_with (go_at_call 5; refine HBU.out.mono ?_; rintro e w1 ⟨t, T1, rb, vr, sz, rfl, hsz, htw⟩; have hkn := HSC.out.known htw)
  have hwf := Known.add hkn (f := f) HZ.out
  have hszl := Nat.le_trans hsz HSC.out.sz
  obtain ⟨l0, hl⟩ : ∃ l, runA L = l := ⟨_, rfl⟩
  rw [hl] at htw hkn hwf
  have HTW := Lib.hid htw.st
  have hll := hkn.len
  have HWF := Lib.hid hwf
  clear htw hkn hl hsz hwf
  go_wp2_with fail
  refine (st_add HTW.out HT.out f z hf (by omega) (by omega)).mono ?_
  rintro e w2 ⟨ok, T, rfl, -, hs2⟩
  have hal := (addS_le l0 f z).1
  have HCS : Hid (∀ n, covB f g = true → ∀ y, (∃ e, (e, y) ∈ addS (addS l0 f z) g z ∧ matchB e n = true) ↔ ∃ e, (e, y) ∈ addS l0 f z ∧ matchB e n = true) := fun n h y => cov_same h y
  obtain ⟨l, hl⟩ : ∃ l, addS l0 f z = l := ⟨_, rfl⟩
  rw [hl] at hs2 hal HWF HCS
  have HTW2 := Lib.hid hs2
  clear hs2 hl
  go_wp2_with fail
  go_loopw [13, 14] (fun s12 s13 wr => ∃ (i : Nat) (q7 : Option Addr) (c7 : Nat) (was : List (List Int)), s12 = .slice q7 i c7 ∧ s13 = .int .i64 (i : Nat) ∧ i ≤ ns.length ∧ Hid (was.length = i) ∧ Hid (WasR wr w2.heap.size (.slice q7 i c7) was) ∧ Hid (Told l ns was) ∧ Hid (Below w2.heap.size w2 wr)) (fun _ s13 _ => ns.length - (intOf s13).toNat)
  case atStart => exact ⟨0, none, 0, [], rfl, rfl, Nat.zero_le _, rfl, WasR.nil _ _, fun j n ids _ h => (by cases h), Below.refl _ _⟩
  case round =>
    obtain ⟨i, q7, c7, was, rfl, rfl, hin, hL, hS, hW, hB⟩ := hrel
    by_cases hlt : i < ns.length
    · obtain ⟨n, hnm⟩ : ∃ n, ns[i]? = some n := ⟨_, List.getElem?_eq_getElem hlt⟩
      have hns := HNM.out.each n (List.mem_of_getElem? hnm)
      obtain ⟨b, o, rfl, hc0⟩ := Sl_cell HNM.out.sl hnm
      have hbw : Below w.heap.size w wr := (HTW2.out.below hB.out).bel
      have hce := (hbw.cell (World.block_lt_of_cell? w _ hc0)).trans hc0
      have hbl : b < wr.heap.size := World.block_lt_of_cell? wr _ hce
      have hltI : (i : Int) < (ns.length : Int) := by omega
      have hi0 : (0 : Int) ≤ (i : Int) := by omega
      have HNI : Hid (ns[was.length]? = some n) := by rw [hL.out]; exact hnm
      clear hnm hc0 hbw
      go_wp2_with fail
      refine (st_match (HTW2.out.below hB.out) HT.out n hns (by omega) HWF.out (by omega)).mono ?_
      rintro e w3 ⟨v3, ids, rfl, hr3, hp3, hm3, hb3⟩
      obtain ⟨q3, c3, rfl⟩ := hr3.slice
      have hbs := hB.out.size
      have HR3 : Hid (IRow w3 w2.heap.size (.slice q3 ids.length c3) ids) := ownsRow_mono hr3 hbs
      have HTD := Lib.hid (hW.out.snoc HNI.out hp3 hm3)
      have HB3 := Lib.hid (hB.out.trans (hb3.mono hbs))
      obtain ⟨vs, hv1, hv0, hv2⟩ := hS.out.below hb3
      have HV1 := Lib.hid (show w3.ownsRow w2.heap.size 30 1 (.slice q7 i c7) i vs by have := hv1; rw [hL.out] at this; exact this)
      have HV0 := Lib.hid hv0
      have HV2 := Lib.hid hv2
      have hbz := HB3.out.size
      clear hr3 hp3 hm3 hb3 hv1 hv0 hv2
      go_wp2_with (at_builtin; refine wpList_append_own _ rfl _ _ 29 rfl w2.heap.size 30 i0 (.slice none 0 0) 1 24 Tryd.underlying29 hi hz0 hz1 hz2 rfl (by decide) _ _ _ rfl (HV1.out.alloc _) ⟨w3.heap.size, 0, none⟩ 1 1 [.slice q3 ids.length c3] rfl rfl (cell_one_new _ _ _) (fun x hx => by simp at hx; subst hx; rfl) (by unfold maxLen; omega) (by omega) (by simp; omega) ?_; intro v5 w5 hown5 hg5 hnil5; have HO5 := Lib.hid hown5; have HG5 := Lib.hid hg5; obtain ⟨q5, c5, rfl⟩ := (Fl.of_own hown5).form; have HB5 := Lib.hid ((HB3.out.alloc hbz _).grown hg5 (by simp; omega) (fun k hk => (HV1.out.lt k hk).1)); clear hown5 hg5 hnil5)
      go_roundw
      case rel =>
        refine ⟨i + 1, q5, c5, was ++ [ids], by go_num, by go_num, by omega, ?_, ?_, HTD.out, HB5.out⟩
        · show (was ++ [ids]).length = i + 1
          rw [List.length_append, hL.out]; rfl
        · refine WasR.add vs (v := .slice q7 i c7) (u := .slice q3 ids.length c3) (W := w3.alloc (.cells #[.slice q3 ids.length c3] 30)) ?_ HV0.out (fun j s hj => ?_) ?_ rfl HG5.out (by rw [hL.out]; exact HO5.out)
          · rw [hL.out]; exact HV1.out.alloc _
          · obtain ⟨u, h3, h4⟩ := HV2.out j s hj
            exact ⟨u, h3, World.ownsRow.alloc h4 _⟩
          · exact World.ownsRow.alloc HR3.out _
      case measure => simp [intOf]; omega
    · have hltI : ¬ ((i : Int) < (ns.length : Int)) := by omega
      have hie : i = ns.length := by omega
      subst hie
      have HTW3 := Lib.hid (HTW2.out.below hB.out)
      have HLT : Hid (∀ b, foot T b → b < w2.heap.size) := fun b hb => (HTW2.out.of_.tri.is.lt hb).2
      have htlt := HTW2.out.of_.tri.lt
      have HTLT := Lib.hid htlt
      clear htlt
      go_wp2_with fail
      refine (tof_add g z HTW3.out.of_ hg (HTW3.out.tabs HT.out) (by omega) (by omega)).mono ?_
      rintro e w4 ⟨ok, T4, rfl, -, hof4, hfr4, -⟩
      have HST4 := Lib.hid (HTW3.out.frame hfr4 hof4)
      have HWAS4 := Lib.hid (hS.out.kept (W' := w4) fun b h1 h2 => hfr4.block b h2 (fun e => by
        rcases e with rfl | e
        · have := HTLT.out; omega
        · have := HLT.out b e; omega))
      have HWG : Hid (∀ x ∈ addS l g z, (Lit.int .i64 x.2).wf = true) := fun x hx => by
        rcases addS_sub hx with hx | rfl
        · exact HWF.out x hx
        · exact HZ.out
      have hgl2 := (addS_le l g z).1
      clear hof4 hfr4
      have CV := refCovers_any valid_said f g w4 hf hg (HST4.out.tabs HT.out)
      cases hcv : covB f g with
      | false =>
        rw [hcv] at CV
        have CV' := Lib.hid CV
        clear CV hcv
        go_wp2_with (go_at_call 8; refine CV'.out.mono ?_; rintro e w5 ⟨rfl, hb5⟩; have HS5 := Lib.hid (HST4.out.below hb5); clear hb5)
        refine (awake_any _ (HS5.out.tabs HT.out)).mono ?_
        rintro e w8 ⟨rfl, hb8⟩
        have HS8 := Lib.hid (HS5.out.below hb8)
        clear hb8
        go_wp2_with fail
        rw [← HPP.out]
        exact ⟨rfl, HS8.out.bel⟩
      | true =>
        rw [hcv] at CV
        have HCB := Lib.hid hcv
        have CV' := Lib.hid CV
        clear CV hcv
        go_wp2_with (go_at_call 8; refine CV'.out.mono ?_; rintro e w5 ⟨rfl, hb5⟩; have HBK := Lib.hid (show Cov w w5 w2.heap.size (sz + f.size + 2 + g.size + 2) t T4 (addS l g z) (.slice q7 ns.length c7) was from ⟨HST4.out.below hb5, HWAS4.out.below hb5⟩); clear hb5)
        go_loopw [15] (fun s14 wr => ∃ (i : Nat), s14 = .int .i64 (i : Nat) ∧ i ≤ ns.length ∧ Hid (Cov w wr w2.heap.size (sz + f.size + 2 + g.size + 2) t T4 (addS l g z) (.slice q7 ns.length c7) was)) (fun s14 _ => ns.length - (intOf s14).toNat)
        case atStart => exact ⟨0, rfl, Nat.zero_le _, HBK.out⟩
        case round =>
          obtain ⟨i, rfl, hi5, HO⟩ := hrel
          by_cases hlt5 : i < ns.length
          · obtain ⟨n, hn⟩ : ∃ n, ns[i]? = some n := ⟨_, List.getElem?_eq_getElem hlt5⟩
            obtain ⟨ids, hids⟩ : ∃ ids, was[i]? = some ids := ⟨_, List.getElem?_eq_getElem (by have := hL.out; omega)⟩
            have hns := HNM.out.each n (List.mem_of_getElem? hn)
            obtain ⟨b, o, rfl, hc0⟩ := Sl_cell HNM.out.sl hn
            have hce := (HO.out.st.bel.cell (World.block_lt_of_cell? w _ hc0)).trans hc0
            have hbl : b < wr.heap.size := World.block_lt_of_cell? wr _ hce
            obtain ⟨gb, u, rfl, hgu, hu⟩ := HO.out.was.at_ hids
            have hgl : gb < wr.heap.size := World.block_lt_of_cell? wr _ hgu
            have hu1 := hu.is
            obtain ⟨qu, cu, rfl⟩ : ∃ q c, u = .slice q ids.length c := (IS_fl hu1).form
            have HIU := Lib.hid hu1
            have htd := hW.out i n ids hn hids
            have HT1 := Lib.hid htd.1
            have HT2 := Lib.hid htd.2
            have hltI5 : (i : Int) < (ns.length : Int) := by omega
            have hi0 : (0 : Int) ≤ (i : Int) := by omega
            have HK : Hid (∀ W', Below wr.heap.size wr W' → (W'.cell? ⟨b, o + i, none⟩ = some (.string n) ∧ W'.cell? ⟨gb, i, none⟩ = some (.slice qu ids.length cu)) ∧ Below wr.heap.size wr W') := fun W' hb => ⟨⟨(hb.cell (p := ⟨b, o + i, none⟩) hbl).trans hce, (hb.cell (p := ⟨gb, i, none⟩) hgl).trans hgu⟩, hb⟩
            have CT : Hid (∀ W', Below wr.heap.size wr W' → Calls Tryd.prog 7 #[.pointer (some ⟨t, 0, none⟩), .string n] W' fun e w' => ∃ v ids, e = .returned v ∧ IS w' v ids ∧ ids.Pairwise (· < ·) ∧ (∀ y, y ∈ ids ↔ ∃ e, (e, y) ∈ addS l g z ∧ matchB e n = true) ∧ Below W'.heap.size W' w') := fun W' hb => by
              refine (st_match (HO.out.below hb).st HT.out n hns (by omega) HWG.out (by omega)).mono ?_
              rintro e w' ⟨v, ids, rfl, h1, h2⟩
              exact ⟨v, ids, rfl, h1.is, h2⟩
            clear hn hc0 hids hu hu1 htd
            go_wp2_with fail
            go_region_held3 (fun W' => (W'.cell? ⟨b, o + i, none⟩ = some (.string n) ∧ W'.cell? ⟨gb, i, none⟩ = some (.slice qu ids.length cu)) ∧ Below wr.heap.size wr W') (first | exact HK.out _ (Below.refl _ _) | exact HK.out _ (Below.refl _ _).drew | with_reducible assumption | exact HK.out _ (by with_reducible assumption) | exact HK.out _ (Below.drew (by with_reducible assumption))) (first
              | (go_at_call 7; ((with_reducible refine (CT.out _ (Below.refl _ _).drew).mono ?_); rintro e w5 ⟨v5, ids5, rfl, hs5, hr5, hm5, hb5'⟩; have hb5 : Below wr.heap.size wr w5 := (Below.refl _ _).drew.trans hb5'; clear hb5'; have heq : ids5 = ids := sorted_ext ord_int hr5 HT1.out (fun y => ((hm5 y).trans (HCS.out n HCB.out y)).trans (HT2.out y).symm); have HS5 := Lib.hid hs5; have HIU5 := Lib.hid (HIU.out.below hb5); have HEQ := Lib.hid heq; obtain ⟨q5, c5, rfl⟩ := (IS_fl hs5).form; clear hs5 hr5 hm5 heq))
              | (go_at_call 10; refine (same_any _ _ _ _ _ HS5.out HIU5.out).mono ?_; rintro e w7 ⟨he7, hb7⟩; have he7' : e = .returned (.bool true) := (by rw [he7, HEQ.out]; simp); subst he7'; have hw7 := hb5.trans (hb7.mono hb5.size); clear he7 hb7))
            have HO7 := Lib.hid (HO.out.below hw7)
            clear hb5 hw7
            go_simp
            go_wp2_with fail
            go_roundw
            case rel => exact ⟨i + 1, by go_num, by omega, HO7.out⟩
            case measure => simp [intOf]; omega
          · have hltI5 : ¬ ((i : Int) < (ns.length : Int)) := by omega
            go_wp2_with fail
            refine (awake_any wr (HO.out.st.tabs HT.out)).mono ?_
            rintro e w8 ⟨rfl, hb8⟩
            have HO8 := Lib.hid (HO.out.below hb8)
            clear hb8
            go_wp2_with fail
            rw [← HPP.out]
            exact ⟨rfl, HO8.out.st.bel⟩
end Go.Proofs.YtflomcbclofbaaaDoor
