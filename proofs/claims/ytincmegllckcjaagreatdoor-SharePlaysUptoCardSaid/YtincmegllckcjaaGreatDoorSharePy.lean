/- SHARE: act: what is kept; a name split; other kinds. THE LAW SharePlays: any calls, one after another, answer as the reference's. -/
import Derived.Test.YtincmegllckcjaaGreatDoorShareCo
import Derived.Test.YtincmegllckcjaaGreatDoorSharePr
import Derived.Test.YtincmegllckcjaaGreatDoorShareNb
import Derived.Lib.QuietBelow
namespace Go.Proofs.YtincmegllckcjaaGreatDoor
section
open Go Go.RowKit
attribute [local go_sem ↓] Go.wp_at_zero Go.wp_at_succ

section
variable {w0 u0 W1 W W0 W' WB : World} {A A' : Nat → Prop} {hb sz gn kn rb : Nat} {st st2 : HSt} {L L2 : List AM} {vP vQ : Value} {oP oQ : List Int}
theorem pair_keep (h : Pair w0 u0 W1 A W hb st L sz gn kn rb st2 L2 vP oP vQ oQ) (m : Mg) (aq : Option Addr) (an ac : Nat) (hd : DvIs W m.f [.int .i64 m.kd, .int .i64 m.di, .int .u64 m.db, .string m.ds, .slice aq an ac] m.t) (hsm : DvSm m.f m.t) (htp : m.tp.size ≤ 1048576) (hkn : kn ≤ 100000000) :
    Calls Tryz.prog 14 #[.pointer (some ⟨hb, 0, none⟩), .agg #[.int .i64 m.id, .string m.tp, .int .i64 m.kd, .int .i64 m.di, .int .u64 m.db, .string m.ds, .slice aq an ac, .int .i64 m.at_, .int .i64 m.un, .string m.rp, .int .i64 m.co, .int .i64 m.pr, .int .i64 m.ho]] W fun e w' => e = .returned (.bool (keepA L m.am).1) ∧ Pair w0 u0 W1 A w' hb st (keepA L m.am).2 sz gn (kn + 1) rb st2 L2 nilV [] vQ oQ := by
  obtain ⟨P, Q, h1, h2, h3, h4, h5, h6⟩ := h.ex
  refine (hs_keep h1 h.bw { m with q := aq, n := an, c := ac } hd hsm htp hkn).mono ?_
  rintro e w' ⟨rfl, hd⟩
  exact ⟨rfl, h.hub h1.owns h2 h3 h4 h6 hd (IRow.nil _ _)⟩
theorem pair_rkeep (h0 : Pair w0 u0 W1 A W0 hb st L sz gn kn rb st2 L2 vP oP vQ oQ) (hb2 : Below W0.heap.size W0 W) (m : Mg) (hd : DvIs u0 m.f m.body m.t) (hsm : DvSm m.f m.t) (htp : m.tp.size ≤ 1048576) (hL : L2.length ≤ 10000000) :
    Calls Tryz.prog 51 #[.pointer (some ⟨rb, 0, none⟩), .agg #[.int .i64 m.id, .string m.tp, .int .i64 m.kd, .int .i64 m.di, .int .u64 m.db, .string m.ds, .slice m.q m.n m.c, .int .i64 m.at_, .int .i64 m.un, .string m.rp, .int .i64 m.co, .int .i64 m.pr, .int .i64 m.ho]] W fun e w' => e = .returned (.bool (keepA L2 m.am).1) ∧ Pair w0 u0 W1 A w' hb st L sz gn kn rb st2 (keepA L2 m.am).2 vP oP nilV [] ∧ ∀ b, W0.heap.size ≤ b → b < W.heap.size → w'.heap[b]? = W.heap[b]? := by
  have h := h0.below hb2
  obtain ⟨P, Q, h1, h2, h3, h4, h5, h6⟩ := h0.ex
  have h1' := h1.below hb2
  have h2' := h2.below hb2
  refine (refKeep_any u0 W Q rb st2 L2 m h2' h.bu hd hsm htp hL).mono ?_
  rintro e w' ⟨rfl, hd⟩
  exact ⟨rfl, h.ref h1' h2'.owns h3 h4 h5 hd (IRow.nil _ _), fun b k1 k2 => hd.2.block b k2 fun e => by have := h2.owns.hi b e; omega⟩
end
set_option maxRecDepth 100000 in
set_option maxHeartbeats 4000000 in
/-- two rows that say the same -/
theorem sameMsgs30_any (w : World) (b1 b2 : Nat) (v1 v2 : Value) (l1 l2 : List Mg) (h1 : MRow w b1 v1 l1) (h2 : MRow w b2 v2 l2) (d1 : ∀ m ∈ l1, DvIs w m.f m.body m.t) (d2 : ∀ m ∈ l2, DvIs w m.f m.body m.t) (he : l1.map Mg.am = l2.map Mg.am) (hl : l1.length ≤ 100000000) :
    Calls Tryz.prog 52 #[v1, v2] w fun e w' => e = .returned (.bool true) ∧ Below w.heap.size w w' := by
  obtain ⟨PP, hPP⟩ : ∃ PP : Ending → World → Prop, (fun e w' => e = .returned (.bool true) ∧ Below w.heap.size w w') = PP := ⟨_, rfl⟩
  rw [hPP]
  have HPP := Lib.hid hPP
  have hlen : l1.length = l2.length := by have := congrArg List.length he; simpa using this
  obtain ⟨q1, c1, rfl⟩ := MRow.slice h1
  obtain ⟨q2, c2, rfl⟩ := MRow.slice h2
  rw [← hlen] at h2 ⊢
  have H1 := Lib.hid h1
  have H2 := Lib.hid h2
  have D1 := Lib.hid d1
  have D2 := Lib.hid d2
  have HE := Lib.hid he
  have HLN := Lib.hid hlen
  clear hPP h1 h2 d1 d2 he hlen
  go_enter Tryz.func52, Tryz.ntmps52
  go_wp2_with fail
  go_loopw [5] (fun s5 wr => ∃ i : Nat, s5 = .int .i64 (i : Nat) ∧ i ≤ l1.length ∧ Hid (Below w.heap.size w wr)) (fun s5 _ => l1.length - (intOf s5).toNat)
  case atStart => exact ⟨0, rfl, Nat.zero_le _, Below.refl _ _⟩
  case round =>
    obtain ⟨i, rfl, hi, HB⟩ := hrel
    by_cases hlt : i < l1.length
    · obtain ⟨x, hx⟩ : ∃ x, l1[i]? = some x := ⟨_, List.getElem?_eq_getElem hlt⟩
      obtain ⟨y, hy⟩ : ∃ y, l2[i]? = some y := ⟨_, List.getElem?_eq_getElem (by have := HLN.out; omega)⟩
      have hxy : x.am = y.am := by
        have e1 : (l1.map Mg.am)[i]? = some x.am := by rw [List.getElem?_map, hx]; rfl
        have e2 : (l2.map Mg.am)[i]? = some y.am := by rw [List.getElem?_map, hy]; rfl
        rw [HE.out, e2] at e1
        injection e1 with e1
        exact e1.symm
      have HR1 : Hid (MRow wr b1 (.slice q1 l1.length c1) l1) := row_of_heap H1.out fun b hb => HB.out.block b (H1.out.lt b hb).2
      have HR2 : Hid (MRow wr b2 (.slice q2 l1.length c2) l2) := row_of_heap H2.out fun b hb => HB.out.block b (H2.out.lt b hb).2
      obtain ⟨g1, rfl, gl1, x0, x1, x2, x3, x4, x5, x6, x7, x8, x9, x10, x11, x12⟩ := MRow.at_ HR1.out hx
      obtain ⟨g2, rfl, gl2, y0, y1, y2, y3, y4, y5, y6, y7, y8, y9, y10, y11, y12⟩ := MRow.at_ HR2.out hy
      have CS : Hid (∀ W, Below w.heap.size w W → Calls Tryz.prog 18 #[.agg #[.int .i64 x.id, .string x.tp, .int .i64 x.kd, .int .i64 x.di, .int .u64 x.db, .string x.ds, .slice x.q x.n x.c, .int .i64 x.at_, .int .i64 x.un, .string x.rp, .int .i64 x.co, .int .i64 x.pr, .int .i64 x.ho], .agg #[.int .i64 y.id, .string y.tp, .int .i64 y.kd, .int .i64 y.di, .int .u64 y.db, .string y.ds, .slice y.q y.n y.c, .int .i64 y.at_, .int .i64 y.un, .string y.rp, .int .i64 y.co, .int .i64 y.pr, .int .i64 y.ho]] W fun e w' => e = .returned (.bool true) ∧ Below W.heap.size W w') := fun W hW => (sameMsg_any W x y (DvIs.below hW (D1.out x (List.mem_of_getElem? hx))) (DvIs.below hW (D2.out y (List.mem_of_getElem? hy)))).mono fun e w' ⟨b, h1, h2, h3⟩ => ⟨by rw [h1, h2.2 hxy], h3⟩
      have hltI : (i : Int) < (l1.length : Int) := by omega
      have hi0 : (0 : Int) ≤ (i : Int) := by omega
      have e0 : ∀ d os, (Go.Sort.grow (redrawn wr d) os).cell? ⟨g1, i * 13, none⟩ = some (.int .i64 x.id) := fun d os => cell_regrown x0 d os
      have e1 : ∀ d os, (Go.Sort.grow (redrawn wr d) os).cell? ⟨g1, i * 13 + 1, none⟩ = some (.string x.tp) := fun d os => cell_regrown x1 d os
      have e2 : ∀ d os, (Go.Sort.grow (redrawn wr d) os).cell? ⟨g1, i * 13 + 2, none⟩ = some (.int .i64 x.kd) := fun d os => cell_regrown x2 d os
      have e3 : ∀ d os, (Go.Sort.grow (redrawn wr d) os).cell? ⟨g1, i * 13 + 3, none⟩ = some (.int .i64 x.di) := fun d os => cell_regrown x3 d os
      have e4 : ∀ d os, (Go.Sort.grow (redrawn wr d) os).cell? ⟨g1, i * 13 + 4, none⟩ = some (.int .u64 x.db) := fun d os => cell_regrown x4 d os
      have e5 : ∀ d os, (Go.Sort.grow (redrawn wr d) os).cell? ⟨g1, i * 13 + 5, none⟩ = some (.string x.ds) := fun d os => cell_regrown x5 d os
      have e6 : ∀ d os, (Go.Sort.grow (redrawn wr d) os).cell? ⟨g1, i * 13 + 6, none⟩ = some (.slice x.q x.n x.c) := fun d os => cell_regrown x6 d os
      have e7 : ∀ d os, (Go.Sort.grow (redrawn wr d) os).cell? ⟨g1, i * 13 + 7, none⟩ = some (.int .i64 x.at_) := fun d os => cell_regrown x7 d os
      have e8 : ∀ d os, (Go.Sort.grow (redrawn wr d) os).cell? ⟨g1, i * 13 + 8, none⟩ = some (.int .i64 x.un) := fun d os => cell_regrown x8 d os
      have e9 : ∀ d os, (Go.Sort.grow (redrawn wr d) os).cell? ⟨g1, i * 13 + 9, none⟩ = some (.string x.rp) := fun d os => cell_regrown x9 d os
      have e10 : ∀ d os, (Go.Sort.grow (redrawn wr d) os).cell? ⟨g1, i * 13 + 10, none⟩ = some (.int .i64 x.co) := fun d os => cell_regrown x10 d os
      have e11 : ∀ d os, (Go.Sort.grow (redrawn wr d) os).cell? ⟨g1, i * 13 + 11, none⟩ = some (.int .i64 x.pr) := fun d os => cell_regrown x11 d os
      have e12 : ∀ d os, (Go.Sort.grow (redrawn wr d) os).cell? ⟨g1, i * 13 + 12, none⟩ = some (.int .i64 x.ho) := fun d os => cell_regrown x12 d os
      have f0 : ∀ d os, (Go.Sort.grow (redrawn wr d) os).cell? ⟨g2, i * 13, none⟩ = some (.int .i64 y.id) := fun d os => cell_regrown y0 d os
      have f1 : ∀ d os, (Go.Sort.grow (redrawn wr d) os).cell? ⟨g2, i * 13 + 1, none⟩ = some (.string y.tp) := fun d os => cell_regrown y1 d os
      have f2 : ∀ d os, (Go.Sort.grow (redrawn wr d) os).cell? ⟨g2, i * 13 + 2, none⟩ = some (.int .i64 y.kd) := fun d os => cell_regrown y2 d os
      have f3 : ∀ d os, (Go.Sort.grow (redrawn wr d) os).cell? ⟨g2, i * 13 + 3, none⟩ = some (.int .i64 y.di) := fun d os => cell_regrown y3 d os
      have f4 : ∀ d os, (Go.Sort.grow (redrawn wr d) os).cell? ⟨g2, i * 13 + 4, none⟩ = some (.int .u64 y.db) := fun d os => cell_regrown y4 d os
      have f5 : ∀ d os, (Go.Sort.grow (redrawn wr d) os).cell? ⟨g2, i * 13 + 5, none⟩ = some (.string y.ds) := fun d os => cell_regrown y5 d os
      have f6 : ∀ d os, (Go.Sort.grow (redrawn wr d) os).cell? ⟨g2, i * 13 + 6, none⟩ = some (.slice y.q y.n y.c) := fun d os => cell_regrown y6 d os
      have f7 : ∀ d os, (Go.Sort.grow (redrawn wr d) os).cell? ⟨g2, i * 13 + 7, none⟩ = some (.int .i64 y.at_) := fun d os => cell_regrown y7 d os
      have f8 : ∀ d os, (Go.Sort.grow (redrawn wr d) os).cell? ⟨g2, i * 13 + 8, none⟩ = some (.int .i64 y.un) := fun d os => cell_regrown y8 d os
      have f9 : ∀ d os, (Go.Sort.grow (redrawn wr d) os).cell? ⟨g2, i * 13 + 9, none⟩ = some (.string y.rp) := fun d os => cell_regrown y9 d os
      have f10 : ∀ d os, (Go.Sort.grow (redrawn wr d) os).cell? ⟨g2, i * 13 + 10, none⟩ = some (.int .i64 y.co) := fun d os => cell_regrown y10 d os
      have f11 : ∀ d os, (Go.Sort.grow (redrawn wr d) os).cell? ⟨g2, i * 13 + 11, none⟩ = some (.int .i64 y.pr) := fun d os => cell_regrown y11 d os
      have f12 : ∀ d os, (Go.Sort.grow (redrawn wr d) os).cell? ⟨g2, i * 13 + 12, none⟩ = some (.int .i64 y.ho) := fun d os => cell_regrown y12 d os
      clear hxy hx hy
      go_wp2_with fail
      refine wp_region_quiet_below (by kernel_rfl) (by kernel_rfl) ?_
      repeat (quiet_step (exact Calls.regrown_of (CS.out _ (HB.out.trans ((below_regrown wr _ _).mono HB.out.size)))))
      refine wpQuiet_nil ?_
      intro _ hw'
      obtain ⟨⟨dq, osq⟩, hw''⟩ := hw'
      subst hw''
      have HBQ : Hid (Below w.heap.size w (Go.Sort.grow (redrawn wr dq) osq)) := HB.out.trans ((below_regrown wr dq osq).mono HB.out.size)
      clear x0 x1 x2 x3 x4 x5 x6 x7 x8 x9 x10 x11 x12 y0 y1 y2 y3 y4 y5 y6 y7 y8 y9 y10 y11 y12 e0 e1 e2 e3 e4 e5 e6 e7 e8 e9 e10 e11 e12 f0 f1 f2 f3 f4 f5 f6 f7 f8 f9 f10 f11 f12
      go_wp2_with fail
      go_roundw
      case rel => exact ⟨i + 1, by go_num, by omega, HBQ.out⟩
      case measure => simp [intOf]; omega
    · have hnI : ¬ (i : Int) < (l1.length : Int) := by omega
      go_wp2_with fail
      rw [← HPP.out]
      exact ⟨rfl, HB.out⟩
/-- the answer's rows, being written over -/
structure Ovr (A W : World) (v : Value) (out : List Mg) : Prop where
  bel : Below A.heap.size A W
  row : MRow W A.heap.size v out
  kinds : ∀ m ∈ out, ∀ k, k < m.n → ∃ b o cur t kd, m.q = some ⟨b, o, none⟩ ∧ W.heap[b]? = some (.cells cur t (0, 0)) ∧ cur[o + k * 5]? = some (.int .i64 kd) ∧ A.heap.size ≤ b ∧ some b ≠ v.ownBlock
  len : ∀ m ∈ out, m.n ≤ 1000000
theorem Ovr.start {A W : World} {v : Value} {out : List Mg} (hb : Below A.heap.size A W) (hr : MRow W A.heap.size v out) (hm : ∀ m ∈ out, MgIn (RowP A.heap.size W v) W m ∧ DvSm m.f m.t) : Ovr A W v out := by
  refine ⟨hb, hr, fun m hmm k hk => ?_, fun m hmm => ?_⟩
  rotate_left
  · obtain ⟨⟨h1, -⟩, hsm⟩ := hm m hmm
    obtain ⟨ps, ht⟩ := DvIs.mk h1.is
    have h3 := h1.is
    rw [ht] at h3 hsm
    obtain ⟨hn, -⟩ := h3.top
    obtain ⟨f', hf⟩ := h3.form
    rw [hf] at hsm
    rw [hn]
    exact hsm.1
  obtain ⟨⟨h1, h2⟩, -⟩ := hm m hmm
  obtain ⟨ps, ht⟩ := DvIs.mk h1.is
  have h3 := h1.is
  rw [ht] at h3
  obtain ⟨hn, -⟩ := h3.top
  obtain ⟨f', hf⟩ := h3.form
  rw [hf] at h3
  obtain ⟨b, o, kd', di', db', ds', q, m', c, l', hq, hbl, -, k0, -⟩ := h3.part (List.getElem?_eq_getElem (show k < ps.length by omega))
  obtain ⟨hP, hl, cur, t, hc⟩ := h2 _ hq
  have hP : RowP A.heap.size W v b := hP
  have hc : W.heap[b]? = some (.cells cur t (0, 0)) := hc
  refine ⟨b, o, cur, t, kd', hq, hc, ?_, hP.1, hP.2.2⟩
  rw [cell_of_row _ _ _ _ _ _ hc] at k0
  exact k0
theorem Ovr.set {A W : World} {v : Value} {out : List Mg} (h : Ovr A W v out) {m : Mg} (hm : m ∈ out) {k b o : Nat} (hk : k < m.n) (hq : m.q = some ⟨b, o, none⟩) : Ovr A (W.setCell ⟨b, o + k * 5, none⟩ (.int .i64 77)) v out := by
  obtain ⟨b', o', cur, t, kd, e, hc, hcur, hA, hv⟩ := h.kinds m hm k hk
  rw [hq] at e
  injection e with e
  injection e with e1 e2 _
  subst e1; subst e2
  have hoff : ∀ c, c ≠ b → (W.setCell ⟨b, o + k * 5, none⟩ (.int .i64 77)).heap[c]? = W.heap[c]? := fun c hne => Below.heap_setCell _ _ _ _ (fun e => hne e)
  refine ⟨h.bel.trans ⟨rfl, rfl, rfl, by simp, fun c hc => hoff c (by omega)⟩, row_of_heap h.row fun c hc => hoff c (fun e => hv (by rw [← e, hc])), fun x hx j hj => ?_, h.len⟩
  obtain ⟨b2, o2, cur2, t2, kd2, e2, hc2, hcur2, hA2, hv2⟩ := h.kinds x hx j hj
  by_cases hbb : b2 = b
  · subst hbb
    rw [hc] at hc2
    injection hc2 with hc2
    injection hc2 with a1 a2 _
    subst a1; subst a2
    have hs : (W.setCell ⟨b2, o + k * 5, none⟩ (.int .i64 77)).heap[b2]? = some (.cells (cur.setIfInBounds (o + k * 5) (.int .i64 77)) t (0, 0)) := heap_setCell_same W b2 (o + k * 5) _ _ _ hc
    by_cases hp : o2 + j * 5 = o + k * 5
    · refine ⟨b2, o2, _, t, 77, e2, hs, ?_, hA2, hv2⟩
      rw [hp, Array.getElem?_setIfInBounds_self_of_lt (Array.getElem?_eq_some_iff.1 hcur).1]
    · exact ⟨b2, o2, _, t, kd2, e2, hs, by rw [Array.getElem?_setIfInBounds_ne (fun e => hp e.symm)]; exact hcur2, hA2, hv2⟩
  · exact ⟨b2, o2, cur2, t2, kd2, e2, (hoff b2 hbb).trans hc2, hcur2, hA2, hv2⟩
set_option maxRecDepth 100000 in
set_option maxHeartbeats 8000000 in
theorem act_keep (w W1 : World) (A : Nat → Prop) (W : World) (hb : Nat) (st : HSt) (L : List AM) (sz gn kn : Nat) (rb : Nat) (s : ByteArray) (id : Int) (m : Mg) (h : Both w w W1 A W hb st L sz gn kn rb st L) (hT0 : Tabs w) (hM : MgOk w m) (hL : L.length ≤ 10000000) (hkn : kn ≤ 100000000) :
    Calls Tryz.prog 19 #[.pointer (some ⟨hb, 0, none⟩), .pointer (some ⟨rb, 0, none⟩), .agg #[.int .i64 4, .string s, .int .i64 id, .int .i64 m.id, .string m.tp, .int .i64 m.kd, .int .i64 m.di, .int .u64 m.db, .string m.ds, .slice m.q m.n m.c, .int .i64 m.at_, .int .i64 m.un, .string m.rp, .int .i64 m.co, .int .i64 m.pr, .int .i64 m.ho]] W fun e w' => e = .returned (.bool true) ∧ ((Both w w W1 A w' hb st L sz gn kn rb st L) ∨ Both w w W1 A w' hb st (keepA L m.am).2 sz gn (kn + 1) rb st (keepA L m.am).2) := by
  obtain ⟨PP, hPP⟩ : ∃ PP : Ending → World → Prop, (fun e w' => e = .returned (.bool true) ∧ ((Both w w W1 A w' hb st L sz gn kn rb st L) ∨ Both w w W1 A w' hb st (keepA L m.am).2 sz gn (kn + 1) rb st (keepA L m.am).2)) = PP := ⟨_, rfl⟩
  rw [hPP]
  have HPP := Lib.hid hPP
  have hU0 := hT0
  obtain ⟨vP0, oP0, vQ0, oQ0, h⟩ := h
  obtain ⟨WB, hWB⟩ : ∃ WB, W.alloc (.cells #[.int .i64 4, .string s, .int .i64 id, .int .i64 m.id, .string m.tp, .int .i64 m.kd, .int .i64 m.di, .int .u64 m.db, .string m.ds, .slice m.q m.n m.c, .int .i64 m.at_, .int .i64 m.un, .string m.rp, .int .i64 m.co, .int .i64 m.pr, .int .i64 m.ho] 53) = WB := ⟨_, rfl⟩
  have hbx : WB.heap[W.heap.size]? = some (.cells #[.int .i64 4, .string s, .int .i64 id, .int .i64 m.id, .string m.tp, .int .i64 m.kd, .int .i64 m.di, .int .u64 m.db, .string m.ds, .slice m.q m.n m.c, .int .i64 m.at_, .int .i64 m.un, .string m.rp, .int .i64 m.co, .int .i64 m.pr, .int .i64 m.ho] 53 (0, 0)) := by rw [← hWB]; exact heap_alloc_new W _
  have hBB : Below W.heap.size W WB := by rw [← hWB]; exact (Below.refl _ _).alloc (Nat.le_refl _) _
  have hWBs : WB.heap.size = W.heap.size + 1 := by rw [← hWB]; simp
  obtain ⟨A', hA', hP⟩ := h.rebase hBB
  have HP := Lib.hid hP
  have HFR := Lib.hid h.fr
  have HBB := Lib.hid hBB
  have HA' := Lib.hid hA'
  have HT0 := Lib.hid hT0
  have HU0 := Lib.hid hU0
  have hbl : W.heap.size < WB.heap.size := by omega
  obtain ⟨b0, hb0⟩ : ∃ b0, W.heap.size = b0 := ⟨_, rfl⟩
  have c0 : WB.cell? ⟨b0, 0, none⟩ = some (.int .i64 4) := by rw [← hb0, cell_of_row WB _ 0 _ _ _ hbx]; rfl
  have c1 : WB.cell? ⟨b0, 1, none⟩ = some (.string s) := by rw [← hb0, cell_of_row WB _ 1 _ _ _ hbx]; rfl
  have c2 : WB.cell? ⟨b0, 2, none⟩ = some (.int .i64 id) := by rw [← hb0, cell_of_row WB _ 2 _ _ _ hbx]; rfl
  have c3 : WB.cell? ⟨b0, 3, none⟩ = some (.int .i64 m.id) := by rw [← hb0, cell_of_row WB _ 3 _ _ _ hbx]; rfl
  have c4 : WB.cell? ⟨b0, 4, none⟩ = some (.string m.tp) := by rw [← hb0, cell_of_row WB _ 4 _ _ _ hbx]; rfl
  have c5 : WB.cell? ⟨b0, 5, none⟩ = some (.int .i64 m.kd) := by rw [← hb0, cell_of_row WB _ 5 _ _ _ hbx]; rfl
  have c6 : WB.cell? ⟨b0, 6, none⟩ = some (.int .i64 m.di) := by rw [← hb0, cell_of_row WB _ 6 _ _ _ hbx]; rfl
  have c7 : WB.cell? ⟨b0, 7, none⟩ = some (.int .u64 m.db) := by rw [← hb0, cell_of_row WB _ 7 _ _ _ hbx]; rfl
  have c8 : WB.cell? ⟨b0, 8, none⟩ = some (.string m.ds) := by rw [← hb0, cell_of_row WB _ 8 _ _ _ hbx]; rfl
  have c9 : WB.cell? ⟨b0, 9, none⟩ = some (.slice m.q m.n m.c) := by rw [← hb0, cell_of_row WB _ 9 _ _ _ hbx]; rfl
  have c10 : WB.cell? ⟨b0, 10, none⟩ = some (.int .i64 m.at_) := by rw [← hb0, cell_of_row WB _ 10 _ _ _ hbx]; rfl
  have c11 : WB.cell? ⟨b0, 11, none⟩ = some (.int .i64 m.un) := by rw [← hb0, cell_of_row WB _ 11 _ _ _ hbx]; rfl
  have c12 : WB.cell? ⟨b0, 12, none⟩ = some (.string m.rp) := by rw [← hb0, cell_of_row WB _ 12 _ _ _ hbx]; rfl
  have c13 : WB.cell? ⟨b0, 13, none⟩ = some (.int .i64 m.co) := by rw [← hb0, cell_of_row WB _ 13 _ _ _ hbx]; rfl
  have c14 : WB.cell? ⟨b0, 14, none⟩ = some (.int .i64 m.pr) := by rw [← hb0, cell_of_row WB _ 14 _ _ _ hbx]; rfl
  have c15 : WB.cell? ⟨b0, 15, none⟩ = some (.int .i64 m.ho) := by rw [← hb0, cell_of_row WB _ 15 _ _ _ hbx]; rfl
  have HKS : Hid (∀ W', Frame A' WB W' → W'.cell? ⟨b0, 1, none⟩ = some (.string s) ∧ W'.cell? ⟨b0, 2, none⟩ = some (.int .i64 id) ∧ W'.cell? ⟨b0, 3, none⟩ = some (.int .i64 m.id) ∧ W'.cell? ⟨b0, 4, none⟩ = some (.string m.tp) ∧ W'.cell? ⟨b0, 5, none⟩ = some (.int .i64 m.kd) ∧ W'.cell? ⟨b0, 6, none⟩ = some (.int .i64 m.di) ∧ W'.cell? ⟨b0, 7, none⟩ = some (.int .u64 m.db) ∧ W'.cell? ⟨b0, 8, none⟩ = some (.string m.ds) ∧ W'.cell? ⟨b0, 9, none⟩ = some (.slice m.q m.n m.c) ∧ W'.cell? ⟨b0, 10, none⟩ = some (.int .i64 m.at_) ∧ W'.cell? ⟨b0, 11, none⟩ = some (.int .i64 m.un) ∧ W'.cell? ⟨b0, 12, none⟩ = some (.string m.rp) ∧ W'.cell? ⟨b0, 13, none⟩ = some (.int .i64 m.co) ∧ W'.cell? ⟨b0, 14, none⟩ = some (.int .i64 m.pr) ∧ W'.cell? ⟨b0, 15, none⟩ = some (.int .i64 m.ho)) := fun W' hf => by
    have e := hf.block b0 (by omega) fun e => by have := (hA' b0 e).1; omega
    exact ⟨cell_of_heap e c1, cell_of_heap e c2, cell_of_heap e c3, cell_of_heap e c4, cell_of_heap e c5, cell_of_heap e c6, cell_of_heap e c7, cell_of_heap e c8, cell_of_heap e c9, cell_of_heap e c10, cell_of_heap e c11, cell_of_heap e c12, cell_of_heap e c13, cell_of_heap e c14, cell_of_heap e c15⟩
  rw [hb0] at hbl
  have HWB := Lib.hid hWB
  clear hPP hP h hBB hA' hT0 hU0 hbx hWBs hWB
  have htp : m.tp.size ≤ 1048576 := by have := hM.wt; omega
  have hrp : m.rp.size ≤ 1048576 := by have := hM.wt; omega
  have HD := Lib.hid hM.dv
  have CF : Hid (∀ W', Below w.heap.size w W' → Calls Tryz.prog 13 #[.agg #[.int .i64 m.id, .string m.tp, .int .i64 m.kd, .int .i64 m.di, .int .u64 m.db, .string m.ds, .slice m.q m.n m.c, .int .i64 m.at_, .int .i64 m.un, .string m.rp, .int .i64 m.co, .int .i64 m.pr, .int .i64 m.ho]] W' fun e w' => e = .returned (.bool (ftB m)) ∧ Below W'.heap.size W' w') := fun W' hW => fitM_any W' m (DvIs.below hW HD.out) htp hrp (HT0.out.below hW)
  clear hM
  cases hf : ftB m with
  | false =>
    have HFB := Lib.hid hf
    clear hf
    go_enter Tryz.func19, Tryz.ntmps19
    go_wp2_with fail
    rw [HWB.out]
    refine (CF.out _ HP.out.bw).mono ?_
    rintro e w2 ⟨rfl, hb2⟩
    rw [HFB.out]
    have HP2 := Lib.hid (HP.out.below hb2)
    clear hb2
    go_wp2_with fail
    rw [← HPP.out]
    exact ⟨rfl, .inl ⟨_, _, _, _, Pair.back HFR.out HBB.out HA'.out HP2.out⟩⟩
  | true =>
    have HFB := Lib.hid hf
    have HSM : Hid (DvSm m.f m.t) := dvSm_of m.f m.t (ftB_iff.1 hf).1.1.1
    have CC : Hid (∀ W, Below w.heap.size w W → Calls Tryz.prog 50 #[.agg #[.int .i64 m.id, .string m.tp, .int .i64 m.kd, .int .i64 m.di, .int .u64 m.db, .string m.ds, .slice m.q m.n m.c, .int .i64 m.at_, .int .i64 m.un, .string m.rp, .int .i64 m.co, .int .i64 m.pr, .int .i64 m.ho]] W (CopyPost W m)) := fun W hW => copyMsg_any W m (DvIs.below hW HD.out) HSM.out
    clear hf
    go_enter Tryz.func19, Tryz.ntmps19
    go_wp2_with fail
    rw [HWB.out]
    refine (CF.out _ HP.out.bw).mono ?_
    rintro e w2 ⟨rfl, hb2⟩
    rw [HFB.out]
    have HPF := Lib.hid (HP.out.below hb2)
    obtain ⟨k1, k2, k3, k4, k5, k6, k7, k8, k9, k10, k11, k12, k13, k14, k15⟩ := HKS.out _ HPF.out.fr
    have k0l := World.block_lt_of_cell? w2 _ k1
    clear hb2 c0 c1 c2 c3 c4 c5 c6 c7 c8 c9 c10 c11 c12 c13 c14 c15
    go_wp2_with fail
    go_region_held3 (fun W' => W'.cell? ⟨b0, 1, none⟩ = some (.string s) ∧ W'.cell? ⟨b0, 2, none⟩ = some (.int .i64 id) ∧ W'.cell? ⟨b0, 3, none⟩ = some (.int .i64 m.id) ∧ W'.cell? ⟨b0, 4, none⟩ = some (.string m.tp) ∧ W'.cell? ⟨b0, 5, none⟩ = some (.int .i64 m.kd) ∧ W'.cell? ⟨b0, 6, none⟩ = some (.int .i64 m.di) ∧ W'.cell? ⟨b0, 7, none⟩ = some (.int .u64 m.db) ∧ W'.cell? ⟨b0, 8, none⟩ = some (.string m.ds) ∧ W'.cell? ⟨b0, 9, none⟩ = some (.slice m.q m.n m.c) ∧ W'.cell? ⟨b0, 10, none⟩ = some (.int .i64 m.at_) ∧ W'.cell? ⟨b0, 11, none⟩ = some (.int .i64 m.un) ∧ W'.cell? ⟨b0, 12, none⟩ = some (.string m.rp) ∧ W'.cell? ⟨b0, 13, none⟩ = some (.int .i64 m.co) ∧ W'.cell? ⟨b0, 14, none⟩ = some (.int .i64 m.pr) ∧ W'.cell? ⟨b0, 15, none⟩ = some (.int .i64 m.ho)) (first | exact HKS.out _ HPF.out.fr | exact HKS.out _ (HPF.out.below (Below.refl _ _).drew).fr | exact HKS.out _ HPc.out.fr | exact HKS.out _ HPk.out.fr | exact HKS.out _ HPcr.out.fr | exact HKS.out _ HPr.out.fr | exact HKS.out _ HPrc.out.fr | exact HKS.out _ HPz.out.fr) (first
      | (go_at_call 50; (with_reducible refine (CC.out _ (HPF.out.below (Below.refl _ _).drew).bw).mono ?_); rintro e wh ⟨aq, an, ac, rfl, hb2, hd2⟩; have HBc : Hid (Below w2.heap.size w2 wh) := Below.undrew hb2; have HPc := Lib.hid (HPF.out.below HBc.out); have HDc : Hid (DvIn (Fresh w2 wh) wh m.f [.int .i64 m.kd, .int .i64 m.di, .int .u64 m.db, .string m.ds, .slice aq an ac] m.t) := hd2; clear hb2 hd2)
      | (go_at_call 50; (with_reducible refine (CC.out _ HPr.out.bw).mono ?_); rintro e wh ⟨aq, an, ac, rfl, hb2, hd2⟩; have HPrc := Lib.hid (HPr.out.below hb2); have HDrc := Lib.hid hd2.is; clear hb2 hd2)
      | (go_at_call 14; (with_reducible refine (pair_keep HPc.out m _ _ _ HDc.out.is HSM.out htp hkn).mono ?_); rintro e wh ⟨rfl, hh⟩; have HPk := Lib.hid hh; clear hh)
      | (go_at_call 14; (with_reducible refine (pair_keep HPcr.out m _ _ _ HDcr.out HSM.out htp hkn).mono ?_); rintro e wh ⟨rfl, hh⟩; have HPz := Lib.hid hh; clear hh)
      | (go_at_call 14; (with_reducible refine (pair_keep HPrc.out m _ _ _ HDrc.out HSM.out htp hkn).mono ?_); rintro e wh ⟨rfl, hh⟩; have HPz := Lib.hid hh; clear hh)
      | (go_at_call 51; (with_reducible refine (pair_rkeep HPF.out (Below.drew_of _) m HD.out HSM.out htp hL).mono ?_); rintro e wh ⟨rfl, hh, -⟩; have HPr := Lib.hid hh; clear hh)
      | (go_at_call 51; (with_reducible refine (pair_rkeep HPF.out HBc.out m HD.out HSM.out htp hL).mono ?_); rintro e wr ⟨rfl, hh, hu⟩; have HPcr := Lib.hid hh; have HDcr : Hid (DvIs wr m.f [.int .i64 m.kd, .int .i64 m.di, .int .u64 m.db, .string m.ds, .slice aq an ac] m.t) := (HDc.out.kept (Q := fun _ => True) fun b hb hl => ⟨hu b hb.1 hl, trivial⟩).is; clear hh hu)
      | (go_at_call 51; (with_reducible refine (pair_rkeep HPk.out (Below.refl _ _) m HD.out HSM.out htp hL).mono ?_); rintro e wr ⟨rfl, hh, -⟩; have HPz := Lib.hid hh; clear hh))
    all_goals
      go_simp
      go_wp2_with fail
      rw [← HPP.out]
      exact ⟨rfl, .inr ⟨_, _, _, _, Pair.back HFR.out HBB.out HA'.out HPz.out⟩⟩
set_option maxRecDepth 100000 in
set_option maxHeartbeats 8000000 in
theorem act_split (w W1 : World) (A : Nat → Prop) (W : World) (hb : Nat) (st : HSt) (L : List AM) (sz gn kn : Nat) (rb : Nat) (s : ByteArray) (id : Int) (m : Mg) (h : Both w w W1 A W hb st L sz gn kn rb st L) (hT0 : Tabs w) (hs : s.size ≤ 1048576) :
    Calls Tryz.prog 19 #[.pointer (some ⟨hb, 0, none⟩), .pointer (some ⟨rb, 0, none⟩), .agg #[.int .i64 6, .string s, .int .i64 id, .int .i64 m.id, .string m.tp, .int .i64 m.kd, .int .i64 m.di, .int .u64 m.db, .string m.ds, .slice m.q m.n m.c, .int .i64 m.at_, .int .i64 m.un, .string m.rp, .int .i64 m.co, .int .i64 m.pr, .int .i64 m.ho]] W fun e w' => e = .returned (.bool true) ∧ Both w w W1 A w' hb st L sz gn kn rb st L := by
  obtain ⟨PP, hPP⟩ : ∃ PP : Ending → World → Prop, (fun e w' => e = .returned (.bool true) ∧ Both w w W1 A w' hb st L sz gn kn rb st L) = PP := ⟨_, rfl⟩
  rw [hPP]
  have HPP := Lib.hid hPP
  have hU0 := hT0
  obtain ⟨vP0, oP0, vQ0, oQ0, h⟩ := h
  obtain ⟨WB, hWB⟩ : ∃ WB, W.alloc (.cells #[.int .i64 6, .string s, .int .i64 id, .int .i64 m.id, .string m.tp, .int .i64 m.kd, .int .i64 m.di, .int .u64 m.db, .string m.ds, .slice m.q m.n m.c, .int .i64 m.at_, .int .i64 m.un, .string m.rp, .int .i64 m.co, .int .i64 m.pr, .int .i64 m.ho] 53) = WB := ⟨_, rfl⟩
  have hbx : WB.heap[W.heap.size]? = some (.cells #[.int .i64 6, .string s, .int .i64 id, .int .i64 m.id, .string m.tp, .int .i64 m.kd, .int .i64 m.di, .int .u64 m.db, .string m.ds, .slice m.q m.n m.c, .int .i64 m.at_, .int .i64 m.un, .string m.rp, .int .i64 m.co, .int .i64 m.pr, .int .i64 m.ho] 53 (0, 0)) := by rw [← hWB]; exact heap_alloc_new W _
  have hBB : Below W.heap.size W WB := by rw [← hWB]; exact (Below.refl _ _).alloc (Nat.le_refl _) _
  have hWBs : WB.heap.size = W.heap.size + 1 := by rw [← hWB]; simp
  obtain ⟨A', hA', hP⟩ := h.rebase hBB
  have HP := Lib.hid hP
  have HFR := Lib.hid h.fr
  have HBB := Lib.hid hBB
  have HA' := Lib.hid hA'
  have HT0 := Lib.hid hT0
  have HU0 := Lib.hid hU0
  have hbl : W.heap.size < WB.heap.size := by omega
  obtain ⟨b0, hb0⟩ : ∃ b0, W.heap.size = b0 := ⟨_, rfl⟩
  have c0 : WB.cell? ⟨b0, 0, none⟩ = some (.int .i64 6) := by rw [← hb0, cell_of_row WB _ 0 _ _ _ hbx]; rfl
  have c1 : WB.cell? ⟨b0, 1, none⟩ = some (.string s) := by rw [← hb0, cell_of_row WB _ 1 _ _ _ hbx]; rfl
  have c2 : WB.cell? ⟨b0, 2, none⟩ = some (.int .i64 id) := by rw [← hb0, cell_of_row WB _ 2 _ _ _ hbx]; rfl
  have c3 : WB.cell? ⟨b0, 3, none⟩ = some (.int .i64 m.id) := by rw [← hb0, cell_of_row WB _ 3 _ _ _ hbx]; rfl
  have c4 : WB.cell? ⟨b0, 4, none⟩ = some (.string m.tp) := by rw [← hb0, cell_of_row WB _ 4 _ _ _ hbx]; rfl
  have c5 : WB.cell? ⟨b0, 5, none⟩ = some (.int .i64 m.kd) := by rw [← hb0, cell_of_row WB _ 5 _ _ _ hbx]; rfl
  have c6 : WB.cell? ⟨b0, 6, none⟩ = some (.int .i64 m.di) := by rw [← hb0, cell_of_row WB _ 6 _ _ _ hbx]; rfl
  have c7 : WB.cell? ⟨b0, 7, none⟩ = some (.int .u64 m.db) := by rw [← hb0, cell_of_row WB _ 7 _ _ _ hbx]; rfl
  have c8 : WB.cell? ⟨b0, 8, none⟩ = some (.string m.ds) := by rw [← hb0, cell_of_row WB _ 8 _ _ _ hbx]; rfl
  have c9 : WB.cell? ⟨b0, 9, none⟩ = some (.slice m.q m.n m.c) := by rw [← hb0, cell_of_row WB _ 9 _ _ _ hbx]; rfl
  have c10 : WB.cell? ⟨b0, 10, none⟩ = some (.int .i64 m.at_) := by rw [← hb0, cell_of_row WB _ 10 _ _ _ hbx]; rfl
  have c11 : WB.cell? ⟨b0, 11, none⟩ = some (.int .i64 m.un) := by rw [← hb0, cell_of_row WB _ 11 _ _ _ hbx]; rfl
  have c12 : WB.cell? ⟨b0, 12, none⟩ = some (.string m.rp) := by rw [← hb0, cell_of_row WB _ 12 _ _ _ hbx]; rfl
  have c13 : WB.cell? ⟨b0, 13, none⟩ = some (.int .i64 m.co) := by rw [← hb0, cell_of_row WB _ 13 _ _ _ hbx]; rfl
  have c14 : WB.cell? ⟨b0, 14, none⟩ = some (.int .i64 m.pr) := by rw [← hb0, cell_of_row WB _ 14 _ _ _ hbx]; rfl
  have c15 : WB.cell? ⟨b0, 15, none⟩ = some (.int .i64 m.ho) := by rw [← hb0, cell_of_row WB _ 15 _ _ _ hbx]; rfl
  have HKS : Hid (∀ W', Frame A' WB W' → W'.cell? ⟨b0, 1, none⟩ = some (.string s) ∧ W'.cell? ⟨b0, 2, none⟩ = some (.int .i64 id) ∧ W'.cell? ⟨b0, 3, none⟩ = some (.int .i64 m.id) ∧ W'.cell? ⟨b0, 4, none⟩ = some (.string m.tp) ∧ W'.cell? ⟨b0, 5, none⟩ = some (.int .i64 m.kd) ∧ W'.cell? ⟨b0, 6, none⟩ = some (.int .i64 m.di) ∧ W'.cell? ⟨b0, 7, none⟩ = some (.int .u64 m.db) ∧ W'.cell? ⟨b0, 8, none⟩ = some (.string m.ds) ∧ W'.cell? ⟨b0, 9, none⟩ = some (.slice m.q m.n m.c) ∧ W'.cell? ⟨b0, 10, none⟩ = some (.int .i64 m.at_) ∧ W'.cell? ⟨b0, 11, none⟩ = some (.int .i64 m.un) ∧ W'.cell? ⟨b0, 12, none⟩ = some (.string m.rp) ∧ W'.cell? ⟨b0, 13, none⟩ = some (.int .i64 m.co) ∧ W'.cell? ⟨b0, 14, none⟩ = some (.int .i64 m.pr) ∧ W'.cell? ⟨b0, 15, none⟩ = some (.int .i64 m.ho)) := fun W' hf => by
    have e := hf.block b0 (by omega) fun e => by have := (hA' b0 e).1; omega
    exact ⟨cell_of_heap e c1, cell_of_heap e c2, cell_of_heap e c3, cell_of_heap e c4, cell_of_heap e c5, cell_of_heap e c6, cell_of_heap e c7, cell_of_heap e c8, cell_of_heap e c9, cell_of_heap e c10, cell_of_heap e c11, cell_of_heap e c12, cell_of_heap e c13, cell_of_heap e c14, cell_of_heap e c15⟩
  rw [hb0] at hbl
  have HWB := Lib.hid hWB
  clear hPP hP h hBB hA' hT0 hU0 hbx hWBs hWB
  clear HKS c2 c3 c4 c5 c6 c7 c8 c9 c10 c11 c12 c13 c14 c15
  have CS : Hid (∀ W, Below w.heap.size w W → Calls Tryz.prog 17 #[.string s] W (SplitPost s W)) := fun W hW => split_any s W hs (HT0.out.below hW)
  have CR : Hid (∀ W, Below w.heap.size w W → Calls Tryz.prog 54 #[.string s] W (SplitPost s W)) := fun W hW => refSplit_any s W hs (HT0.out.below hW)
  obtain ⟨g, f, ok, hv⟩ : ∃ g f ok, splitV s = .tuple #[.string g, .string f, .bool ok] := by
    cases hk : splitK s with
    | none => exact ⟨_, _, _, split_no hk⟩
    | some x => exact ⟨_, _, _, split_yes (a := x.1) (b := x.2) hk⟩
  have HV := Lib.hid hv
  clear hv
  have t1 : (g.toList == g.toList) = true := by simp
  have t2 : (f.toList == f.toList) = true := by simp
  have t3 : (ok == ok) = true := by simp
  go_enter Tryz.func19, Tryz.ntmps19
  go_wp2_with fail
  rw [HWB.out]
  refine (CS.out _ HP.out.bw).mono ?_
  rintro e w2 ⟨rfl, hb2⟩
  rw [HV.out]
  have c1' := (hb2.cell (p := ⟨b0, 1, none⟩) hbl).trans c1
  have hbl2 := Nat.lt_of_lt_of_le hbl hb2.size
  have HP2 := Lib.hid (HP.out.below hb2)
  clear hb2 c1 c0
  go_wp2_with fail
  refine (CR.out _ HP2.out.bw).mono ?_
  rintro e w3 ⟨rfl, hb3⟩
  rw [HV.out]
  have HP3 := Lib.hid (HP2.out.below hb3)
  clear hb3
  go_wp2_with fail
  rw [← HPP.out]
  exact ⟨rfl, _, _, _, _, Pair.back HFR.out HBB.out HA'.out HP3.out⟩
set_option maxRecDepth 100000 in
set_option maxHeartbeats 8000000 in
theorem act_other (w W1 : World) (A : Nat → Prop) (W : World) (hb : Nat) (st : HSt) (L : List AM) (sz gn kn : Nat) (rb : Nat) (s : ByteArray) (id k : Int) (m : Mg) (h : Both w w W1 A W hb st L sz gn kn rb st L) (hT0 : Tabs w) (hk : ¬ (1 ≤ k ∧ k ≤ 6)) :
    Calls Tryz.prog 19 #[.pointer (some ⟨hb, 0, none⟩), .pointer (some ⟨rb, 0, none⟩), .agg #[.int .i64 k, .string s, .int .i64 id, .int .i64 m.id, .string m.tp, .int .i64 m.kd, .int .i64 m.di, .int .u64 m.db, .string m.ds, .slice m.q m.n m.c, .int .i64 m.at_, .int .i64 m.un, .string m.rp, .int .i64 m.co, .int .i64 m.pr, .int .i64 m.ho]] W fun e w' => e = .returned (.bool true) ∧ Both w w W1 A w' hb st L sz gn kn rb st L := by
  obtain ⟨PP, hPP⟩ : ∃ PP : Ending → World → Prop, (fun e w' => e = .returned (.bool true) ∧ Both w w W1 A w' hb st L sz gn kn rb st L) = PP := ⟨_, rfl⟩
  rw [hPP]
  have HPP := Lib.hid hPP
  have hU0 := hT0
  obtain ⟨vP0, oP0, vQ0, oQ0, h⟩ := h
  obtain ⟨WB, hWB⟩ : ∃ WB, W.alloc (.cells #[.int .i64 k, .string s, .int .i64 id, .int .i64 m.id, .string m.tp, .int .i64 m.kd, .int .i64 m.di, .int .u64 m.db, .string m.ds, .slice m.q m.n m.c, .int .i64 m.at_, .int .i64 m.un, .string m.rp, .int .i64 m.co, .int .i64 m.pr, .int .i64 m.ho] 53) = WB := ⟨_, rfl⟩
  have hbx : WB.heap[W.heap.size]? = some (.cells #[.int .i64 k, .string s, .int .i64 id, .int .i64 m.id, .string m.tp, .int .i64 m.kd, .int .i64 m.di, .int .u64 m.db, .string m.ds, .slice m.q m.n m.c, .int .i64 m.at_, .int .i64 m.un, .string m.rp, .int .i64 m.co, .int .i64 m.pr, .int .i64 m.ho] 53 (0, 0)) := by rw [← hWB]; exact heap_alloc_new W _
  have hBB : Below W.heap.size W WB := by rw [← hWB]; exact (Below.refl _ _).alloc (Nat.le_refl _) _
  have hWBs : WB.heap.size = W.heap.size + 1 := by rw [← hWB]; simp
  obtain ⟨A', hA', hP⟩ := h.rebase hBB
  have HP := Lib.hid hP
  have HFR := Lib.hid h.fr
  have HBB := Lib.hid hBB
  have HA' := Lib.hid hA'
  have HT0 := Lib.hid hT0
  have HU0 := Lib.hid hU0
  have hbl : W.heap.size < WB.heap.size := by omega
  obtain ⟨b0, hb0⟩ : ∃ b0, W.heap.size = b0 := ⟨_, rfl⟩
  have c0 : WB.cell? ⟨b0, 0, none⟩ = some (.int .i64 k) := by rw [← hb0, cell_of_row WB _ 0 _ _ _ hbx]; rfl
  have c1 : WB.cell? ⟨b0, 1, none⟩ = some (.string s) := by rw [← hb0, cell_of_row WB _ 1 _ _ _ hbx]; rfl
  have c2 : WB.cell? ⟨b0, 2, none⟩ = some (.int .i64 id) := by rw [← hb0, cell_of_row WB _ 2 _ _ _ hbx]; rfl
  have c3 : WB.cell? ⟨b0, 3, none⟩ = some (.int .i64 m.id) := by rw [← hb0, cell_of_row WB _ 3 _ _ _ hbx]; rfl
  have c4 : WB.cell? ⟨b0, 4, none⟩ = some (.string m.tp) := by rw [← hb0, cell_of_row WB _ 4 _ _ _ hbx]; rfl
  have c5 : WB.cell? ⟨b0, 5, none⟩ = some (.int .i64 m.kd) := by rw [← hb0, cell_of_row WB _ 5 _ _ _ hbx]; rfl
  have c6 : WB.cell? ⟨b0, 6, none⟩ = some (.int .i64 m.di) := by rw [← hb0, cell_of_row WB _ 6 _ _ _ hbx]; rfl
  have c7 : WB.cell? ⟨b0, 7, none⟩ = some (.int .u64 m.db) := by rw [← hb0, cell_of_row WB _ 7 _ _ _ hbx]; rfl
  have c8 : WB.cell? ⟨b0, 8, none⟩ = some (.string m.ds) := by rw [← hb0, cell_of_row WB _ 8 _ _ _ hbx]; rfl
  have c9 : WB.cell? ⟨b0, 9, none⟩ = some (.slice m.q m.n m.c) := by rw [← hb0, cell_of_row WB _ 9 _ _ _ hbx]; rfl
  have c10 : WB.cell? ⟨b0, 10, none⟩ = some (.int .i64 m.at_) := by rw [← hb0, cell_of_row WB _ 10 _ _ _ hbx]; rfl
  have c11 : WB.cell? ⟨b0, 11, none⟩ = some (.int .i64 m.un) := by rw [← hb0, cell_of_row WB _ 11 _ _ _ hbx]; rfl
  have c12 : WB.cell? ⟨b0, 12, none⟩ = some (.string m.rp) := by rw [← hb0, cell_of_row WB _ 12 _ _ _ hbx]; rfl
  have c13 : WB.cell? ⟨b0, 13, none⟩ = some (.int .i64 m.co) := by rw [← hb0, cell_of_row WB _ 13 _ _ _ hbx]; rfl
  have c14 : WB.cell? ⟨b0, 14, none⟩ = some (.int .i64 m.pr) := by rw [← hb0, cell_of_row WB _ 14 _ _ _ hbx]; rfl
  have c15 : WB.cell? ⟨b0, 15, none⟩ = some (.int .i64 m.ho) := by rw [← hb0, cell_of_row WB _ 15 _ _ _ hbx]; rfl
  have HKS : Hid (∀ W', Frame A' WB W' → W'.cell? ⟨b0, 1, none⟩ = some (.string s) ∧ W'.cell? ⟨b0, 2, none⟩ = some (.int .i64 id) ∧ W'.cell? ⟨b0, 3, none⟩ = some (.int .i64 m.id) ∧ W'.cell? ⟨b0, 4, none⟩ = some (.string m.tp) ∧ W'.cell? ⟨b0, 5, none⟩ = some (.int .i64 m.kd) ∧ W'.cell? ⟨b0, 6, none⟩ = some (.int .i64 m.di) ∧ W'.cell? ⟨b0, 7, none⟩ = some (.int .u64 m.db) ∧ W'.cell? ⟨b0, 8, none⟩ = some (.string m.ds) ∧ W'.cell? ⟨b0, 9, none⟩ = some (.slice m.q m.n m.c) ∧ W'.cell? ⟨b0, 10, none⟩ = some (.int .i64 m.at_) ∧ W'.cell? ⟨b0, 11, none⟩ = some (.int .i64 m.un) ∧ W'.cell? ⟨b0, 12, none⟩ = some (.string m.rp) ∧ W'.cell? ⟨b0, 13, none⟩ = some (.int .i64 m.co) ∧ W'.cell? ⟨b0, 14, none⟩ = some (.int .i64 m.pr) ∧ W'.cell? ⟨b0, 15, none⟩ = some (.int .i64 m.ho)) := fun W' hf => by
    have e := hf.block b0 (by omega) fun e => by have := (hA' b0 e).1; omega
    exact ⟨cell_of_heap e c1, cell_of_heap e c2, cell_of_heap e c3, cell_of_heap e c4, cell_of_heap e c5, cell_of_heap e c6, cell_of_heap e c7, cell_of_heap e c8, cell_of_heap e c9, cell_of_heap e c10, cell_of_heap e c11, cell_of_heap e c12, cell_of_heap e c13, cell_of_heap e c14, cell_of_heap e c15⟩
  rw [hb0] at hbl
  have HWB := Lib.hid hWB
  clear hPP hP h hBB hA' hT0 hU0 hbx hWBs hWB
  clear HKS c1 c2 c3 c4 c5 c6 c7 c8 c9 c10 c11 c12 c13 c14 c15
  have k1 : (k == 1) = false := by rw [beq_eq_false_iff_ne]; omega
  have k2 : (k == 2) = false := by rw [beq_eq_false_iff_ne]; omega
  have k3 : (k == 3) = false := by rw [beq_eq_false_iff_ne]; omega
  have k4 : (k == 4) = false := by rw [beq_eq_false_iff_ne]; omega
  have k5 : (k == 5) = false := by rw [beq_eq_false_iff_ne]; omega
  have k6 : (k == 6) = false := by rw [beq_eq_false_iff_ne]; omega
  clear hk
  go_enter Tryz.func19, Tryz.ntmps19
  go_wp2_with fail
  rw [HWB.out, ← HPP.out]
  exact ⟨rfl, _, _, _, _, Pair.back HFR.out HBB.out HA'.out HP.out⟩
set_option maxRecDepth 100000 in
set_option maxHeartbeats 8000000 in
theorem act_kept (w W1 : World) (A : Nat → Prop) (W : World) (hb : Nat) (st : HSt) (L : List AM) (sz gn kn : Nat) (rb : Nat) (s : ByteArray) (id : Int) (m : Mg) (h : Both w w W1 A W hb st L sz gn kn rb st L) (hT0 : Tabs w) (hG : GoodL L) (hs : s.size ≤ 1048576) (hL : L.length ≤ 10000000) :
    Calls Tryz.prog 19 #[.pointer (some ⟨hb, 0, none⟩), .pointer (some ⟨rb, 0, none⟩), .agg #[.int .i64 5, .string s, .int .i64 id, .int .i64 m.id, .string m.tp, .int .i64 m.kd, .int .i64 m.di, .int .u64 m.db, .string m.ds, .slice m.q m.n m.c, .int .i64 m.at_, .int .i64 m.un, .string m.rp, .int .i64 m.co, .int .i64 m.pr, .int .i64 m.ho]] W fun e w' => e = .returned (.bool true) ∧ Both w w W1 A w' hb st L sz gn kn rb st L := by
  obtain ⟨PP, hPP⟩ : ∃ PP : Ending → World → Prop, (fun e w' => e = .returned (.bool true) ∧ Both w w W1 A w' hb st L sz gn kn rb st L) = PP := ⟨_, rfl⟩
  rw [hPP]
  have HPP := Lib.hid hPP
  have hU0 := hT0
  obtain ⟨vP0, oP0, vQ0, oQ0, h⟩ := h
  obtain ⟨WB, hWB⟩ : ∃ WB, W.alloc (.cells #[.int .i64 5, .string s, .int .i64 id, .int .i64 m.id, .string m.tp, .int .i64 m.kd, .int .i64 m.di, .int .u64 m.db, .string m.ds, .slice m.q m.n m.c, .int .i64 m.at_, .int .i64 m.un, .string m.rp, .int .i64 m.co, .int .i64 m.pr, .int .i64 m.ho] 53) = WB := ⟨_, rfl⟩
  have hbx : WB.heap[W.heap.size]? = some (.cells #[.int .i64 5, .string s, .int .i64 id, .int .i64 m.id, .string m.tp, .int .i64 m.kd, .int .i64 m.di, .int .u64 m.db, .string m.ds, .slice m.q m.n m.c, .int .i64 m.at_, .int .i64 m.un, .string m.rp, .int .i64 m.co, .int .i64 m.pr, .int .i64 m.ho] 53 (0, 0)) := by rw [← hWB]; exact heap_alloc_new W _
  have hBB : Below W.heap.size W WB := by rw [← hWB]; exact (Below.refl _ _).alloc (Nat.le_refl _) _
  have hWBs : WB.heap.size = W.heap.size + 1 := by rw [← hWB]; simp
  obtain ⟨A', hA', hP⟩ := h.rebase hBB
  have HP := Lib.hid hP
  have HFR := Lib.hid h.fr
  have HBB := Lib.hid hBB
  have HA' := Lib.hid hA'
  have HT0 := Lib.hid hT0
  have HU0 := Lib.hid hU0
  have hbl : W.heap.size < WB.heap.size := by omega
  obtain ⟨b0, hb0⟩ : ∃ b0, W.heap.size = b0 := ⟨_, rfl⟩
  have c0 : WB.cell? ⟨b0, 0, none⟩ = some (.int .i64 5) := by rw [← hb0, cell_of_row WB _ 0 _ _ _ hbx]; rfl
  have c1 : WB.cell? ⟨b0, 1, none⟩ = some (.string s) := by rw [← hb0, cell_of_row WB _ 1 _ _ _ hbx]; rfl
  have c2 : WB.cell? ⟨b0, 2, none⟩ = some (.int .i64 id) := by rw [← hb0, cell_of_row WB _ 2 _ _ _ hbx]; rfl
  have c3 : WB.cell? ⟨b0, 3, none⟩ = some (.int .i64 m.id) := by rw [← hb0, cell_of_row WB _ 3 _ _ _ hbx]; rfl
  have c4 : WB.cell? ⟨b0, 4, none⟩ = some (.string m.tp) := by rw [← hb0, cell_of_row WB _ 4 _ _ _ hbx]; rfl
  have c5 : WB.cell? ⟨b0, 5, none⟩ = some (.int .i64 m.kd) := by rw [← hb0, cell_of_row WB _ 5 _ _ _ hbx]; rfl
  have c6 : WB.cell? ⟨b0, 6, none⟩ = some (.int .i64 m.di) := by rw [← hb0, cell_of_row WB _ 6 _ _ _ hbx]; rfl
  have c7 : WB.cell? ⟨b0, 7, none⟩ = some (.int .u64 m.db) := by rw [← hb0, cell_of_row WB _ 7 _ _ _ hbx]; rfl
  have c8 : WB.cell? ⟨b0, 8, none⟩ = some (.string m.ds) := by rw [← hb0, cell_of_row WB _ 8 _ _ _ hbx]; rfl
  have c9 : WB.cell? ⟨b0, 9, none⟩ = some (.slice m.q m.n m.c) := by rw [← hb0, cell_of_row WB _ 9 _ _ _ hbx]; rfl
  have c10 : WB.cell? ⟨b0, 10, none⟩ = some (.int .i64 m.at_) := by rw [← hb0, cell_of_row WB _ 10 _ _ _ hbx]; rfl
  have c11 : WB.cell? ⟨b0, 11, none⟩ = some (.int .i64 m.un) := by rw [← hb0, cell_of_row WB _ 11 _ _ _ hbx]; rfl
  have c12 : WB.cell? ⟨b0, 12, none⟩ = some (.string m.rp) := by rw [← hb0, cell_of_row WB _ 12 _ _ _ hbx]; rfl
  have c13 : WB.cell? ⟨b0, 13, none⟩ = some (.int .i64 m.co) := by rw [← hb0, cell_of_row WB _ 13 _ _ _ hbx]; rfl
  have c14 : WB.cell? ⟨b0, 14, none⟩ = some (.int .i64 m.pr) := by rw [← hb0, cell_of_row WB _ 14 _ _ _ hbx]; rfl
  have c15 : WB.cell? ⟨b0, 15, none⟩ = some (.int .i64 m.ho) := by rw [← hb0, cell_of_row WB _ 15 _ _ _ hbx]; rfl
  have HKS : Hid (∀ W', Frame A' WB W' → W'.cell? ⟨b0, 1, none⟩ = some (.string s) ∧ W'.cell? ⟨b0, 2, none⟩ = some (.int .i64 id) ∧ W'.cell? ⟨b0, 3, none⟩ = some (.int .i64 m.id) ∧ W'.cell? ⟨b0, 4, none⟩ = some (.string m.tp) ∧ W'.cell? ⟨b0, 5, none⟩ = some (.int .i64 m.kd) ∧ W'.cell? ⟨b0, 6, none⟩ = some (.int .i64 m.di) ∧ W'.cell? ⟨b0, 7, none⟩ = some (.int .u64 m.db) ∧ W'.cell? ⟨b0, 8, none⟩ = some (.string m.ds) ∧ W'.cell? ⟨b0, 9, none⟩ = some (.slice m.q m.n m.c) ∧ W'.cell? ⟨b0, 10, none⟩ = some (.int .i64 m.at_) ∧ W'.cell? ⟨b0, 11, none⟩ = some (.int .i64 m.un) ∧ W'.cell? ⟨b0, 12, none⟩ = some (.string m.rp) ∧ W'.cell? ⟨b0, 13, none⟩ = some (.int .i64 m.co) ∧ W'.cell? ⟨b0, 14, none⟩ = some (.int .i64 m.pr) ∧ W'.cell? ⟨b0, 15, none⟩ = some (.int .i64 m.ho)) := fun W' hf => by
    have e := hf.block b0 (by omega) fun e => by have := (hA' b0 e).1; omega
    exact ⟨cell_of_heap e c1, cell_of_heap e c2, cell_of_heap e c3, cell_of_heap e c4, cell_of_heap e c5, cell_of_heap e c6, cell_of_heap e c7, cell_of_heap e c8, cell_of_heap e c9, cell_of_heap e c10, cell_of_heap e c11, cell_of_heap e c12, cell_of_heap e c13, cell_of_heap e c14, cell_of_heap e c15⟩
  rw [hb0] at hbl
  have HWB := Lib.hid hWB
  clear hPP hP h hBB hA' hT0 hU0 hbx hWBs hWB
  clear HKS c2 c3 c4 c5 c6 c7 c8 c9 c10 c11 c12 c13 c14 c15
  have HGD := Lib.hid hG
  obtain ⟨P, Q, h1, h2, -⟩ := HP.out.ex
  have CK : Hid (Calls Tryz.prog 15 #[.pointer (some ⟨hb, 0, none⟩), .string s] WB fun e w' => ∃ (v : Value) (out : List Mg), e = .returned v ∧ MRow w' WB.heap.size v out ∧ KeptA L s (out.map Mg.am) ∧ (∀ m ∈ out, MgIn (RowP WB.heap.size w' v) w' m ∧ DvSm m.f m.t) ∧ Below WB.heap.size WB w') := hs_kept2 h1 HP.out.bw HT0.out s hs hL
  have CR : Hid (∀ W, Below WB.heap.size WB W → Calls Tryz.prog 53 #[.pointer (some ⟨rb, 0, none⟩), .string s] W (RKeptPost W L s)) := fun W hW => refKept_any w W Q rb st L s (h2.below hW) hG (HP.out.bu.trans (hW.mono HP.out.bu.size)) HT0.out hs hL
  clear h1 h2 hG
  go_enter Tryz.func19, Tryz.ntmps19
  go_wp2_with fail
  rw [HWB.out]
  refine CK.out.mono ?_
  rintro e w2 ⟨v, out, rfl, hr2, hk2, hp2, hb2⟩
  have c1' := (hb2.cell (p := ⟨b0, 1, none⟩) hbl).trans c1
  have hbl2 := Nat.lt_of_lt_of_le hbl hb2.size
  have HR2 := Lib.hid hr2
  have HK2 := Lib.hid hk2
  have HP2 := Lib.hid hp2
  have HB2 := Lib.hid hb2
  clear hr2 hk2 hp2 hb2 c1 c0
  go_wp2_with fail
  refine (CR.out _ HB2.out).mono ?_
  rintro e w3 ⟨v3, out3, rfl, hr3, hk3, hp3, hb3⟩
  have HE : Hid (out.map Mg.am = out3.map Mg.am) := keptA_fun HGD.out HK2.out hk3
  have hol : out.length ≤ 100000000 := by
    have h1 : ((out.map Mg.am).map (·.tp)).Nodup := (tps_rise HK2.out.rise).imp fun {a b} h e => by subst e; exact ltB_irr h
    have h2 := nodup_le h1 (fun t ht => by
      obtain ⟨x, hx, rfl⟩ := List.mem_map.1 ht
      exact List.mem_map.2 ⟨x, ((HK2.out.mem x).1 hx).1, rfl⟩ : ∀ t ∈ (out.map Mg.am).map (·.tp), t ∈ L.map (·.tp))
    rw [List.length_map, List.length_map, List.length_map] at h2
    omega
  have HR3 : Hid (MRow w3 WB.heap.size v out) := row_of_heap HR2.out fun b hb => hb3.block b (HR2.out.lt b hb).2
  have HM3 : Hid (∀ m ∈ out, MgIn (RowP WB.heap.size w3 v) w3 m ∧ DvSm m.f m.t) := fun m hm => ⟨(HP2.out m hm).1.kept fun b hb hl => ⟨hb3.block b hl, hb.1, Nat.lt_of_lt_of_le hl hb3.size, hb.2.2⟩, (HP2.out m hm).2⟩
  have HB3 : Hid (Below WB.heap.size WB w3) := HB2.out.trans (hb3.mono HB2.out.size)
  have CS : Hid (Calls Tryz.prog 52 #[v, v3] w3 fun e w' => e = .returned (.bool true) ∧ Below w3.heap.size w3 w') := sameMsgs30_any w3 _ _ v v3 out out3 HR3.out hr3 (fun m hm => (HM3.out m hm).1.1.is) (fun m hm => (hp3 m hm).1.is) HE.out hol
  clear hr3 hk3 hp3 hb3
  go_wp2_with fail
  refine CS.out.mono ?_
  rintro e w4 ⟨rfl, hb4⟩
  have HO : Hid (Ovr WB w4 v out) := Ovr.start (HB3.out.trans (hb4.mono HB3.out.size)) (row_of_heap HR3.out fun b hb => hb4.block b (HR3.out.lt b hb).2) fun m hm => ⟨(HM3.out m hm).1.kept fun b hb hl => ⟨hb4.block b hl, hb.1, Nat.lt_of_lt_of_le hl hb4.size, hb.2.2⟩, (HM3.out m hm).2⟩
  clear hb4
  obtain ⟨q7, c7, rfl⟩ := MRow.slice HO.out.row
  go_wp2_with fail
  go_loopw [9, 10] (fun s9 _ W => ∃ i : Nat, s9 = .int .i64 (i : Nat) ∧ i ≤ out.length ∧ Hid (Ovr WB W (.slice q7 out.length c7) out)) (fun s9 _ _ => out.length - (intOf s9).toNat)
  case atStart => exact ⟨0, rfl, Nat.zero_le _, HO.out⟩
  case round =>
    clear HO
    obtain ⟨i, rfl, hi, HO⟩ := hrel
    by_cases hlt : i < out.length
    · obtain ⟨x, hx⟩ : ∃ x, out[i]? = some x := ⟨_, List.getElem?_eq_getElem hlt⟩
      have hltI : (i : Int) < (out.length : Int) := by omega
      have hi0 : (0 : Int) ≤ (i : Int) := by omega
      go_wp2_with fail
      go_loopw [10] (fun s10 W => ∃ k : Nat, s10 = .int .i64 (k : Nat) ∧ k ≤ x.n ∧ Hid (Ovr WB W (.slice q7 out.length c7) out)) (fun s10 _ => x.n - (intOf s10).toNat)
      case atStart => exact ⟨0, rfl, Nat.zero_le _, HO.out⟩
      case round =>
        clear HO
        obtain ⟨k, rfl, hk, HO⟩ := hrel
        obtain ⟨g, rfl, gl, -, -, -, -, -, -, x6, -, -, -, -, -, -⟩ := MRow.at_ HO.out.row hx
        by_cases hlt : k < x.n
        · obtain ⟨b, o, cur, t, kd, hq, hc, hcur, hA, hv⟩ := HO.out.kinds x (List.mem_of_getElem? hx) k hlt
          have hxn := HO.out.len x (List.mem_of_getElem? hx)
          have HS := Lib.hid (HO.out.set (List.mem_of_getElem? hx) hlt hq)
          rw [hq] at x6
          have y0 : wr.cell? ⟨b, o + k * 5, none⟩ = some (.int .i64 kd) := by rw [cell_of_row _ _ _ _ _ _ hc]; exact hcur
          have y1 := frozen_of_row wr b (o + k * 5) _ _ hc
          have y2 := (Array.getElem?_eq_some_iff.1 hc).1
          have hkI : (k : Int) < (x.n : Int) := by omega
          have hk0 : (0 : Int) ≤ (k : Int) := by omega
          clear hq hc hcur hv
          go_wp2_with fail
          go_roundw
          case rel => exact ⟨k + 1, by go_num, by omega, HS.out⟩
          case measure => simp [intOf]; omega
        · have hkI : ¬ (k : Int) < (x.n : Int) := by omega
          go_wp2_with fail
          go_roundw
          case rel => exact ⟨i + 1, by go_num, by omega, HO.out⟩
          case measure => simp [intOf]; omega
    · have hnI : ¬ (i : Int) < (out.length : Int) := by omega
      go_wp2_with fail
      rw [← HPP.out]
      exact ⟨rfl, _, _, _, _, Pair.back HFR.out HBB.out HA'.out (HP.out.below HO.out.bel)⟩
end
section
open Go Go.RowKit
attribute [local go_sem ↓] Go.wp_at_zero Go.wp_at_succ

theorem Both.wide {w0 u0 W1 : World} {A : Nat → Prop} {W : World} {hb : Nat} {st : HSt} {L : List AM} {sz gn kn sz' gn' kn' : Nat} {rb : Nat} {st2 : HSt} {L2 : List AM} (h : Both w0 u0 W1 A W hb st L sz gn kn rb st2 L2) (h1 : sz ≤ sz') (h2 : gn ≤ gn') (h3 : kn ≤ kn') : Both w0 u0 W1 A W hb st L sz' gn' kn' rb st2 L2 := by
  obtain ⟨vP, oP, vQ, oQ, h⟩ := h
  obtain ⟨P, Q, k1, k2⟩ := h.ex
  exact ⟨vP, oP, vQ, oQ, ⟨P, Q, k1.more h1 h2 h3, k2⟩, h.rP, h.rQ, h.fr, h.bw, h.bu⟩
/-- both, after n calls -/
structure Pl (w W : World) (hb rb sz n : Nat) (st : HSt) (L : List AM) : Prop where
  both : ∃ W1 A, Both w w W1 A W hb st L sz n n rb st L
  fits : Fits st n
  len : L.length ≤ n
theorem Pl.bel {w W : World} {hb rb sz n : Nat} {st : HSt} {L : List AM} (h : Pl w W hb rb sz n st L) : Below w.heap.size w W := by
  obtain ⟨W1, A, vP, oP, vQ, oQ, h⟩ := h.both
  exact h.bw
theorem Pl.start {w W : World} {hb : Nat} (hS : HubS w W (Grow (fun _ => False) w W) hb ([], []) [] 0 0 0) (hB : Below w.heap.size w W) : Pl w (W.alloc (.cells #[.slice none 0 0, .slice none 0 0, .slice none 0 0] 50)) hb W.heap.size 0 0 ([], []) [] := by
  have hbA : Below W.heap.size W (W.alloc (.cells #[.slice none 0 0, .slice none 0 0, .slice none 0 0] 50)) := (Below.refl _ _).alloc (Nat.le_refl _) _
  have h1 := hS.below hbA
  have h3 := refS_new w W hB.size
  refine ⟨⟨_, fun b => Grow (fun _ => False) w W b ∨ b = W.heap.size, nilV, [], nilV, [], ⟨_, _, h1, h3, fun b hb e => by have := hS.owns.hi b hb; omega, fun b hb => ⟨.inl hb, hb.elim (h1.owns.lo b) (h3.owns.lo b), hb.elim (h1.owns.lo b) (h3.owns.lo b)⟩, fun b e => absurd e (nilV_own b), fun b e => absurd e (nilV_own b)⟩, nilV_row _, nilV_row _, Frame.of_below (Below.refl _ _), hB.trans (hbA.mono hB.size), hB.trans (hbA.mono hB.size)⟩, ⟨Nat.le_refl _, Nat.le_refl _, fun x hx => by cases hx⟩, Nat.le_refl _⟩
/-- any call -/
theorem act_any30 (w W : World) (hb rb sz n : Nat) (st : HSt) (L : List AM) (a : SA) (h : Pl w W hb rb sz n st L) (hT : Tabs w) (hs : a.s.size ≤ 1048576) (hz : (Lit.int .i64 a.id).wf = true) (hM : MgOk w a.m) (hsz : sz ≤ 40000000) (hn : n ≤ 2000000) :
    Calls Tryz.prog 19 #[.pointer (some ⟨hb, 0, none⟩), .pointer (some ⟨rb, 0, none⟩), .agg #[.int .i64 a.k, .string a.s, .int .i64 a.id, .int .i64 a.m.id, .string a.m.tp, .int .i64 a.m.kd, .int .i64 a.m.di, .int .u64 a.m.db, .string a.m.ds, .slice a.m.q a.m.n a.m.c, .int .i64 a.m.at_, .int .i64 a.m.un, .string a.m.rp, .int .i64 a.m.co, .int .i64 a.m.pr, .int .i64 a.m.ho]] W fun e w' => e = .returned (.bool true) ∧ ∃ st' L', Pl w w' hb rb (sz + a.s.size + 2) (n + 1) st' L' := by
  obtain ⟨⟨W1, A, hB⟩, hf, hl⟩ := h
  have l1 : st.1.length ≤ 100000000 := by have := hf.subs; omega
  have l2 : st.2.length ≤ 100000000 := by have := hf.grps; omega
  obtain ⟨hG, hGL⟩ : GoodSt st ∧ GoodL L := by
    obtain ⟨vP, oP, vQ, oQ, h⟩ := hB
    obtain ⟨P, Q, k1, -⟩ := h.ex
    exact ⟨k1.good, k1.goodL⟩
  by_cases hk : 1 ≤ a.k ∧ a.k ≤ 6
  · have hk : a.k = 1 ∨ a.k = 2 ∨ a.k = 3 ∨ a.k = 4 ∨ a.k = 5 ∨ a.k = 6 := by omega
    rcases hk with hk | hk | hk | hk | hk | hk <;> rw [hk]
    · refine (act_join w w W1 A W hb st L sz n n rb st L a.s a.id a.m hB hT hT hG hs hz hf.wf (by omega) l1 (by omega) l1 l2).mono ?_
      rintro e w' ⟨rfl, h1⟩
      exact ⟨by rw [beq_self_eq_true], _, _, ⟨_, _, h1.wide (Nat.le_refl _) (Nat.le_refl _) (by omega)⟩, fits_join hf a.s hz, by omega⟩
    · refine (act_leave w w W1 A W hb st L sz n n rb st L a.s a.id a.m hB hT hT hG hs hz hf.wf (by omega) l1 l1 l2).mono ?_
      rintro e w' ⟨rfl, h1⟩
      exact ⟨by rw [beq_self_eq_true], _, _, ⟨_, _, h1.wide (by omega) (by omega) (by omega)⟩, (fits_leave hf a.s a.id).more (by omega), by omega⟩
    · refine (act_send w w W1 A W hb st L sz n n rb st L a.s a.id a.m hB hT hT hG hs hz hf.wf (by omega) l1 l2 l1 l2).mono ?_
      rintro e w' ⟨ids0, out, st', ids2, out2, st2', rfl, h1, h2, h3⟩
      obtain ⟨e1, e2⟩ := sendA_fun h1 h2
      subst e1; subst e2
      exact ⟨by rw [decide_eq_true rfl], _, _, ⟨_, _, h3.wide (by omega) (by omega) (by omega)⟩, (fits_send hf hG.keys h1).more (by omega), by omega⟩
    · refine (act_keep w W1 A W hb st L sz n n rb a.s a.id a.m hB hT hM (by omega) (by omega)).mono ?_
      rintro e w' ⟨rfl, h1 | h1⟩
      · exact ⟨rfl, _, _, ⟨_, _, h1.wide (by omega) (by omega) (by omega)⟩, hf.more (by omega), by omega⟩
      · exact ⟨rfl, _, _, ⟨_, _, h1.wide (by omega) (by omega) (by omega)⟩, hf.more (by omega), by have := keepA_len L a.m.am; omega⟩
    · refine (act_kept w W1 A W hb st L sz n n rb a.s a.id a.m hB hT hGL hs (by omega)).mono ?_
      rintro e w' ⟨rfl, h1⟩
      exact ⟨rfl, _, _, ⟨_, _, h1.wide (by omega) (by omega) (by omega)⟩, hf.more (by omega), by omega⟩
    · refine (act_split w W1 A W hb st L sz n n rb a.s a.id a.m hB hT hs).mono ?_
      rintro e w' ⟨rfl, h1⟩
      exact ⟨rfl, _, _, ⟨_, _, h1.wide (by omega) (by omega) (by omega)⟩, hf.more (by omega), by omega⟩
  · refine (act_other w W1 A W hb st L sz n n rb a.s a.id a.k a.m hB hT hk).mono ?_
    rintro e w' ⟨rfl, h1⟩
    exact ⟨rfl, _, _, ⟨_, _, h1.wide (by omega) (by omega) (by omega)⟩, hf.more (by omega), by omega⟩
theorem sum_take30 {L : List SA} (i : Nat) : ((L.take i).map fun a => a.s.size).sum ≤ (L.map fun a => a.s.size).sum := by
  induction L generalizing i with
  | nil => simp
  | cons a L ih =>
    cases i with
    | zero => simp
    | succ i =>
      have := ih i
      simp only [List.take_succ_cons, List.map_cons, List.sum_cons]
      omega
theorem sum_succ30 {L : List SA} {i : Nat} {a : SA} (h : L[i]? = some a) : ((L.take (i + 1)).map fun a => a.s.size).sum = ((L.take i).map fun a => a.s.size).sum + a.s.size := by
  rw [List.take_add_one, h, Option.toList_some, List.map_append, List.sum_append]
  simp
set_option maxRecDepth 100000 in
set_option maxHeartbeats 8000000 in
theorem sharePlays_any (w : World) (hT : Tabs w) (v : Value) (L : List SA) (h : ScriptM w v L) :
    Calls Tryz.prog 5 #[v] w fun e w' => e = .returned (.bool true) ∧ Below w.heap.size w w' := by
  obtain ⟨PP, hPP⟩ : ∃ PP : Ending → World → Prop, (fun e w' => e = .returned (.bool true) ∧ Below w.heap.size w w') = PP := ⟨_, rfl⟩
  rw [hPP]
  have HPP := Lib.hid hPP
  have HT := Lib.hid hT
  have HSC := Lib.hid h.1
  have HMM := Lib.hid h.2
  obtain ⟨-, p, cap, rfl, -⟩ := h.1.fl
  have hlen := h.1.len
  have CN := Lib.hid (hs_new w)
  clear hPP hT h
  go_enter Tryz.func5, Tryz.ntmps5
  go_wp2_with fail
  refine CN.out.mono ?_
  rintro e w1 ⟨hb, rfl, h1, h2⟩
  have HP0 := Lib.hid (Pl.start h1 h2)
  clear h1 h2
  go_wp2_with fail
  obtain ⟨rb, hrb⟩ : ∃ rb, w1.heap.size = rb := ⟨_, rfl⟩
  rw [hrb] at HP0 ⊢
  clear hrb
  generalize w1.alloc (.cells #[.slice none 0 0, .slice none 0 0, .slice none 0 0] 50) = w2 at *
  go_loopw [5] (fun s5 wr => ∃ i : Nat, s5 = .int .i64 (i : Nat) ∧ i ≤ L.length ∧ Hid (∃ st M, Pl w wr hb rb (((L.take i).map fun a => a.s.size).sum + 2 * i) i st M)) (fun s5 _ => L.length - (intOf s5).toNat)
  case atStart => exact ⟨0, rfl, Nat.zero_le _, _, _, HP0.out⟩
  case round =>
    obtain ⟨i, rfl, hi, HR⟩ := hrel
    obtain ⟨st, M, hP⟩ := HR.out
    by_cases hlt : i < L.length
    · obtain ⟨a, ha⟩ : ∃ a, L[i]? = some a := ⟨_, List.getElem?_eq_getElem hlt⟩
      obtain ⟨b, o, rfl, x0, x1, x2, x3, x4, x5, x6, x7, x8, x9, x10, x11, x12, x13, x14, x15⟩ := HSC.out.at_ ha
      obtain ⟨has, haz⟩ := HSC.out.each a (List.mem_of_getElem? ha)
      have hsz0 := HSC.out.sz
      have hst := sum_take30 (L := L) i
      have hbel := hP.bel
      have hmv : ∀ (j : Nat) (u : Value), w.cell? ⟨b, j, none⟩ = some u → wr.cell? ⟨b, j, none⟩ = some u := fun j u hu => (hbel.cell (World.block_lt_of_cell? w _ hu)).trans hu
      have y0 := hmv _ _ x0
      have y1 := hmv _ _ x1
      have y2 := hmv _ _ x2
      have y3 := hmv _ _ x3
      have y4 := hmv _ _ x4
      have y5 := hmv _ _ x5
      have y6 := hmv _ _ x6
      have y7 := hmv _ _ x7
      have y8 := hmv _ _ x8
      have y9 := hmv _ _ x9
      have y10 := hmv _ _ x10
      have y11 := hmv _ _ x11
      have y12 := hmv _ _ x12
      have y13 := hmv _ _ x13
      have y14 := hmv _ _ x14
      have y15 := hmv _ _ x15
      have hbl := World.block_lt_of_cell? wr _ y0
      have CA := Lib.hid (act_any30 w wr hb rb _ i st M a hP HT.out has haz (HMM.out a (List.mem_of_getElem? ha)) (by omega) (by omega))
      have HS := Lib.hid (sum_succ30 ha)
      have hltI : (i : Int) < (L.length : Int) := by omega
      have hi0 : (0 : Int) ≤ (i : Int) := by omega
      clear ha x0 x1 x2 x3 x4 x5 x6 x7 x8 x9 x10 x11 x12 x13 x14 x15 hmv hbel hP hst hsz0
      go_wp2_with fail
      refine CA.out.mono ?_
      rintro e w3 ⟨rfl, st', M', hP'⟩
      have HP' : Hid (∃ st M, Pl w w3 hb rb (((L.take (i + 1)).map fun a => a.s.size).sum + 2 * (i + 1)) (i + 1) st M) := ⟨st', M', by
        have e : ((L.take (i + 1)).map fun a => a.s.size).sum + 2 * (i + 1) = ((L.take i).map fun a => a.s.size).sum + 2 * i + a.s.size + 2 := by rw [HS.out]; omega
        rw [e]
        exact hP'⟩
      clear hP' y0 y1 y2 y3 y4 y5 y6 y7 y8 y9 y10 y11 y12 y13 y14 y15 hbl
      go_wp2_with fail
      go_roundw
      case rel => exact ⟨i + 1, by go_num, by omega, HP'.out⟩
      case measure => simp [intOf]; omega
    · have hnI : ¬ (i : Int) < (L.length : Int) := by omega
      have HB := Lib.hid hP.bel
      clear hP
      go_wp2_with fail
      refine (shAwake_any wr (HT.out.below HB.out)).mono ?_
      rintro e w10 ⟨rfl, hb10⟩
      have HB10 := Lib.hid (HB.out.trans (hb10.mono HB.out.size))
      clear hb10
      go_wp2_with fail
      rw [← HPP.out]
      exact ⟨rfl, HB10.out⟩
end
end Go.Proofs.YtincmegllckcjaaGreatDoor
