/- SHARE: a hub and the reference's hub side by side. SHARE: act: one call, done to both; without what is kept. SHARE: joined and left at once, nothing is left of it; two hubs and the reference's, apart in memory. THE LAW ShareBack: joined and left at once, nothing is left of it. -/
import Derived.Test.YtincmegllckcjaaGreatDoorShareRefC
import Derived.Test.YtincmegllckcjaaGreatDoorMShareWays
namespace Go.Proofs.YtincmegllckcjaaGreatDoor
section
open Go Go.RowKit
attribute [local go_sem ↓] Go.wp_at_zero Go.wp_at_succ

/-- a hub (of w0) and a reference's hub (of u0), apart in memory; since W1 the blocks of A alone have turned; vP, vQ: what each has answered last -/
structure Pair (w0 u0 W1 : World) (A : Nat → Prop) (W : World) (hb : Nat) (st : HSt) (L : List AM) (sz gn kn : Nat) (rb : Nat) (st2 : HSt) (L2 : List AM) (vP : Value) (oP : List Int) (vQ : Value) (oQ : List Int) : Prop where
  ex : ∃ P Q, HubS w0 W P hb st L sz gn kn ∧ RefS u0 W Q rb st2 L2 ∧ (∀ b, P b → ¬ Q b) ∧ (∀ b, P b ∨ Q b → (A b ∨ W1.heap.size ≤ b) ∧ w0.heap.size ≤ b ∧ u0.heap.size ≤ b) ∧ (∀ b, vP.ownBlock = some b → P b) ∧ (∀ b, vQ.ownBlock = some b → Q b)
  rP : IRow W 0 vP oP
  rQ : IRow W 0 vQ oQ
  fr : Frame A W1 W
  bw : Below w0.heap.size w0 W
  bu : Below u0.heap.size u0 W
def nilV : Value := .slice none 0 0
theorem nilV_own (b : Nat) : nilV.ownBlock ≠ some b := fun e => by cases e
theorem nilV_row (W : World) : IRow W 0 nilV [] := IRow.nil W 0
theorem irow_mono {W : World} {b b' : Nat} {v : Value} {l : List Int} (h : IRow W b v l) (hb : b' ≤ b) : IRow W b' v l := ownsRow_mono h hb
section
variable {w0 u0 W1 W W' : World} {A : Nat → Prop} {hb sz gn kn rb : Nat} {st st2 : HSt} {L L2 : List AM} {vP vQ : Value} {oP oQ : List Int}
theorem Pair.below (h : Pair w0 u0 W1 A W hb st L sz gn kn rb st2 L2 vP oP vQ oQ) (hb2 : Below W.heap.size W W') : Pair w0 u0 W1 A W' hb st L sz gn kn rb st2 L2 vP oP vQ oQ := by
  obtain ⟨P, Q, h1, h2, h3⟩ := h.ex
  exact ⟨⟨P, Q, h1.below hb2, h2.below hb2, h3⟩, irow_below h.rP hb2, irow_below h.rQ hb2, Frame.trans h.fr ((Frame.of_below (F := fun _ => False) hb2).mono fun _ e => e.elim), h.bw.trans (hb2.mono h.bw.size), h.bu.trans (hb2.mono h.bu.size)⟩
/-- the hub has turned -/
theorem Pair.hub {P Q : Nat → Prop} {st' : HSt} {L' : List AM} {sz' gn' kn' : Nat} {v' : Value} {o' : List Int} (h : Pair w0 u0 W1 A W hb st L sz gn kn rb st2 L2 vP oP vQ oQ) (h1 : Owns w0 W P) (h2 : RefS u0 W Q rb st2 L2) (h3 : ∀ b, P b → ¬ Q b) (h4 : ∀ b, P b ∨ Q b → (A b ∨ W1.heap.size ≤ b) ∧ w0.heap.size ≤ b ∧ u0.heap.size ≤ b) (h6 : ∀ b, vQ.ownBlock = some b → Q b)
    (hd : HubD w0 W P hb st' L' sz' gn' kn' W') (hv : IRow W' W.heap.size v' o') : Pair w0 u0 W1 A W' hb st' L' sz' gn' kn' rb st2 L2 v' o' vQ oQ := by
  have hs := h.fr.size
  have hw := h.bw.size
  have hu := h.bu.size
  refine ⟨⟨Grow P W W', Q, hd.1, h2.frame hd.2 fun b hq hp => h3 b hp hq, fun b hp hq => ?_, fun b hb => ?_, fun b hb => .inr (hv.lt b hb), h6⟩, irow_mono hv (Nat.zero_le _), row_of_heap h.rQ fun b hb => hd.2.block b (h.rQ.lt b hb).2 fun e => h3 b e (h6 b hb), Frame.trans h.fr (hd.2.mono fun b hb => (h4 b (.inl hb)).1), below_frame h.bw hd.2 h1.lo, below_frame h.bu hd.2 fun b hb => (h4 b (.inl hb)).2.2⟩
  · rcases hp with hp | hp
    · exact h3 b hp hq
    · have := h2.owns.hi b hq; omega
  · rcases hb with (hb | hb) | hb
    · exact h4 b (.inl hb)
    · exact ⟨.inr (by omega), by omega, by omega⟩
    · exact h4 b (.inr hb)
/-- the reference's hub has turned -/
theorem Pair.ref {P Q : Nat → Prop} {st' : HSt} {L' : List AM} {v' : Value} {o' : List Int} (h : Pair w0 u0 W1 A W hb st L sz gn kn rb st2 L2 vP oP vQ oQ) (h1 : HubS w0 W P hb st L sz gn kn) (h2 : Owns u0 W Q) (h3 : ∀ b, P b → ¬ Q b) (h4 : ∀ b, P b ∨ Q b → (A b ∨ W1.heap.size ≤ b) ∧ w0.heap.size ≤ b ∧ u0.heap.size ≤ b) (h6 : ∀ b, vP.ownBlock = some b → P b)
    (hd : RefD u0 W Q rb st' L' W') (hv : IRow W' W.heap.size v' o') : Pair w0 u0 W1 A W' hb st L sz gn kn rb st' L' vP oP v' o' := by
  have hs := h.fr.size
  have hw := h.bw.size
  have hu := h.bu.size
  refine ⟨⟨P, Grow Q W W', h1.frame hd.2 h3, hd.1, fun b hp hq => ?_, fun b hb => ?_, h6, fun b hb => .inr (hv.lt b hb)⟩, row_of_heap h.rP fun b hb => hd.2.block b (h.rP.lt b hb).2 (h3 b (h6 b hb)), irow_mono hv (Nat.zero_le _), Frame.trans h.fr (hd.2.mono fun b hb => (h4 b (.inr hb)).1), below_frame h.bw hd.2 fun b hb => (h4 b (.inr hb)).2.1, below_frame h.bu hd.2 h2.lo⟩
  · rcases hq with hq | hq
    · exact h3 b hp hq
    · have := h1.owns.hi b hp; omega
  · rcases hb with hb | hb | hb
    · exact h4 b (.inl hb)
    · exact h4 b (.inr hb)
    · exact ⟨.inr (by omega), by omega, by omega⟩
theorem pair_join (h : Pair w0 u0 W1 A W hb st L sz gn kn rb st2 L2 vP oP vQ oQ) (hT : Tabs w0) (s : ByteArray) (id : Int) (hs : s.size ≤ 1048576) (hz : (Lit.int .i64 id).wf = true) (hsz : sz ≤ 50000000) (hl : st.1.length ≤ 100000000) (hgn : gn ≤ 100000000) :
    Calls Tryz.prog 10 #[.pointer (some ⟨hb, 0, none⟩), .string s, .int .i64 id] W fun e w' => e = .returned (.bool (joinA st s id).1) ∧ Pair w0 u0 W1 A w' hb (joinA st s id).2 L (sz + s.size + 2) (gn + 1) kn rb st2 L2 nilV [] vQ oQ := by
  obtain ⟨P, Q, h1, h2, h3, h4, h5, h6⟩ := h.ex
  refine (hs_join h1 h.bw hT s id hs hz hsz hl hgn).mono ?_
  rintro e w' ⟨rfl, hd⟩
  exact ⟨rfl, h.hub h1.owns h2 h3 h4 h6 hd (IRow.nil _ _)⟩
theorem pair_leave (h : Pair w0 u0 W1 A W hb st L sz gn kn rb st2 L2 vP oP vQ oQ) (hT : Tabs w0) (s : ByteArray) (id : Int) (hs : s.size ≤ 1048576) (hz : (Lit.int .i64 id).wf = true) (hsz : sz ≤ 100000000) (hl : st.1.length ≤ 100000000) :
    Calls Tryz.prog 20 #[.pointer (some ⟨hb, 0, none⟩), .string s, .int .i64 id] W fun e w' => e = .returned (.bool (leaveA st s id).1) ∧ Pair w0 u0 W1 A w' hb (leaveA st s id).2 L sz gn kn rb st2 L2 nilV [] vQ oQ := by
  obtain ⟨P, Q, h1, h2, h3, h4, h5, h6⟩ := h.ex
  refine (hs_leave h1 h.bw hT s id hs hz hsz hl).mono ?_
  rintro e w' ⟨rfl, hd⟩
  exact ⟨rfl, h.hub h1.owns h2 h3 h4 h6 hd (IRow.nil _ _)⟩
theorem pair_send (h : Pair w0 u0 W1 A W hb st L sz gn kn rb st2 L2 vP oP vQ oQ) (hT : Tabs w0) (s : ByteArray) (hs : s.size ≤ 1048576) (hwf : ∀ x ∈ st.1, (Lit.int .i64 x.2).wf = true) (hsz : sz ≤ 100000000) (hl : st.1.length ≤ 100000000) (hg : st.2.length ≤ 100000000) :
    Calls Tryz.prog 11 #[.pointer (some ⟨hb, 0, none⟩), .string s] W fun e w' => ∃ v ids0 out st', e = .returned v ∧ SendA st s ids0 out st' ∧ Pair w0 u0 W1 A w' hb st' L sz gn kn rb st2 L2 v out vQ oQ := by
  obtain ⟨P, Q, h1, h2, h3, h4, h5, h6⟩ := h.ex
  refine (hs_send h1 h.bw hT s hs hwf hsz hl hg).mono ?_
  rintro e w' ⟨v, ids0, out, st', rfl, k1, k2, hd⟩
  exact ⟨v, ids0, out, st', rfl, k2, h.hub h1.owns h2 h3 h4 h6 hd k1⟩
theorem pair_rjoin (h : Pair w0 u0 W1 A W hb st L sz gn kn rb st2 L2 vP oP vQ oQ) (hT : Tabs u0) (hG : GoodSt st2) (s : ByteArray) (id : Int) (hs : s.size ≤ 1048576) (hl : st2.1.length ≤ 100000000) (hg : st2.2.length ≤ 100000000) :
    Calls Tryz.prog 47 #[.pointer (some ⟨rb, 0, none⟩), .string s, .int .i64 id] W fun e w' => e = .returned (.bool (joinA st2 s id).1) ∧ Pair w0 u0 W1 A w' hb st L sz gn kn rb (joinA st2 s id).2 L2 vP oP nilV [] := by
  obtain ⟨P, Q, h1, h2, h3, h4, h5, h6⟩ := h.ex
  refine (refJoin_any u0 W Q rb st2 L2 s id h2 hG h.bu hT hs hl hg).mono ?_
  rintro e w' ⟨rfl, hd⟩
  exact ⟨rfl, h.ref h1 h2.owns h3 h4 h5 hd (IRow.nil _ _)⟩
theorem pair_rleave (h : Pair w0 u0 W1 A W hb st L sz gn kn rb st2 L2 vP oP vQ oQ) (hT : Tabs u0) (hG : GoodSt st2) (s : ByteArray) (id : Int) (hs : s.size ≤ 1048576) (hl : st2.1.length ≤ 100000000) (hg : st2.2.length ≤ 100000000) :
    Calls Tryz.prog 48 #[.pointer (some ⟨rb, 0, none⟩), .string s, .int .i64 id] W fun e w' => e = .returned (.bool (leaveA st2 s id).1) ∧ Pair w0 u0 W1 A w' hb st L sz gn kn rb (leaveA st2 s id).2 L2 vP oP nilV [] := by
  obtain ⟨P, Q, h1, h2, h3, h4, h5, h6⟩ := h.ex
  refine (refLeave_any u0 W Q rb st2 L2 s id h2 hG h.bu hT hs hl hg).mono ?_
  rintro e w' ⟨rfl, hd⟩
  exact ⟨rfl, h.ref h1 h2.owns h3 h4 h5 hd (IRow.nil _ _)⟩
theorem pair_rsend (h : Pair w0 u0 W1 A W hb st L sz gn kn rb st2 L2 vP oP vQ oQ) (hT : Tabs u0) (hG : GoodSt st2) (s : ByteArray) (hs : s.size ≤ 1048576) (hl : st2.1.length ≤ 100000000) (hg : st2.2.length ≤ 100000000) :
    Calls Tryz.prog 49 #[.pointer (some ⟨rb, 0, none⟩), .string s] W fun e w' => ∃ v ids0 out st', e = .returned v ∧ SendA st2 s ids0 out st' ∧ Pair w0 u0 W1 A w' hb st L sz gn kn rb st' L2 vP oP v out := by
  obtain ⟨P, Q, h1, h2, h3, h4, h5, h6⟩ := h.ex
  refine (refSend_any u0 W Q rb st2 L2 s h2 hG h.bu hT hs hl hg).mono ?_
  rintro e w' ⟨v, ids0, out, st', rfl, k1, k2, hd⟩
  exact ⟨v, ids0, out, st', rfl, k2, h.ref h1 h2.owns h3 h4 h5 hd k1⟩
end
end
section
open Go Go.RowKit
attribute [local go_sem ↓] Go.wp_at_zero Go.wp_at_succ

section
variable {w0 u0 W1 W W' WB : World} {A A' : Nat → Prop} {hb sz gn kn rb : Nat} {st st2 : HSt} {L L2 : List AM} {vP vQ : Value} {oP oQ : List Int}
theorem Pair.rebase (h : Pair w0 u0 W1 A W hb st L sz gn kn rb st2 L2 vP oP vQ oQ) (hb2 : Below W.heap.size W WB) : ∃ A', (∀ b, A' b → b < W.heap.size ∧ (A b ∨ W1.heap.size ≤ b)) ∧ Pair w0 u0 WB A' WB hb st L sz gn kn rb st2 L2 vP oP vQ oQ := by
  have hB := h.below hb2
  obtain ⟨P, Q, h1, h2, h3, h4, h5, h6⟩ := h.ex
  refine ⟨fun b => P b ∨ Q b, fun b hb => ⟨hb.elim (h1.owns.hi b) (h2.owns.hi b), (h4 b hb).1⟩, ⟨P, Q, h1.below hb2, h2.below hb2, h3, fun b hb => ⟨.inl hb, (h4 b hb).2⟩, h5, h6⟩, hB.rP, hB.rQ, Frame.of_below (Below.refl _ _), hB.bw, hB.bu⟩
theorem Pair.back (h0 : Frame A W1 W) (hb2 : Below W.heap.size W WB) (hA : ∀ b, A' b → b < W.heap.size ∧ (A b ∨ W1.heap.size ≤ b)) (h : Pair w0 u0 WB A' W' hb st L sz gn kn rb st2 L2 vP oP vQ oQ) : Pair w0 u0 W1 A W' hb st L sz gn kn rb st2 L2 vP oP vQ oQ := by
  have hs := hb2.size
  have hs0 := h0.size
  obtain ⟨P, Q, h1, h2, h3, h4, h5, h6⟩ := h.ex
  refine ⟨⟨P, Q, h1, h2, h3, fun b hb => ⟨?_, (h4 b hb).2⟩, h5, h6⟩, h.rP, h.rQ, Frame.trans (Frame.trans h0 ((Frame.of_below (F := fun _ => False) hb2).mono fun _ e => e.elim)) (h.fr.mono fun b hb => (hA b hb).2), h.bw, h.bu⟩
  rcases (h4 b hb).1 with h7 | h7
  · exact (hA b h7).2
  · exact .inr (by omega)
end
/-- both, whatever they have answered last -/
def Both (w0 u0 W1 : World) (A : Nat → Prop) (W : World) (hb : Nat) (st : HSt) (L : List AM) (sz gn kn : Nat) (rb : Nat) (st2 : HSt) (L2 : List AM) : Prop := ∃ vP oP vQ oQ, Pair w0 u0 W1 A W hb st L sz gn kn rb st2 L2 vP oP vQ oQ
set_option maxRecDepth 100000 in
set_option maxHeartbeats 8000000 in
theorem act_join (w0 u0 W1 : World) (A : Nat → Prop) (W : World) (hb : Nat) (st : HSt) (L : List AM) (sz gn kn : Nat) (rb : Nat) (st2 : HSt) (L2 : List AM) (s : ByteArray) (id : Int) (m : Mg) (h : Both w0 u0 W1 A W hb st L sz gn kn rb st2 L2) (hT0 : Tabs w0) (hU0 : Tabs u0) (hG : GoodSt st2) (hs : s.size ≤ 1048576) (hz : (Lit.int .i64 id).wf = true) (hwf : ∀ x ∈ st.1, (Lit.int .i64 x.2).wf = true) (hsz : sz ≤ 50000000) (hl : st.1.length ≤ 100000000) (hgn : gn ≤ 100000000) (hr1 : st2.1.length ≤ 100000000) (hr2 : st2.2.length ≤ 100000000) :
    Calls Tryz.prog 19 #[.pointer (some ⟨hb, 0, none⟩), .pointer (some ⟨rb, 0, none⟩), .agg #[.int .i64 1, .string s, .int .i64 id, .int .i64 m.id, .string m.tp, .int .i64 m.kd, .int .i64 m.di, .int .u64 m.db, .string m.ds, .slice m.q m.n m.c, .int .i64 m.at_, .int .i64 m.un, .string m.rp, .int .i64 m.co, .int .i64 m.pr, .int .i64 m.ho]] W fun e w' => e = .returned (.bool ((joinA st s id).1 == (joinA st2 s id).1)) ∧ Both w0 u0 W1 A w' hb (joinA st s id).2 L (sz + s.size + 2) (gn + 1) kn rb (joinA st2 s id).2 L2 := by
  obtain ⟨PP, hPP⟩ : ∃ PP : Ending → World → Prop, (fun e w' => e = .returned (.bool ((joinA st s id).1 == (joinA st2 s id).1)) ∧ Both w0 u0 W1 A w' hb (joinA st s id).2 L (sz + s.size + 2) (gn + 1) kn rb (joinA st2 s id).2 L2) = PP := ⟨_, rfl⟩
  rw [hPP]
  have HPP := Lib.hid hPP
  obtain ⟨vP0, oP0, vQ0, oQ0, h⟩ := h
  obtain ⟨WB, hWB⟩ : ∃ WB, W.alloc (.cells #[.int .i64 1, .string s, .int .i64 id, .int .i64 m.id, .string m.tp, .int .i64 m.kd, .int .i64 m.di, .int .u64 m.db, .string m.ds, .slice m.q m.n m.c, .int .i64 m.at_, .int .i64 m.un, .string m.rp, .int .i64 m.co, .int .i64 m.pr, .int .i64 m.ho] 53) = WB := ⟨_, rfl⟩
  have hbx : WB.heap[W.heap.size]? = some (.cells #[.int .i64 1, .string s, .int .i64 id, .int .i64 m.id, .string m.tp, .int .i64 m.kd, .int .i64 m.di, .int .u64 m.db, .string m.ds, .slice m.q m.n m.c, .int .i64 m.at_, .int .i64 m.un, .string m.rp, .int .i64 m.co, .int .i64 m.pr, .int .i64 m.ho] 53 (0, 0)) := by rw [← hWB]; exact heap_alloc_new W _
  have hBB : Below W.heap.size W WB := by rw [← hWB]; exact (Below.refl _ _).alloc (Nat.le_refl _) _
  have hWBs : WB.heap.size = W.heap.size + 1 := by rw [← hWB]; simp
  obtain ⟨A', hA', hP⟩ := h.rebase hBB
  have HP := Lib.hid hP
  have HFR := Lib.hid h.fr
  have HBB := Lib.hid hBB
  have HA' := Lib.hid hA'
  have HT0 := Lib.hid hT0
  have HU0 := Lib.hid hU0
  have HGD := Lib.hid hG
  have hbl : W.heap.size < WB.heap.size := by omega
  obtain ⟨b0, hb0⟩ : ∃ b0, W.heap.size = b0 := ⟨_, rfl⟩
  have c0 : WB.cell? ⟨b0, 0, none⟩ = some (.int .i64 1) := by rw [← hb0, cell_of_row WB _ 0 _ _ _ hbx]; rfl
  have c1 : WB.cell? ⟨b0, 1, none⟩ = some (.string s) := by rw [← hb0, cell_of_row WB _ 1 _ _ _ hbx]; rfl
  have c2 : WB.cell? ⟨b0, 2, none⟩ = some (.int .i64 id) := by rw [← hb0, cell_of_row WB _ 2 _ _ _ hbx]; rfl
  have HKS : Hid (∀ W', Frame A' WB W' → W'.cell? ⟨b0, 1, none⟩ = some (.string s) ∧ W'.cell? ⟨b0, 2, none⟩ = some (.int .i64 id)) := fun W' hf => by
    have e := hf.block b0 (by omega) fun e => by have := (hA' b0 e).1; omega
    exact ⟨cell_of_heap e c1, cell_of_heap e c2⟩
  rw [hb0] at hbl
  have HWB := Lib.hid hWB
  clear hPP hP h hBB hA' hT0 hU0 hG hbx hWBs hWB
  have HZ := Lib.hid hz
  have HWF := Lib.hid hwf
  clear hz hwf
  go_enter Tryz.func19, Tryz.ntmps19
  go_wp2_with fail
  rw [HWB.out]
  go_region_held3 (fun W' => W'.cell? ⟨b0, 1, none⟩ = some (.string s) ∧ W'.cell? ⟨b0, 2, none⟩ = some (.int .i64 id)) (first | exact HKS.out _ HP.out.fr | exact HKS.out _ (HP.out.below (Below.refl _ _).drew).fr | exact HKS.out _ HP1.out.fr | exact HKS.out _ HP2.out.fr | exact HKS.out _ HPr.out.fr) (first
    | (go_at_call 10; (with_reducible refine (pair_join (HP.out.below (Below.refl _ _).drew) HT0.out s id hs HZ.out hsz hl hgn).mono ?_); rintro e wh ⟨rfl, hh⟩; have HP1 := Lib.hid hh; clear hh)
    | (go_at_call 10; (with_reducible refine (pair_join HPr.out HT0.out s id hs HZ.out hsz hl hgn).mono ?_); rintro e wh ⟨rfl, hh⟩; have HP2 := Lib.hid hh; clear hh)
    | (go_at_call 47; (with_reducible refine (pair_rjoin (HP.out.below (Below.refl _ _).drew) HU0.out HGD.out s id hs hr1 hr2).mono ?_); rintro e wh ⟨rfl, hh⟩; have HPr := Lib.hid hh; clear hh)
    | (go_at_call 47; (with_reducible refine (pair_rjoin HP1.out HU0.out HGD.out s id hs hr1 hr2).mono ?_); rintro e wh ⟨rfl, hh⟩; have HP2 := Lib.hid hh; clear hh))
  all_goals
    go_simp
    go_wp2_with fail
    rw [← HPP.out]
    exact ⟨rfl, _, _, _, _, Pair.back HFR.out HBB.out HA'.out HP2.out⟩
set_option maxRecDepth 100000 in
set_option maxHeartbeats 8000000 in
theorem act_leave (w0 u0 W1 : World) (A : Nat → Prop) (W : World) (hb : Nat) (st : HSt) (L : List AM) (sz gn kn : Nat) (rb : Nat) (st2 : HSt) (L2 : List AM) (s : ByteArray) (id : Int) (m : Mg) (h : Both w0 u0 W1 A W hb st L sz gn kn rb st2 L2) (hT0 : Tabs w0) (hU0 : Tabs u0) (hG : GoodSt st2) (hs : s.size ≤ 1048576) (hz : (Lit.int .i64 id).wf = true) (hwf : ∀ x ∈ st.1, (Lit.int .i64 x.2).wf = true) (hsz : sz ≤ 50000000) (hl : st.1.length ≤ 100000000) (hr1 : st2.1.length ≤ 100000000) (hr2 : st2.2.length ≤ 100000000) :
    Calls Tryz.prog 19 #[.pointer (some ⟨hb, 0, none⟩), .pointer (some ⟨rb, 0, none⟩), .agg #[.int .i64 2, .string s, .int .i64 id, .int .i64 m.id, .string m.tp, .int .i64 m.kd, .int .i64 m.di, .int .u64 m.db, .string m.ds, .slice m.q m.n m.c, .int .i64 m.at_, .int .i64 m.un, .string m.rp, .int .i64 m.co, .int .i64 m.pr, .int .i64 m.ho]] W fun e w' => e = .returned (.bool ((leaveA st s id).1 == (leaveA st2 s id).1)) ∧ Both w0 u0 W1 A w' hb (leaveA st s id).2 L sz gn kn rb (leaveA st2 s id).2 L2 := by
  obtain ⟨PP, hPP⟩ : ∃ PP : Ending → World → Prop, (fun e w' => e = .returned (.bool ((leaveA st s id).1 == (leaveA st2 s id).1)) ∧ Both w0 u0 W1 A w' hb (leaveA st s id).2 L sz gn kn rb (leaveA st2 s id).2 L2) = PP := ⟨_, rfl⟩
  rw [hPP]
  have HPP := Lib.hid hPP
  obtain ⟨vP0, oP0, vQ0, oQ0, h⟩ := h
  obtain ⟨WB, hWB⟩ : ∃ WB, W.alloc (.cells #[.int .i64 2, .string s, .int .i64 id, .int .i64 m.id, .string m.tp, .int .i64 m.kd, .int .i64 m.di, .int .u64 m.db, .string m.ds, .slice m.q m.n m.c, .int .i64 m.at_, .int .i64 m.un, .string m.rp, .int .i64 m.co, .int .i64 m.pr, .int .i64 m.ho] 53) = WB := ⟨_, rfl⟩
  have hbx : WB.heap[W.heap.size]? = some (.cells #[.int .i64 2, .string s, .int .i64 id, .int .i64 m.id, .string m.tp, .int .i64 m.kd, .int .i64 m.di, .int .u64 m.db, .string m.ds, .slice m.q m.n m.c, .int .i64 m.at_, .int .i64 m.un, .string m.rp, .int .i64 m.co, .int .i64 m.pr, .int .i64 m.ho] 53 (0, 0)) := by rw [← hWB]; exact heap_alloc_new W _
  have hBB : Below W.heap.size W WB := by rw [← hWB]; exact (Below.refl _ _).alloc (Nat.le_refl _) _
  have hWBs : WB.heap.size = W.heap.size + 1 := by rw [← hWB]; simp
  obtain ⟨A', hA', hP⟩ := h.rebase hBB
  have HP := Lib.hid hP
  have HFR := Lib.hid h.fr
  have HBB := Lib.hid hBB
  have HA' := Lib.hid hA'
  have HT0 := Lib.hid hT0
  have HU0 := Lib.hid hU0
  have HGD := Lib.hid hG
  have hbl : W.heap.size < WB.heap.size := by omega
  obtain ⟨b0, hb0⟩ : ∃ b0, W.heap.size = b0 := ⟨_, rfl⟩
  have c0 : WB.cell? ⟨b0, 0, none⟩ = some (.int .i64 2) := by rw [← hb0, cell_of_row WB _ 0 _ _ _ hbx]; rfl
  have c1 : WB.cell? ⟨b0, 1, none⟩ = some (.string s) := by rw [← hb0, cell_of_row WB _ 1 _ _ _ hbx]; rfl
  have c2 : WB.cell? ⟨b0, 2, none⟩ = some (.int .i64 id) := by rw [← hb0, cell_of_row WB _ 2 _ _ _ hbx]; rfl
  have HKS : Hid (∀ W', Frame A' WB W' → W'.cell? ⟨b0, 1, none⟩ = some (.string s) ∧ W'.cell? ⟨b0, 2, none⟩ = some (.int .i64 id)) := fun W' hf => by
    have e := hf.block b0 (by omega) fun e => by have := (hA' b0 e).1; omega
    exact ⟨cell_of_heap e c1, cell_of_heap e c2⟩
  rw [hb0] at hbl
  have HWB := Lib.hid hWB
  clear hPP hP h hBB hA' hT0 hU0 hG hbx hWBs hWB
  have HZ := Lib.hid hz
  have HWF := Lib.hid hwf
  clear hz hwf
  go_enter Tryz.func19, Tryz.ntmps19
  go_wp2_with fail
  rw [HWB.out]
  go_region_held3 (fun W' => W'.cell? ⟨b0, 1, none⟩ = some (.string s) ∧ W'.cell? ⟨b0, 2, none⟩ = some (.int .i64 id)) (first | exact HKS.out _ HP.out.fr | exact HKS.out _ (HP.out.below (Below.refl _ _).drew).fr | exact HKS.out _ HP1.out.fr | exact HKS.out _ HP2.out.fr | exact HKS.out _ HPr.out.fr) (first
    | (go_at_call 20; (with_reducible refine (pair_leave (HP.out.below (Below.refl _ _).drew) HT0.out s id hs HZ.out (by omega) hl).mono ?_); rintro e wh ⟨rfl, hh⟩; have HP1 := Lib.hid hh; clear hh)
    | (go_at_call 20; (with_reducible refine (pair_leave HPr.out HT0.out s id hs HZ.out (by omega) hl).mono ?_); rintro e wh ⟨rfl, hh⟩; have HP2 := Lib.hid hh; clear hh)
    | (go_at_call 48; (with_reducible refine (pair_rleave (HP.out.below (Below.refl _ _).drew) HU0.out HGD.out s id hs hr1 hr2).mono ?_); rintro e wh ⟨rfl, hh⟩; have HPr := Lib.hid hh; clear hh)
    | (go_at_call 48; (with_reducible refine (pair_rleave HP1.out HU0.out HGD.out s id hs hr1 hr2).mono ?_); rintro e wh ⟨rfl, hh⟩; have HP2 := Lib.hid hh; clear hh))
  all_goals
    go_simp
    go_wp2_with fail
    rw [← HPP.out]
    exact ⟨rfl, _, _, _, _, Pair.back HFR.out HBB.out HA'.out HP2.out⟩
set_option maxRecDepth 100000 in
set_option maxHeartbeats 8000000 in
theorem act_send (w0 u0 W1 : World) (A : Nat → Prop) (W : World) (hb : Nat) (st : HSt) (L : List AM) (sz gn kn : Nat) (rb : Nat) (st2 : HSt) (L2 : List AM) (s : ByteArray) (id : Int) (m : Mg) (h : Both w0 u0 W1 A W hb st L sz gn kn rb st2 L2) (hT0 : Tabs w0) (hU0 : Tabs u0) (hG : GoodSt st2) (hs : s.size ≤ 1048576) (hz : (Lit.int .i64 id).wf = true) (hwf : ∀ x ∈ st.1, (Lit.int .i64 x.2).wf = true) (hsz : sz ≤ 50000000) (hl : st.1.length ≤ 100000000) (hl2 : st.2.length ≤ 100000000) (hr1 : st2.1.length ≤ 100000000) (hr2 : st2.2.length ≤ 100000000) :
    Calls Tryz.prog 19 #[.pointer (some ⟨hb, 0, none⟩), .pointer (some ⟨rb, 0, none⟩), .agg #[.int .i64 3, .string s, .int .i64 id, .int .i64 m.id, .string m.tp, .int .i64 m.kd, .int .i64 m.di, .int .u64 m.db, .string m.ds, .slice m.q m.n m.c, .int .i64 m.at_, .int .i64 m.un, .string m.rp, .int .i64 m.co, .int .i64 m.pr, .int .i64 m.ho]] W fun e w' => ∃ ids0 out st' ids2 out2 st2', e = .returned (.bool (decide (out = out2))) ∧ SendA st s ids0 out st' ∧ SendA st2 s ids2 out2 st2' ∧ Both w0 u0 W1 A w' hb st' L sz gn kn rb st2' L2 := by
  obtain ⟨PP, hPP⟩ : ∃ PP : Ending → World → Prop, (fun e w' => ∃ ids0 out st' ids2 out2 st2', e = .returned (.bool (decide (out = out2))) ∧ SendA st s ids0 out st' ∧ SendA st2 s ids2 out2 st2' ∧ Both w0 u0 W1 A w' hb st' L sz gn kn rb st2' L2) = PP := ⟨_, rfl⟩
  rw [hPP]
  have HPP := Lib.hid hPP
  obtain ⟨vP0, oP0, vQ0, oQ0, h⟩ := h
  obtain ⟨WB, hWB⟩ : ∃ WB, W.alloc (.cells #[.int .i64 3, .string s, .int .i64 id, .int .i64 m.id, .string m.tp, .int .i64 m.kd, .int .i64 m.di, .int .u64 m.db, .string m.ds, .slice m.q m.n m.c, .int .i64 m.at_, .int .i64 m.un, .string m.rp, .int .i64 m.co, .int .i64 m.pr, .int .i64 m.ho] 53) = WB := ⟨_, rfl⟩
  have hbx : WB.heap[W.heap.size]? = some (.cells #[.int .i64 3, .string s, .int .i64 id, .int .i64 m.id, .string m.tp, .int .i64 m.kd, .int .i64 m.di, .int .u64 m.db, .string m.ds, .slice m.q m.n m.c, .int .i64 m.at_, .int .i64 m.un, .string m.rp, .int .i64 m.co, .int .i64 m.pr, .int .i64 m.ho] 53 (0, 0)) := by rw [← hWB]; exact heap_alloc_new W _
  have hBB : Below W.heap.size W WB := by rw [← hWB]; exact (Below.refl _ _).alloc (Nat.le_refl _) _
  have hWBs : WB.heap.size = W.heap.size + 1 := by rw [← hWB]; simp
  obtain ⟨A', hA', hP⟩ := h.rebase hBB
  have HP := Lib.hid hP
  have HFR := Lib.hid h.fr
  have HBB := Lib.hid hBB
  have HA' := Lib.hid hA'
  have HT0 := Lib.hid hT0
  have HU0 := Lib.hid hU0
  have HGD := Lib.hid hG
  have hbl : W.heap.size < WB.heap.size := by omega
  obtain ⟨b0, hb0⟩ : ∃ b0, W.heap.size = b0 := ⟨_, rfl⟩
  have c0 : WB.cell? ⟨b0, 0, none⟩ = some (.int .i64 3) := by rw [← hb0, cell_of_row WB _ 0 _ _ _ hbx]; rfl
  have c1 : WB.cell? ⟨b0, 1, none⟩ = some (.string s) := by rw [← hb0, cell_of_row WB _ 1 _ _ _ hbx]; rfl
  have c2 : WB.cell? ⟨b0, 2, none⟩ = some (.int .i64 id) := by rw [← hb0, cell_of_row WB _ 2 _ _ _ hbx]; rfl
  have HKS : Hid (∀ W', Frame A' WB W' → W'.cell? ⟨b0, 1, none⟩ = some (.string s) ∧ W'.cell? ⟨b0, 2, none⟩ = some (.int .i64 id)) := fun W' hf => by
    have e := hf.block b0 (by omega) fun e => by have := (hA' b0 e).1; omega
    exact ⟨cell_of_heap e c1, cell_of_heap e c2⟩
  rw [hb0] at hbl
  have HWB := Lib.hid hWB
  clear hPP hP h hBB hA' hT0 hU0 hG hbx hWBs hWB
  have HZ := Lib.hid hz
  have HWF := Lib.hid hwf
  clear hz hwf
  go_enter Tryz.func19, Tryz.ntmps19
  go_wp2_with fail
  rw [HWB.out]
  go_region_held3 (fun W' => W'.cell? ⟨b0, 1, none⟩ = some (.string s) ∧ W'.cell? ⟨b0, 2, none⟩ = some (.int .i64 id)) (first | exact HKS.out _ HP.out.fr | exact HKS.out _ (HP.out.below (Below.refl _ _).drew).fr | exact HKS.out _ HP1.out.fr | exact HKS.out _ HP2.out.fr | exact HKS.out _ HPr.out.fr | exact HKS.out _ HP3.out.fr) (first
    | (go_at_call 11; (with_reducible refine (pair_send (HP.out.below (Below.refl _ _).drew) HT0.out s hs HWF.out (by omega) hl hl2).mono ?_); rintro e wh ⟨v, ids0, out, st', rfl, hs1, hh⟩; have HP1 := Lib.hid hh; have HS1 := Lib.hid hs1; clear hh hs1)
    | (go_at_call 11; (with_reducible refine (pair_send HPr.out HT0.out s hs HWF.out (by omega) hl hl2).mono ?_); rintro e wh ⟨v, ids0, out, st', rfl, hs1, hh⟩; have HP2 := Lib.hid hh; have HS1 := Lib.hid hs1; clear hh hs1)
    | (go_at_call 49; (with_reducible refine (pair_rsend (HP.out.below (Below.refl _ _).drew) HU0.out HGD.out s hs hr1 hr2).mono ?_); rintro e wh ⟨v2, ids2, out2, st2', rfl, hs1, hh⟩; have HPr := Lib.hid hh; have HS2 := Lib.hid hs1; clear hh hs1)
    | (go_at_call 49; (with_reducible refine (pair_rsend HP1.out HU0.out HGD.out s hs hr1 hr2).mono ?_); rintro e wh ⟨v2, ids2, out2, st2', rfl, hs1, hh⟩; have HP2 := Lib.hid hh; have HS2 := Lib.hid hs1; clear hh hs1)
    | (go_at_call 21; (with_reducible refine (same_any _ _ _ _ _ HP2.out.rP.is HP2.out.rQ.is).mono ?_); rintro e wh ⟨rfl, hbS⟩; have HP3 := Lib.hid (HP2.out.below hbS); clear hbS))
  all_goals
    go_simp
    go_wp2_with fail
    rw [← HPP.out]
    exact ⟨_, _, _, _, _, _, rfl, HS1.out, HS2.out, _, _, _, _, Pair.back HFR.out HBB.out HA'.out HP3.out⟩
end
section
open Go Go.RowKit

/-- sizes, for the bounds -/
structure Fits (st : HSt) (n : Nat) : Prop where
  subs : st.1.length ≤ n
  grps : st.2.length ≤ n
  wf : ∀ x ∈ st.1, (Lit.int .i64 x.2).wf = true
theorem Fits.more {st : HSt} {n m : Nat} (h : Fits st n) (hm : n ≤ m) : Fits st m := ⟨Nat.le_trans h.subs hm, Nat.le_trans h.grps hm, h.wf⟩
theorem fits_join {st : HSt} {n : Nat} (h : Fits st n) (s : ByteArray) {id : Int} (hz : (Lit.int .i64 id).wf = true) : Fits (joinA st s id).2 (n + 1) := by
  unfold joinA
  split
  · exact h.more (Nat.le_succ n)
  · rename_i x _
    split
    · refine ⟨?_, Nat.le_trans h.grps (Nat.le_succ n), fun y hy => ?_⟩
      · show (addS st.1 x.2 id).length ≤ n + 1
        unfold addS
        split
        · rw [List.length_append]; exact Nat.add_le_add_right h.subs 1
        · exact Nat.le_trans h.subs (Nat.le_succ n)
      · have hy : y ∈ addS st.1 x.2 id := hy
        unfold addS at hy
        split at hy
        · rcases List.mem_append.1 hy with h1 | h1
          · exact h.wf y h1
          · rw [List.mem_singleton] at h1; subst h1; exact hz
        · exact h.wf y hy
    · split
      · refine ⟨Nat.le_trans h.subs (Nat.le_succ n), ?_, h.wf⟩
        show (st.2 ++ [_]).length ≤ n + 1
        rw [List.length_append]
        exact Nat.add_le_add_right h.grps 1
      · split
        · refine ⟨Nat.le_trans h.subs (Nat.le_succ n), ?_, h.wf⟩
          show (setA st.2 s _).length ≤ n + 1
          unfold setA
          rw [List.length_map]
          exact Nat.le_trans h.grps (Nat.le_succ n)
        · exact h.more (Nat.le_succ n)
theorem fits_leave {st : HSt} {n : Nat} (h : Fits st n) (s : ByteArray) (id : Int) : Fits (leaveA st s id).2 n := by
  unfold leaveA
  split
  · exact h
  · rename_i x _
    split
    · refine ⟨?_, h.grps, fun y hy => ?_⟩
      · exact Nat.le_trans (List.length_filter_le ..) h.subs
      · exact h.wf y (List.mem_filter.1 hy).1
    · split
      · exact h
      · split
        · split
          · exact ⟨h.subs, Nat.le_trans (List.length_filter_le ..) h.grps, h.wf⟩
          · refine ⟨h.subs, ?_, h.wf⟩
            show (setA st.2 s _).length ≤ n
            unfold setA
            rw [List.length_map]
            exact h.grps
        · exact h
theorem fold_kf {s : ByteArray} : ∀ (K : List ByteArray) (r : List AG × List Int), (r.1.map (·.key)).Nodup → (K.foldl (sendOne s) r).1.map kf = r.1.map kf
  | [], _, _ => rfl
  | k :: K, r, h => by
    have h1 := sendOne_kf (s := s) (k := k) h
    exact (fold_kf K _ (by rw [kf_key h1]; exact h)).trans h1
theorem fits_send {st st' : HSt} {n : Nat} {s : ByteArray} {i o : List Int} (h : Fits st n) (hn : (st.2.map (·.key)).Nodup) (hs : SendA st s i o st') : Fits st' n := by
  refine ⟨by rw [hs.subs]; exact h.subs, ?_, by rw [hs.subs]; exact h.wf⟩
  have e := congrArg Prod.fst hs.eq
  have e : st'.2 = _ := e
  have hl : st'.2.map kf = st.2.map kf := by
    rw [e]
    split
    · exact fold_kf _ _ hn
    · rfl
  have := congrArg List.length hl
  rw [List.length_map, List.length_map] at this
  rw [this]
  exact h.grps
theorem good_nil : GoodSt ([], []) := ⟨List.nodup_nil, fun a h => (by cases h), fun a h => (by cases h), List.nodup_nil⟩
theorem good_join0 (s : ByteArray) (id : Int) (hs : s.size ≤ 1048576) : GoodSt (joinA ([], []) s id).2 := by
  unfold joinA
  split
  · exact good_nil
  · rename_i x hx
    split
    · refine ⟨List.nodup_nil, fun a h => (by cases h), fun y hy => ?_, ?_⟩
      · have hy : y ∈ addS [] x.2 id := hy
        unfold addS at hy
        split at hy
        · rename_i h1
          rw [List.nil_append, List.mem_singleton] at hy
          subst hy
          exact h1.1
        · cases hy
      · show (addS [] x.2 id).Nodup
        unfold addS
        split
        · exact List.nodup_cons.2 ⟨by simp, List.nodup_nil⟩
        · exact List.nodup_nil
    · rename_i hn
      refine ⟨List.nodup_cons.2 ⟨by simp, List.nodup_nil⟩, fun a ha => ?_, fun y hy => (by cases hy), List.nodup_nil⟩
      have ha : a ∈ ([] : List AG) ++ [⟨s, x.2, [id], 0⟩] := ha
      rw [List.nil_append, List.mem_singleton] at ha
      subst ha
      exact ⟨by simp, by simp, by simp, List.nodup_cons.2 ⟨by simp, List.nodup_nil⟩, hs, x.1, hx, fun e => hn (by rw [e]; rfl)⟩
theorem leave0 (s : ByteArray) (id : Int) : (leaveA ([], []) s id).2 = ([], []) := by
  unfold leaveA
  split
  · rfl
  · split
    · rfl
    · rfl
theorem send0 {s : ByteArray} {i o : List Int} {st' : HSt} (h : SendA ([], []) s i o st') : st' = ([], []) := by
  refine Prod.ext h.subs ?_
  have e := congrArg Prod.fst h.eq
  refine (show st'.2 = _ from e).trans ?_
  split
  · have hk : keysA ([] : List AG) = [] := by
      cases hk : keysA ([] : List AG) with
      | nil => rfl
      | cons a l =>
        have : a ∈ keysA ([] : List AG) := by rw [hk]; exact List.mem_cons_self ..
        unfold keysA at this
        rw [mem_sortS] at this
        cases this
    show ((keysA ([] : List AG)).foldl (sendOne s) ([], i)).1 = []
    rw [hk]
    rfl
  · rfl
theorem dec_false {p : Prop} {i : Decidable p} (h : @decide p i = false) : ¬ p := fun hp => by rw [@decide_eq_true p i hp] at h; cases h
theorem dec_true {p : Prop} {i : Decidable p} (h : @decide p i = true) : p := @of_decide_eq_true p i h
theorem join_false {st : HSt} {s : ByteArray} {id : Int} (h : (joinA st s id).1 = false) : (joinA st s id).2 = st := by
  unfold joinA at h ⊢
  split
  · rfl
  · rename_i x hx
    rw [hx] at h
    split
    · rename_i hn
      simp only [hn, if_true] at h
      have h := dec_false h
      refine Prod.ext ?_ rfl
      show addS st.1 x.2 id = st.1
      unfold addS
      exact if_neg h
    · rename_i hn
      simp only [hn, if_false] at h
      split
      · rename_i hf
        rw [hf] at h
        cases h
      · rename_i a hf
        rw [hf] at h
        simp only at h
        split
        · rename_i hc
          rw [if_pos hc] at h
          cases h
        · rfl
theorem addS_back {l : Subs} {f : ByteArray} {z : Int} (h : (f, z) ∉ l) : subS (l ++ [(f, z)]) f z = l := by
  unfold subS
  rw [List.filter_append]
  have e1 : l.filter _ = l := subS_not h
  unfold subS at e1
  rw [e1, List.filter_cons_of_neg (by simp)]
  simp
theorem erase_last {l : List Int} {z : Int} : (l ++ [z]).eraseIdx l.length = l := by
  rw [List.eraseIdx_append_of_length_le (Nat.le_refl _), Nat.sub_self]
  simp
theorem join_leave {st : HSt} {s : ByteArray} {id : Int} (hg : GoodSt st) (h : (joinA st s id).1 = true) : leaveA (joinA st s id).2 s id = (true, st) := by
  cases hk : splitK s with
  | none => unfold joinA at h; rw [hk] at h; cases h
  | some x =>
    obtain ⟨n, f⟩ := x
    by_cases hn : n.size = 0
    · have hj : ∀ ok : Bool, (ok = true ↔ filterB f = true ∧ (f, id) ∉ st.1) → joinA st s id = (ok, addS st.1 f id, st.2) := fun ok hok => by
        unfold joinA
        rw [hk]
        exact (if_pos hn).trans (Prod.ext (dec_of hok) rfl)
      obtain ⟨ok, hok⟩ : ∃ ok : Bool, ok = true ↔ filterB f = true ∧ (f, id) ∉ st.1 := ⟨@decide _ (Classical.propDecidable _), @decide_eq_true_iff _ (Classical.propDecidable _)⟩
      rw [hj ok hok] at h ⊢
      have hc := hok.1 h
      have hl : leaveA (addS st.1 f id, st.2) s id = (true, subS (addS st.1 f id) f id, st.2) := by
        unfold leaveA
        rw [hk]
        refine (if_pos hn).trans (Prod.ext (dec_of ?_) rfl)
        exact ⟨fun _ => by show (f, id) ∈ addS st.1 f id; rw [addS_pos hc.1 hc.2]; exact List.mem_append.2 (.inr (List.mem_singleton.2 rfl)), fun _ => rfl⟩
      rw [hl, addS_pos hc.1 hc.2, addS_back hc.2]
    · cases hf : findA st.2 s with
      | none =>
        have hno : ∀ a ∈ st.2, a.key ≠ s := fun a ha e => by
          unfold findA at hf
          have := List.find?_eq_none.1 hf a ha
          exact this (decide_eq_true (by rw [e]))
        rw [joinA_new hk hn hf]
        have hnd : (((st.1, st.2 ++ [⟨s, f, [id], 0⟩]) : HSt).2.map (·.key)).Nodup := by
          show ((st.2 ++ [(⟨s, f, [id], 0⟩ : AG)]).map (·.key)).Nodup
          rw [List.map_append, List.nodup_append]
          refine ⟨hg.keys, List.nodup_cons.2 ⟨by simp, List.nodup_nil⟩, fun a ha b hb e => ?_⟩
          obtain ⟨c, hc, rfl⟩ := List.mem_map.1 ha
          have hb : b = s := by simpa using hb
          exact hno c hc (e.trans hb)
        have hat : (st.2 ++ [(⟨s, f, [id], 0⟩ : AG)])[st.2.length]? = some ⟨s, f, [id], 0⟩ := by rw [List.getElem?_append_right (Nat.le_refl _), Nat.sub_self]; rfl
        have hfa : findA ((st.1, st.2 ++ [⟨s, f, [id], 0⟩]) : HSt).2 s = some ⟨s, f, [id], 0⟩ := findA_at hnd hat
        refine (leaveA_last (st := (st.1, st.2 ++ [⟨s, f, [id], 0⟩])) hk hn hfa (List.mem_singleton.2 rfl) rfl).trans ?_
        refine congrArg (fun y => (true, st.1, y)) ?_
        refine (delA_at hnd hat).trans ?_
        rw [List.eraseIdx_append_of_length_le (Nat.le_refl _), Nat.sub_self]
        simp
      | some a =>
        obtain ⟨hma, hka⟩ := findA_mem hf
        subst hka
        obtain ⟨g1, g2, g3, g4, -⟩ := hg.each a hma
        by_cases hc : id ∉ a.ids ∧ a.ids.length < 256
        · rw [joinA_in hk hn hf hc.1 hc.2]
          obtain ⟨i, hi, e⟩ := List.mem_iff_getElem.1 hma
          have hia : st.2[i]? = some a := by rw [List.getElem?_eq_getElem hi, e]
          have hset : setA st.2 a.key ⟨a.key, a.fil, a.ids ++ [id], a.tn⟩ = st.2.set i ⟨a.key, a.fil, a.ids ++ [id], a.tn⟩ := setA_at hg.keys hia _
          have hkeys : (((st.1, setA st.2 a.key ⟨a.key, a.fil, a.ids ++ [id], a.tn⟩) : HSt).2.map (·.key)).Nodup := by
            rw [kf_key (setA_kf (a' := ⟨a.key, a.fil, a.ids ++ [id], a.tn⟩) hg.keys hf rfl)]
            exact hg.keys
          have hat : (setA st.2 a.key ⟨a.key, a.fil, a.ids ++ [id], a.tn⟩)[i]? = some ⟨a.key, a.fil, a.ids ++ [id], a.tn⟩ := by rw [hset, List.getElem?_set, if_pos rfl, if_pos hi]
          have hfa : findA ((st.1, setA st.2 a.key ⟨a.key, a.fil, a.ids ++ [id], a.tn⟩) : HSt).2 a.key = some ⟨a.key, a.fil, a.ids ++ [id], a.tn⟩ := findA_at hkeys hat
          have hlen : 0 < a.ids.length := Nat.lt_of_le_of_lt (Nat.zero_le _) g2
          refine (leaveA_one (st := (st.1, setA st.2 a.key ⟨a.key, a.fil, a.ids ++ [id], a.tn⟩)) (a := ⟨a.key, a.fil, a.ids ++ [id], a.tn⟩) hk hn hfa (List.mem_append.2 (.inr (List.mem_singleton.2 rfl))) (by show (a.ids ++ [id]).length ≠ 1; rw [List.length_append]; simp; omega)).trans ?_
          refine congrArg (fun y => (true, st.1, y)) ?_
          have hidx : (a.ids ++ [id]).idxOf id = a.ids.length := idx_nodup (List.nodup_append.2 ⟨g4, List.nodup_cons.2 ⟨by simp, List.nodup_nil⟩, fun x hx y hy e => hc.1 (by rw [List.mem_singleton] at hy; rw [← hy, ← e]; exact hx)⟩) (by rw [List.getElem?_append_right (Nat.le_refl _), Nat.sub_self]; rfl)
          show setA (setA st.2 a.key ⟨a.key, a.fil, a.ids ++ [id], a.tn⟩) a.key ⟨a.key, a.fil, (a.ids ++ [id]).eraseIdx ((a.ids ++ [id]).idxOf id), turnL a.tn ((a.ids ++ [id]).idxOf id) (a.ids ++ [id]).length⟩ = st.2
          rw [hidx, erase_last]
          have ht : turnL a.tn a.ids.length (a.ids ++ [id]).length = a.tn := by
            unfold turnL
            rw [if_neg (by omega), if_neg (by omega)]
          rw [ht]
          have h2 := setA_at hkeys hat ⟨a.key, a.fil, a.ids, a.tn⟩
          refine h2.trans ?_
          rw [hset, List.set_set]
          show st.2.set i a = st.2
          rw [← e]
          exact List.set_getElem_self hi
        · rw [joinA_no hk hn hf (by rcases Decidable.em (id ∈ a.ids) with h1 | h1; exact .inl h1; exact .inr (by have : ¬ (a.ids.length < 256) := fun h2 => hc ⟨h1, h2⟩; omega))] at h
          cases h
end
section
open Go Go.RowKit
attribute [local go_sem ↓] Go.wp_at_zero Go.wp_at_succ

theorem TOf.lower {W : World} {base base' sz t : Nat} {T : List Nd} {l : Subs} (h : TOf W base sz t T l) (hb : base' ≤ base) : TOf W base' sz t T l :=
  ⟨⟨⟨fun x hx => ⟨(h.tri.is.each x hx).box, (h.tri.is.each x hx).map, ownsRow_mono (h.tri.is.each x hx).row hb, Nat.le_trans hb (h.tri.is.each x hx).ba, Nat.le_trans hb (h.tri.is.each x hx).bm⟩, h.tri.is.paths, h.tri.is.blocks, h.tri.is.kids, h.tri.is.par, h.tri.is.root, h.tri.is.rising, h.tri.is.few⟩, h.tri.root, Nat.le_trans hb h.tri.bt, h.tri.free⟩, h.lean, h.at_, h.ok, h.nd⟩
theorem GrpIs.lower {W : World} {base base' : Nat} {g : Grp} (h : GrpIs W base g) (hb : base' ≤ base) : GrpIs W base' g := ⟨h.box, h.mem, h.link, h.len, h.idn, h.bn, h.map, h.sz, h.by_, h.wf, h.few, fun b hbb => Nat.le_trans hb (h.lo b hbb)⟩
theorem HubS.lower {w0 v0 W : World} {P : Nat → Prop} {hb : Nat} {st : HSt} {L : List AM} {sz gn kn : Nat} (h : HubS w0 W P hb st L sz gn kn) (hl : v0.heap.size ≤ w0.heap.size) : HubS v0 W P hb st L sz gn kn := by
  obtain ⟨H, k, KD, KB, ms, a1, a2, a3, a4, a5, a6, a7, a8, a9⟩ := h
  refine ⟨H, k, KD, KB, ms, a1, ⟨⟨a2.hub.box, a2.hub.tri.lower hl, a2.hub.gmap, a2.hub.gby, a2.hub.keys, fun x hx => ⟨(a2.hub.each x hx).1.lower hl, (a2.hub.each x hx).2⟩, a2.hub.hg, a2.hub.sep, a2.hub.sep2, a2.hub.off1, a2.hub.off2, Nat.le_trans hl a2.hub.lo.1, Nat.le_trans hl a2.hub.lo.2⟩, ⟨a2.kept.map, a2.kept.by_, a2.kept.keys, a2.kept.each, fun b hb => ⟨Nat.le_trans hl (a2.kept.kb b hb).1, (a2.kept.kb b hb).2⟩, Nat.le_trans hl a2.kept.lo⟩, a2.off, a2.offB⟩, a3, a4, a5, a6, a7, ⟨fun b hb => Nat.le_trans hl (a8.lo b hb), a8.hi⟩, a9⟩
/-- two hubs, apart -/
structure Duo (w W : World) (hb : Nat) (st : HSt) (gb : Nat) (st2 : HSt) (sz gn : Nat) (vP : Value) (oP : List Int) (vQ : Value) (oQ : List Int) : Prop where
  ex : ∃ P R, HubS w W P hb st [] sz gn 0 ∧ HubS w W R gb st2 [] sz gn 0 ∧ (∀ b, P b → ¬ R b) ∧ (∀ b, vP.ownBlock = some b → P b) ∧ (∀ b, vQ.ownBlock = some b → R b)
  rP : IRow W 0 vP oP
  rQ : IRow W 0 vQ oQ
  bel : Below w.heap.size w W
/-- .. and the reference's hub -/
def Trio (w W : World) (hb : Nat) (st : HSt) (gb : Nat) (st2 : HSt) (rb : Nat) (st3 : HSt) (sz gn : Nat) : Prop := (∃ P R Q, HubS w W P hb st [] sz gn 0 ∧ HubS w W R gb st2 [] sz gn 0 ∧ RefS w W Q rb st3 [] ∧ (∀ b, P b → ¬ R b) ∧ (∀ b, P b → ¬ Q b) ∧ (∀ b, R b → ¬ Q b)) ∧ Below w.heap.size w W
theorem refS_new (w W : World) (hw : w.heap.size ≤ W.heap.size) : RefS w (W.alloc (.cells #[.slice none 0 0, .slice none 0 0, .slice none 0 0] 50)) (fun b => b = W.heap.size) W.heap.size ([], []) [] := by
  refine ⟨.slice none 0 0, .slice none 0 0, .slice none 0 0, [], [], fun _ => False, ⟨heap_alloc_new W _, World.ownsRow_nil _ _ _ _, World.ownsRow_nil _ _ _ _, fun g hg => (by cases hg), fun i j gi gj b hi => (by cases hi), World.ownsRow_nil _ _ _ _, fun m hm => (by cases hm), fun b hb => hb.elim, hw⟩, rfl, rfl, ⟨fun b hb => (by rw [hb]; exact hw), fun b hb => (by rw [hb, World.size_alloc]; exact Nat.lt_succ_self _)⟩, fun b hb => ?_⟩
  rcases hb with (e | e | e | e | ⟨g, hg, -⟩) | e
  · exact e
  · cases e
  · cases e
  · cases e
  · cases hg
  · exact e.elim
section
variable {w W W' : World} {hb gb rb sz gn sz' gn' : Nat} {st st' st2 st2' st3 st3' : HSt} {vP vQ : Value} {oP oQ : List Int}
theorem Duo.below (h : Duo w W hb st gb st2 sz gn vP oP vQ oQ) (hb2 : Below W.heap.size W W') : Duo w W' hb st gb st2 sz gn vP oP vQ oQ := by
  obtain ⟨P, R, h1, h2, h3⟩ := h.ex
  exact ⟨⟨P, R, h1.below hb2, h2.below hb2, h3⟩, irow_below h.rP hb2, irow_below h.rQ hb2, h.bel.trans (hb2.mono h.bel.size)⟩
theorem Duo.more (h : Duo w W hb st gb st2 sz gn vP oP vQ oQ) (h1 : sz ≤ sz') (h2 : gn ≤ gn') : Duo w W hb st gb st2 sz' gn' vP oP vQ oQ := by
  obtain ⟨P, R, k1, k2, k3⟩ := h.ex
  exact ⟨⟨P, R, k1.more h1 h2 (Nat.le_refl _), k2.more h1 h2 (Nat.le_refl _), k3⟩, h.rP, h.rQ, h.bel⟩
theorem Duo.trio (h : Duo w W hb st gb st2 sz gn vP oP vQ oQ) : Trio w (W.alloc (.cells #[.slice none 0 0, .slice none 0 0, .slice none 0 0] 50)) hb st gb st2 W.heap.size ([], []) sz gn := by
  obtain ⟨P, R, h1, h2, h3, -⟩ := h.ex
  have hbA : Below W.heap.size W (W.alloc (.cells #[.slice none 0 0, .slice none 0 0, .slice none 0 0] 50)) := (Below.refl _ _).alloc (Nat.le_refl _) _
  exact ⟨⟨P, R, _, h1.below hbA, h2.below hbA, refS_new w W h.bel.size, h3, fun b hb e => by have := h1.owns.hi b hb; omega, fun b hb e => by have := h2.owns.hi b hb; omega⟩, h.bel.trans (hbA.mono h.bel.size)⟩
theorem Trio.duo (h : Trio w W hb st gb st2 rb st3 sz gn) : Duo w W hb st gb st2 sz gn nilV [] nilV [] := by
  obtain ⟨⟨P, R, Q, h1, h2, h3, h4, -⟩, h5⟩ := h
  exact ⟨⟨P, R, h1, h2, h4, fun b e => absurd e (nilV_own b), fun b e => absurd e (nilV_own b)⟩, nilV_row _, nilV_row _, h5⟩
theorem Trio.swap (h : Trio w W hb st gb st2 rb st3 sz gn) : Trio w W gb st2 hb st rb st3 sz gn := by
  obtain ⟨⟨P, R, Q, h1, h2, h3, h4, h5, h6⟩, h7⟩ := h
  exact ⟨⟨R, P, Q, h2, h1, h3, fun b hb e => h4 b e hb, h6, h5⟩, h7⟩
/-- a call on the first and on the reference's -/
theorem Trio.act (h : Trio w W hb st gb st2 rb st3 sz gn) : ∃ A, Both w w W A W hb st [] sz gn 0 rb st3 [] ∧ ∀ W' st' st3' sz' gn', Both w w W A W' hb st' [] sz' gn' 0 rb st3' [] → sz ≤ sz' → gn ≤ gn' → Trio w W' hb st' gb st2 rb st3' sz' gn' := by
  obtain ⟨⟨P, R, Q, h1, h2, h3, h4, h5, h6⟩, h7⟩ := h
  refine ⟨fun b => P b ∨ Q b, ⟨nilV, [], nilV, [], ⟨P, Q, h1, h3, h5, fun b hb => ⟨.inl hb, hb.elim (h1.owns.lo b) (h3.owns.lo b), hb.elim (h1.owns.lo b) (h3.owns.lo b)⟩, fun b e => absurd e (nilV_own b), fun b e => absurd e (nilV_own b)⟩, nilV_row _, nilV_row _, Frame.of_below (Below.refl _ _), h7, h7⟩, ?_⟩
  intro W' st' st3' sz' gn' hB hs hg
  obtain ⟨vP, oP, vQ, oQ, hP⟩ := hB
  obtain ⟨P', Q', k1, k2, k3, k4, -⟩ := hP.ex
  have hRA : ∀ b, R b → ¬ (P b ∨ Q b) := fun b hb e => e.elim (fun e => h4 b e hb) fun e => h6 b hb e
  have hout : ∀ b, R b → ¬ (P' b ∨ Q' b) := fun b hb e => by
    rcases (k4 b e).1 with h | h
    · exact hRA b hb h
    · have := h2.owns.hi b hb; omega
  exact ⟨⟨P', R, Q', k1, (h2.frame hP.fr fun b hb => hRA b hb).more hs hg (Nat.le_refl _), k2, fun b hb e => hout b e (.inl hb), k3, fun b hb e => hout b hb (.inr e)⟩, hP.bw⟩
/-- a call on the first alone -/
theorem Duo.first {P R : Nat → Prop} {v' : Value} {o' : List Int} (h : Duo w W hb st gb st2 sz gn vP oP vQ oQ) (h1 : Owns w W P) (h2 : HubS w W R gb st2 [] sz gn 0) (h3 : ∀ b, P b → ¬ R b) (h6 : ∀ b, vQ.ownBlock = some b → R b) (hd : HubD w W P hb st' [] sz' gn' 0 W') (hs : sz ≤ sz') (hg : gn ≤ gn') (hv : IRow W' W.heap.size v' o') : Duo w W' hb st' gb st2 sz' gn' v' o' vQ oQ := by
  refine ⟨⟨Grow P W W', R, hd.1, (h2.frame hd.2 fun b hr hp => h3 b hp hr).more hs hg (Nat.le_refl _), fun b hp hr => ?_, fun b hb => .inr (hv.lt b hb), h6⟩, irow_mono hv (Nat.zero_le _), row_of_heap h.rQ fun b hb => hd.2.block b (h.rQ.lt b hb).2 fun e => h3 b e (h6 b hb), below_frame h.bel hd.2 h1.lo⟩
  rcases hp with hp | hp
  · exact h3 b hp hr
  · have := h2.owns.hi b hr; omega
theorem Duo.swap (h : Duo w W hb st gb st2 sz gn vP oP vQ oQ) : Duo w W gb st2 hb st sz gn vQ oQ vP oP := by
  obtain ⟨P, R, h1, h2, h3, h4, h5⟩ := h.ex
  exact ⟨⟨R, P, h2, h1, fun b hb e => h3 b e hb, h5, h4⟩, h.rQ, h.rP, h.bel⟩
theorem duo_join (h : Duo w W hb st gb st2 sz gn vP oP vQ oQ) (hT : Tabs w) (s : ByteArray) (id : Int) (hs : s.size ≤ 1048576) (hz : (Lit.int .i64 id).wf = true) (hsz : sz ≤ 50000000) (hl : st.1.length ≤ 100000000) (hgn : gn ≤ 100000000) :
    Calls Tryz.prog 10 #[.pointer (some ⟨hb, 0, none⟩), .string s, .int .i64 id] W fun e w' => e = .returned (.bool (joinA st s id).1) ∧ Duo w w' hb (joinA st s id).2 gb st2 (sz + s.size + 2) (gn + 1) nilV [] vQ oQ := by
  obtain ⟨P, R, h1, h2, h3, h4, h5⟩ := h.ex
  refine (hs_join h1 h.bel hT s id hs hz hsz hl hgn).mono ?_
  rintro e w' ⟨rfl, hd⟩
  exact ⟨rfl, h.first h1.owns h2 h3 h5 hd (by omega) (by omega) (IRow.nil _ _)⟩
theorem duo_leave (h : Duo w W hb st gb st2 sz gn vP oP vQ oQ) (hT : Tabs w) (s : ByteArray) (id : Int) (hs : s.size ≤ 1048576) (hz : (Lit.int .i64 id).wf = true) (hsz : sz ≤ 100000000) (hl : st.1.length ≤ 100000000) :
    Calls Tryz.prog 20 #[.pointer (some ⟨hb, 0, none⟩), .string s, .int .i64 id] W fun e w' => e = .returned (.bool (leaveA st s id).1) ∧ Duo w w' hb (leaveA st s id).2 gb st2 sz gn nilV [] vQ oQ := by
  obtain ⟨P, R, h1, h2, h3, h4, h5⟩ := h.ex
  refine (hs_leave h1 h.bel hT s id hs hz hsz hl).mono ?_
  rintro e w' ⟨rfl, hd⟩
  exact ⟨rfl, h.first h1.owns h2 h3 h5 hd (Nat.le_refl _) (Nat.le_refl _) (IRow.nil _ _)⟩
theorem duo_send (h : Duo w W hb st gb st2 sz gn vP oP vQ oQ) (hT : Tabs w) (s : ByteArray) (hs : s.size ≤ 1048576) (hf : Fits st 10000000) (hsz : sz ≤ 100000000) :
    Calls Tryz.prog 11 #[.pointer (some ⟨hb, 0, none⟩), .string s] W fun e w' => ∃ v ids0 out st', e = .returned v ∧ SendA st s ids0 out st' ∧ Duo w w' hb st' gb st2 sz gn v out vQ oQ := by
  obtain ⟨P, R, h1, h2, h3, h4, h5⟩ := h.ex
  refine (hs_send h1 h.bel hT s hs hf.wf hsz (by have := hf.subs; omega) (by have := hf.grps; omega)).mono ?_
  rintro e w' ⟨v, ids0, out, st', rfl, k1, k2, hd⟩
  exact ⟨v, ids0, out, st', rfl, k2, h.first h1.owns h2 h3 h5 hd (Nat.le_refl _) (Nat.le_refl _) k1⟩
theorem duo_send2 (h : Duo w W hb st gb st2 sz gn vP oP vQ oQ) (hT : Tabs w) (s : ByteArray) (hs : s.size ≤ 1048576) (hf : Fits st2 10000000) (hsz : sz ≤ 100000000) :
    Calls Tryz.prog 11 #[.pointer (some ⟨gb, 0, none⟩), .string s] W fun e w' => ∃ v ids0 out st', e = .returned v ∧ SendA st2 s ids0 out st' ∧ Duo w w' hb st gb st' sz gn vP oP v out := by
  refine (duo_send h.swap hT s hs hf hsz).mono ?_
  rintro e w' ⟨v, ids0, out, st', rfl, k1, k2⟩
  exact ⟨v, ids0, out, st', rfl, k1, k2.swap⟩
end
structure SA where
  k : Int
  s : ByteArray
  id : Int
  m : Mg
def SA.cells (a : SA) : List Value := [.int .i64 a.k, .string a.s, .int .i64 a.id, .int .i64 a.m.id, .string a.m.tp, .int .i64 a.m.kd, .int .i64 a.m.di, .int .u64 a.m.db, .string a.m.ds, .slice a.m.q a.m.n a.m.c, .int .i64 a.m.at_, .int .i64 a.m.un, .string a.m.rp, .int .i64 a.m.co, .int .i64 a.m.pr, .int .i64 a.m.ho]
/-- a row of calls -/
structure Script30 (w : World) (v : Value) (L : List SA) : Prop where
  fl : Fl w 16 v L.length (L.flatMap SA.cells)
  len : L.length ≤ 1048576
  sz : (L.map fun a => a.s.size).sum ≤ 1048576
  each : ∀ a ∈ L, a.s.size ≤ 1048576 ∧ (Lit.int .i64 a.id).wf = true
theorem acts_at : ∀ {L : List SA} {i : Nat} {a : SA}, L[i]? = some a → ∀ j u, a.cells[j]? = some u → (L.flatMap SA.cells)[i * 16 + j]? = some u
  | [], _, _, h, _, _, _ => by cases h
  | y :: L, 0, a, h, j, u, hj => by
    injection h with h
    subst h
    have hl := (List.getElem?_eq_some_iff.1 hj).1
    rw [List.flatMap_cons, Nat.zero_mul, Nat.zero_add, List.getElem?_append_left hl]
    exact hj
  | y :: L, i + 1, a, h, j, u, hj => by
    have ih := acts_at (L := L) (i := i) h j u hj
    have hl : y.cells.length = 16 := rfl
    rw [List.flatMap_cons, List.getElem?_append_right (by omega), hl, show (i + 1) * 16 + j - 16 = i * 16 + j by omega]
    exact ih
theorem Script30.at_ {w : World} {q : Option Addr} {n c : Nat} {L : List SA} (h : Script30 w (.slice q n c) L) {i : Nat} {a : SA} (ha : L[i]? = some a) : ∃ b o, q = some ⟨b, o, none⟩ ∧ w.cell? ⟨b, o + i * 16, none⟩ = some (.int .i64 a.k) ∧ w.cell? ⟨b, o + i * 16 + 1, none⟩ = some (.string a.s) ∧ w.cell? ⟨b, o + i * 16 + 2, none⟩ = some (.int .i64 a.id) ∧ w.cell? ⟨b, o + i * 16 + 3, none⟩ = some (.int .i64 a.m.id) ∧ w.cell? ⟨b, o + i * 16 + 4, none⟩ = some (.string a.m.tp) ∧ w.cell? ⟨b, o + i * 16 + 5, none⟩ = some (.int .i64 a.m.kd) ∧ w.cell? ⟨b, o + i * 16 + 6, none⟩ = some (.int .i64 a.m.di) ∧ w.cell? ⟨b, o + i * 16 + 7, none⟩ = some (.int .u64 a.m.db) ∧ w.cell? ⟨b, o + i * 16 + 8, none⟩ = some (.string a.m.ds) ∧ w.cell? ⟨b, o + i * 16 + 9, none⟩ = some (.slice a.m.q a.m.n a.m.c) ∧ w.cell? ⟨b, o + i * 16 + 10, none⟩ = some (.int .i64 a.m.at_) ∧ w.cell? ⟨b, o + i * 16 + 11, none⟩ = some (.int .i64 a.m.un) ∧ w.cell? ⟨b, o + i * 16 + 12, none⟩ = some (.string a.m.rp) ∧ w.cell? ⟨b, o + i * 16 + 13, none⟩ = some (.int .i64 a.m.co) ∧ w.cell? ⟨b, o + i * 16 + 14, none⟩ = some (.int .i64 a.m.pr) ∧ w.cell? ⟨b, o + i * 16 + 15, none⟩ = some (.int .i64 a.m.ho) := by
  obtain ⟨-, p, cap, hv, h1, h2, h3⟩ := h.fl
  injection hv with hv1 hv2 hv3
  have hil := (List.getElem?_eq_some_iff.1 ha).1
  rcases h3 with h3 | ⟨b, o, rfl, h3⟩
  · omega
  · have g : ∀ j u, a.cells[j]? = some u → w.cell? ⟨b, o + i * 16 + j, none⟩ = some u := fun j u hj => by
      rw [show o + i * 16 + j = o + (i * 16 + j) by omega]
      exact h3 _ _ (acts_at ha j u hj)
    exact ⟨b, o, hv1, g 0 _ rfl, g 1 _ rfl, g 2 _ rfl, g 3 _ rfl, g 4 _ rfl, g 5 _ rfl, g 6 _ rfl, g 7 _ rfl, g 8 _ rfl, g 9 _ rfl, g 10 _ rfl, g 11 _ rfl, g 12 _ rfl, g 13 _ rfl, g 14 _ rfl, g 15 _ rfl⟩
/-- what a call leaves -/
def ActR (k : Int) (s : ByteArray) (id : Int) (st st' : HSt) : Prop := (k = 1 ∧ st' = (joinA st s id).2) ∨ (k = 2 ∧ st' = (leaveA st s id).2) ∨ (k = 3 ∧ ∃ i o, SendA st s i o st')
theorem actR_fun {k : Int} {s : ByteArray} {id : Int} {st a b : HSt} (h : ActR k s id st a) (h2 : ActR k s id st b) : a = b := by
  rcases h with ⟨k1, h⟩ | ⟨k1, h⟩ | ⟨k1, i, o, h⟩ <;> rcases h2 with ⟨k2, h2⟩ | ⟨k2, h2⟩ | ⟨k2, i2, o2, h2⟩ <;> first | (exfalso; omega) | (rw [h, h2]) | exact (sendA_fun h h2).2
theorem actR_fits {k : Int} {s : ByteArray} {id : Int} {st a : HSt} {n : Nat} (h : ActR k s id st a) (hf : Fits st n) (hn : (st.2.map (·.key)).Nodup) (hz : (Lit.int .i64 id).wf = true) : Fits a (n + 1) := by
  rcases h with ⟨-, rfl⟩ | ⟨-, rfl⟩ | ⟨-, i, o, h⟩
  · exact fits_join hf s hz
  · exact (fits_leave hf s id).more (Nat.le_succ n)
  · exact (fits_send hf hn h).more (Nat.le_succ n)
theorem actR_good0 {k : Int} {s : ByteArray} {id : Int} {a : HSt} (h : ActR k s id ([], []) a) (hs : s.size ≤ 1048576) : GoodSt a := by
  rcases h with ⟨-, rfl⟩ | ⟨-, rfl⟩ | ⟨-, i, o, h⟩
  · exact good_join0 s id hs
  · rw [leave0]; exact good_nil
  · rw [send0 h]; exact good_nil
theorem Both.more {w0 u0 W1 : World} {A : Nat → Prop} {W : World} {hb : Nat} {st : HSt} {L : List AM} {sz gn kn sz' gn' : Nat} {rb : Nat} {st2 : HSt} {L2 : List AM} (h : Both w0 u0 W1 A W hb st L sz gn kn rb st2 L2) (h1 : sz ≤ sz') (h2 : gn ≤ gn') : Both w0 u0 W1 A W hb st L sz' gn' kn rb st2 L2 := by
  obtain ⟨vP, oP, vQ, oQ, h⟩ := h
  obtain ⟨P, Q, k1, k2⟩ := h.ex
  exact ⟨vP, oP, vQ, oQ, ⟨P, Q, k1.more h1 h2 (Nat.le_refl _), k2⟩, h.rP, h.rQ, h.fr, h.bw, h.bu⟩
/-- act at Join, Leave or Send -/
theorem act3_any (w W1 : World) (A : Nat → Prop) (W : World) (hb : Nat) (st : HSt) (sz gn : Nat) (rb : Nat) (st2 : HSt) (a : SA) (h : Both w w W1 A W hb st [] sz gn 0 rb st2 []) (hT : Tabs w) (hG : GoodSt st2) (hk : a.k = 1 ∨ a.k = 2 ∨ a.k = 3) (hs : a.s.size ≤ 1048576) (hz : (Lit.int .i64 a.id).wf = true) (hf : Fits st 10000000) (hf2 : Fits st2 10000000) (hsz : sz ≤ 50000000) (hgn : gn ≤ 10000000) :
    Calls Tryz.prog 19 #[.pointer (some ⟨hb, 0, none⟩), .pointer (some ⟨rb, 0, none⟩), .agg #[.int .i64 a.k, .string a.s, .int .i64 a.id, .int .i64 a.m.id, .string a.m.tp, .int .i64 a.m.kd, .int .i64 a.m.di, .int .u64 a.m.db, .string a.m.ds, .slice a.m.q a.m.n a.m.c, .int .i64 a.m.at_, .int .i64 a.m.un, .string a.m.rp, .int .i64 a.m.co, .int .i64 a.m.pr, .int .i64 a.m.ho]] W fun e w' => ∃ b st' st2', e = .returned (.bool b) ∧ ActR a.k a.s a.id st st' ∧ ActR a.k a.s a.id st2 st2' ∧ Both w w W1 A w' hb st' [] (sz + a.s.size + 2) (gn + 1) 0 rb st2' [] := by
  have l1 : st.1.length ≤ 100000000 := by have := hf.subs; omega
  have l2 : st.2.length ≤ 100000000 := by have := hf.grps; omega
  have r1 : st2.1.length ≤ 100000000 := by have := hf2.subs; omega
  have r2 : st2.2.length ≤ 100000000 := by have := hf2.grps; omega
  rcases hk with hk | hk | hk <;> rw [hk]
  · refine (act_join w w W1 A W hb st [] sz gn 0 rb st2 [] a.s a.id a.m h hT hT hG hs hz hf.wf hsz l1 (by omega) r1 r2).mono ?_
    rintro e w' ⟨rfl, h1⟩
    exact ⟨_, _, _, rfl, .inl ⟨rfl, rfl⟩, .inl ⟨rfl, rfl⟩, h1⟩
  · refine (act_leave w w W1 A W hb st [] sz gn 0 rb st2 [] a.s a.id a.m h hT hT hG hs hz hf.wf hsz l1 r1 r2).mono ?_
    rintro e w' ⟨rfl, h1⟩
    exact ⟨_, _, _, rfl, .inr (.inl ⟨rfl, rfl⟩), .inr (.inl ⟨rfl, rfl⟩), h1.more (by omega) (by omega)⟩
  · refine (act_send w w W1 A W hb st [] sz gn 0 rb st2 [] a.s a.id a.m h hT hT hG hs hz hf.wf hsz l1 l2 r1 r2).mono ?_
    rintro e w' ⟨ids0, out, st', ids2, out2, st2', rfl, h1, h2, h3⟩
    exact ⟨_, _, _, rfl, .inr (.inr ⟨rfl, _, _, h1⟩), .inr (.inr ⟨rfl, _, _, h2⟩), h3.more (by omega) (by omega)⟩
end
end Go.Proofs.YtincmegllckcjaaGreatDoor
