/- SHARE: leave. SHARE: the hub in memory: a trie, groups by their texts. -/
import Derived.Test.YtincmegllckcjaaGreatDoorMShareLeaveP
import Derived.Test.YtincmegllckcjaaGreatDoorMTrieAwake
namespace Go.Proofs.YtincmegllckcjaaGreatDoor
section
open Go Go.RowKit
attribute [local go_sem ↓] Go.wp_at_zero Go.wp_at_succ

def turnL (tn i n : Nat) : Nat := if tn = i then (if i + 1 < n then i else 0) else if i < tn then tn - 1 else tn
def LeaveR (w : World) (base : Nat) (g : Grp) (id : Int) (e : Ending) (w' : World) : Prop := ∃ (ok : Bool) (g' : Grp), e = .returned (.bool ok) ∧ (ok = true ↔ id ∈ g.ids) ∧ GrpTo w base g w' g' ∧ (ok = false → g'.ids = g.ids ∧ g'.tn = g.tn) ∧ (ok = true → ∃ i, g.ids[i]? = some id ∧ g'.ids = g.ids.eraseIdx i ∧ g'.tn = turnL g.tn i g.ids.length)
theorem leave_done {w W1 W2 w3 : World} {base : Nat} {g g1 : Grp} {id : Int} {i m p s : Nat} (h : GrpIs w base g) (h1 : GrpIs W1 base g1) (e1 : g1.gb = g.gb) (e2 : g1.mb = g.mb) (e3 : g1.fil = g.fil) (e4 : g1.ids = g.ids) (e5 : g1.ms = g.ms) (e6 : g1.D = g.D)
    (hi : g.ids[i]? = some id) (hms : g.ms[i]? = some m) (hp : (ring g.gb g.ms)[i]? = some p) (hs : (ring g.gb g.ms)[i + 2]? = some s) (htn : g.ids.length = 1 ∨ g1.tn ≠ i) (htq : (if i < g1.tn then g1.tn - 1 else g1.tn) = turnL g.tn i g.ids.length) (hfr : Frame (fun b => b ∈ g.blocks) w W1)
    (hL : LikeW (two W1 p s (ptr s) (ptr p)) W2) (hgr : W2.grownBy w3 (some g.mb)) (hown : w3.ownsMap Tryz.prog 3 ptrR g.mb 256 (g.D.del (.int .i64 id))) : LeaveR w base g id (.returned (.bool true)) w3 := by
  obtain ⟨gb, mb, fil, ids, ms, tn1, D⟩ := g1
  obtain ⟨gb', mb', fil', ids', ms', tn, D'⟩ := g
  simp only at e1 e2 e3 e4 e5 e6
  subst e1; subst e2; subst e3; subst e4; subst e5; subst e6
  have hbn := h.bn
  unfold Grp.blocks at hbn
  rw [List.nodup_cons, List.nodup_cons] at hbn
  have hmb1 : mb ≠ gb := fun e => hbn.1 (by rw [← e]; exact List.mem_cons_self ..)
  have hsz2 : W2.heap.size = W1.heap.size := by rw [hL.heap]; unfold two; simp
  have hblk : ∀ b, b ≠ mb → b < W1.heap.size → w3.heap[b]? = (two W1 p s (ptr s) (ptr p)).heap[b]? := fun b h2 h3 => by
    rw [hgr.block b (by omega) (fun e => h2 (by injection e)), hL.heap]
  have key := h1.left_ (W4 := w3) hi hms hp hs htn hown (fun b hb => by
    rcases hb with rfl | hb
    · exact hblk _ (fun e => hmb1 e.symm) (h1.lt (List.mem_cons_self ..))
    · exact hblk b (fun e => hbn.2.1 (e ▸ hb)) (h1.lt (show b ∈ Grp.blocks _ from List.mem_cons_of_mem _ (List.mem_cons_of_mem _ hb))))
  refine ⟨true, _, rfl, Iff.intro (fun _ => List.mem_of_getElem? hi) (fun _ => rfl), ⟨key, rfl, rfl, ?_, fun b hb => ?_⟩, fun e => (by cases e), fun _ => ⟨i, hi, rfl, htq⟩⟩
  · refine ⟨hgr.os.trans (hL.os.trans hfr.os), hgr.tape.trans (hL.tape.trans hfr.tape), hgr.output.trans (hL.output.trans hfr.output), ?_, fun b hb hF => ?_⟩
    · have := hgr.size; have := hfr.size; omega
    · have hmb : b ≠ mb := fun e => hF (e ▸ List.mem_cons_of_mem _ (List.mem_cons_self ..))
      have hpb : b ≠ p := fun e => hF (e ▸ GrpIs.ringB (g := ⟨gb, mb, fil, ids, ms, tn, D⟩) hp)
      have hsb : b ≠ s := fun e => hF (e ▸ GrpIs.ringB (g := ⟨gb, mb, fil, ids, ms, tn, D⟩) hs)
      rw [hblk b hmb (Nat.lt_of_lt_of_le hb hfr.size), two_block hpb hsb]
      exact hfr.block b hb hF
  · left
    have hb : b ∈ gb :: mb :: ms.eraseIdx i := hb
    unfold Grp.blocks
    simp only [List.mem_cons] at hb ⊢
    rcases hb with hb | hb | hb
    · exact .inl hb
    · exact .inr (.inl hb)
    · exact .inr (.inr ((List.eraseIdx_sublist _ _).subset hb))
set_option maxRecDepth 100000 in
set_option maxHeartbeats 8000000 in
theorem leave_any (w : World) (base : Nat) (g : Grp) (id : Int) (h : GrpIs w base g) (hz : (Lit.int .i64 id).wf = true) (htl : g.ids ≠ [] → g.tn < g.ids.length) :
    Calls Tryz.prog 56 #[.pointer (some ⟨g.gb, 0, none⟩), .int .i64 id] w (LeaveR w base g id) := by
  obtain ⟨PP, hPP⟩ : ∃ PP : Ending → World → Prop, LeaveR w base g id = PP := ⟨_, rfl⟩
  rw [hPP]
  have HPP := Lib.hid hPP
  have HG := Lib.hid h
  obtain ⟨hlk, -, -⟩ := h.look hz
  obtain ⟨⟨q, c3, hq⟩, c4, -⟩ := h.cells
  have hgl := h.lt (List.mem_cons_self ..)
  have hkn := h.kid_none (z := id)
  have hlen := h.len
  cases hk : kidI g.D id with
  | none =>
    rw [hk] at hlk
    simp only [Option.map_none] at hlk
    have HM := Lib.hid (hkn.1 hk)
    clear hPP h hq hk hkn htl hlen
    go_enter Tryz.func56, Tryz.ntmps56
    go_wp2_with fail
    rw [← HPP.out]
    exact ⟨false, g, rfl, Iff.intro (fun e => by cases e) (fun e => absurd e HM.out), HG.out.same (Below.refl _ _), fun _ => ⟨rfl, rfl⟩, fun e => by cases e⟩
  | some m =>
    rw [hk] at hlk
    simp only [Option.map_some] at hlk
    obtain ⟨i, hi, hms⟩ := (h.by_ id m).1 hk
    have hil := (List.getElem?_eq_some_iff.1 hms).1
    have hne : g.ids ≠ [] := fun e => by rw [e] at hi; cases hi
    obtain ⟨b, hb, rfl⟩ := hq hne
    have htl' := htl hne
    obtain ⟨p, hp⟩ := ring_some g.gb g.ms (j := i) (by omega)
    obtain ⟨s, hs⟩ := ring_some g.gb g.ms (j := i + 2) (by omega)
    have HI := Lib.hid hi
    have HMS := Lib.hid hms
    have HPR := Lib.hid hp
    have HSR := Lib.hid hs
    have HMR : Hid ((ring g.gb g.ms)[i + 1]? = some m) := by
      show (ring g.gb g.ms)[i + 1]? = some m
      rw [ring_at _ _ hil]; exact hms
    obtain ⟨j0, hj0, hj1⟩ : ∃ j, Tryz.prog.info? 74 = some j ∧ j.size ≠ 0 := info_member
    have hbn := h.bn
    unfold Grp.blocks at hbn
    rw [List.nodup_cons, List.nodup_cons] at hbn
    by_cases ht : g.tn = i
    · have hbm : b = m := by rw [ht, hms] at hb; injection hb with hb; exact hb.symm
      subst hbm
      have he1 := run_eql_ptr_same (P := Tryz.prog) w (tp := 70) ⟨b, 0, none⟩ Tryz.underlying70 hj0
      have HBH := Lib.hid (behind_any w base g i b h hms)
      have HTQ : Hid ((if i < nextI g.ms.length i then nextI g.ms.length i - 1 else nextI g.ms.length i) = turnL g.tn i g.ids.length) := by
        show _ = _
        unfold turnL nextI
        rw [ht, hlen]
        split <;> split <;> simp_all
      have HTN : Hid (g.ids.length = 1 ∨ nextI g.ms.length i ≠ i) := by
        show _ ∨ _
        unfold nextI
        split
        · exact .inr (by omega)
        · by_cases h0 : i = 0
          · exact .inl (by omega)
          · exact .inr (fun e => h0 e.symm)
      clear hPP h hkn htl hlen hk hi hms hil hne hb htl' hp hs hj0 hj1 hbn ht hq
      go_enter Tryz.func56, Tryz.ntmps56
      go_wp2_with fail
      refine HBH.out.mono ?_
      rintro e w1 ⟨⟨c, hc, rfl⟩, hw⟩
      subst hw
      have HC := Lib.hid hc
      unfold ptr
      obtain ⟨bp, bn, btp, hbx, -⟩ := HG.out.box
      have f3 := frozen_of_row w1 g.gb 3 _ _ hbx
      clear hc hbx
      go_wp2_with fail
      refine wp_world (fun W => GrpIs W base { g with tn := nextI g.ms.length i } ∧ Frame (fun b => b ∈ g.blocks) w1 W) ⟨HG.out.turned HC.out, (frame_set (F := fun b => b ∈ g.blocks) w1 g.gb 3 _ (List.mem_cons_self ..))⟩ (fun WX hX => ?_)
      have HG1 := Lib.hid hX.1
      have HFR := Lib.hid hX.2
      obtain ⟨⟨q1, c31, -⟩, c41, -⟩ := hX.1.cells
      clear hX c3 c4 f3 he1 hlk
      obtain ⟨l1a, l0a⟩ := HG1.out.link i p b HPR.out HMR.out
      obtain ⟨l1b, l0b⟩ := HG1.out.link (i + 1) b s HMR.out HSR.out
      have hpl : p < WX.heap.size := World.block_lt_of_cell? WX _ l1a
      have hml : b < WX.heap.size := World.block_lt_of_cell? WX _ l0a
      have hsl : s < WX.heap.size := World.block_lt_of_cell? WX _ l0b
      obtain ⟨cs1, ty1, hbp⟩ := HG1.out.ring_box HPR.out
      obtain ⟨cs2, ty2, hbs⟩ := HG1.out.ring_box HSR.out
      have z1 := frozen_of_row WX p 1 _ _ hbp
      have z0 := frozen_of_row WX s 0 _ _ hbs
      unfold ptr at l1a l0a l1b l0b
      clear hbp hbs
      go_wp2_with fail
      go_region
      go_simp
      refine k_world (fun W => LikeW (two WX p s (ptr s) (ptr p)) W) ⟨rfl, rfl, rfl, rfl⟩ (fun W2 hL => ?_)
      have HL := Lib.hid hL
      have d4 := HG1.out.cell4 hL
      have d4 : W2.cell? ⟨g.gb, 4, none⟩ = some (.map (some g.mb)) := d4
      have hgl2 : g.gb < W2.heap.size := World.block_lt_of_cell? W2 _ d4
      obtain ⟨w3, hdel, hown, hturn⟩ := World.ownsMap.drop (t := 75) (e := 70) (HG1.out.map_like HPR.out HSR.out hL) (Maps.int_keyed Tryz.underlying3) Tryz.underlying75 (Maps.keyOf_int_mk Tryz.underlying3 hz) 0
      have hdel : (Builtin.delete_ #[75, 3] 0 #[.map (some g.mb), .int .i64 id]).run Tryz.prog W2 = .ok (.tuple #[]) w3 := hdel
      have HGR3 := Lib.hid hturn.grown
      have HOW := Lib.hid hown
      clear hL hturn hown l1a l0a l1b l0b z0 z1
      go_wp2_with fail
      rw [← HPP.out]
      exact leave_done HG.out HG1.out rfl rfl rfl rfl rfl rfl HI.out HMS.out HPR.out HSR.out HTN.out HTQ.out HFR.out HL.out HGR3.out HOW.out
    · have hbm : b ≠ m := fun e => ht ((List.getElem?_inj (List.getElem?_eq_some_iff.1 hb).1 hbn.2.2).1 (hb.trans (e ▸ hms.symm)))
      obtain ⟨id1, p1, n1, hb1⟩ := h.memB (List.mem_of_getElem? hb)
      obtain ⟨id2, p2, n2, hb2⟩ := h.memB (List.mem_of_getElem? hms)
      have he1 := run_eql_ptr_other (P := Tryz.prog) w (tp := 70) (a := ⟨b, 0, none⟩) (b := ⟨m, 0, none⟩) Tryz.underlying70 hj0 hj1 (fun e => hbm (by injection e)) hb1 hb2
      have HTQ : Hid ((if i < g.tn then g.tn - 1 else g.tn) = turnL g.tn i g.ids.length) := by
        show _ = _
        unfold turnL
        rw [if_neg ht]
      have HTN : Hid (g.ids.length = 1 ∨ g.tn ≠ i) := .inr ht
      have HG1 := HG
      have HFR : Hid (Frame (fun b => b ∈ g.blocks) w w) := Frame.of_below (Below.refl _ _)
      clear hPP h hkn htl hlen hk hi hms hil hne hb htl' hp hs hj0 hj1 hbn ht hb1 hb2 hbm hq
      go_enter Tryz.func56, Tryz.ntmps56
      go_wp2_with fail
      obtain ⟨l1a, l0a⟩ := HG1.out.link i p m HPR.out HMR.out
      obtain ⟨l1b, l0b⟩ := HG1.out.link (i + 1) m s HMR.out HSR.out
      have hpl : p < w.heap.size := World.block_lt_of_cell? w _ l1a
      have hml : m < w.heap.size := World.block_lt_of_cell? w _ l0a
      have hsl : s < w.heap.size := World.block_lt_of_cell? w _ l0b
      obtain ⟨cs1, ty1, hbp⟩ := HG1.out.ring_box HPR.out
      obtain ⟨cs2, ty2, hbs⟩ := HG1.out.ring_box HSR.out
      have z1 := frozen_of_row w p 1 _ _ hbp
      have z0 := frozen_of_row w s 0 _ _ hbs
      unfold ptr at l1a l0a l1b l0b
      clear hbp hbs
      go_region
      go_simp
      refine k_world (fun W => LikeW (two w p s (ptr s) (ptr p)) W) ⟨rfl, rfl, rfl, rfl⟩ (fun W2 hL => ?_)
      have HL := Lib.hid hL
      have d4 := HG1.out.cell4 hL
      have d4 : W2.cell? ⟨g.gb, 4, none⟩ = some (.map (some g.mb)) := d4
      have hgl2 : g.gb < W2.heap.size := World.block_lt_of_cell? W2 _ d4
      obtain ⟨w3, hdel, hown, hturn⟩ := World.ownsMap.drop (t := 75) (e := 70) (HG1.out.map_like HPR.out HSR.out hL) (Maps.int_keyed Tryz.underlying3) Tryz.underlying75 (Maps.keyOf_int_mk Tryz.underlying3 hz) 0
      have hdel : (Builtin.delete_ #[75, 3] 0 #[.map (some g.mb), .int .i64 id]).run Tryz.prog W2 = .ok (.tuple #[]) w3 := hdel
      have HGR3 := Lib.hid hturn.grown
      have HOW := Lib.hid hown
      clear hL hturn hown l1a l0a l1b l0b z0 z1
      go_wp2_with fail
      rw [← HPP.out]
      exact leave_done HG.out HG1.out rfl rfl rfl rfl rfl rfl HI.out HMS.out HPR.out HSR.out HTN.out HTQ.out HFR.out HL.out HGR3.out HOW.out
end
section
open Go Go.RowKit

structure KG where
  key : ByteArray
  g : Grp
structure Hb where
  hb : Nat
  t : Nat
  gm : Nat
  km : Nat
  sz : Nat
  gn : Nat
  T : List Nd
  l : Subs
  gs : List KG
  GD : DataW Unit
structure HubG (W : World) (base : Nat) (H : Hb) : Prop where
  box : W.heap[H.hb]? = some (.cells #[ptr H.t, .map (some H.gm), .map (some H.km)] 62 (0, 0))
  tri : TOf W base H.sz H.t H.T H.l
  gmap : W.ownsMap Tryz.prog 9 ptrR H.gm H.gn H.GD
  gby : ∀ key b, kid H.GD key = some b ↔ ∃ x ∈ H.gs, x.key = key ∧ x.g.gb = b
  keys : (H.gs.map (·.key)).Nodup
  each : ∀ x ∈ H.gs, GrpIs W base x.g ∧ x.g.ids ≠ [] ∧ x.g.tn < x.g.ids.length ∧ x.key.size ≤ 1048576 ∧ ∃ n, splitK x.key = some (n, x.g.fil) ∧ n ≠ ByteArray.empty
  hg : H.hb ≠ H.gm
  sep : ∀ x ∈ H.gs, ∀ b ∈ x.g.blocks, b ≠ H.hb ∧ b ≠ H.gm ∧ b ≠ H.t ∧ ¬ foot H.T b
  sep2 : ∀ x ∈ H.gs, ∀ y ∈ H.gs, x.key ≠ y.key → ∀ b ∈ x.g.blocks, b ∉ y.g.blocks
  off1 : H.hb ≠ H.t ∧ ¬ foot H.T H.hb
  off2 : H.gm ≠ H.t ∧ ¬ foot H.T H.gm
  lo : base ≤ H.hb ∧ base ≤ H.gm
/-- what the calls on the hub may turn (but for what is kept) -/
def FHub (H : Hb) (b : Nat) : Prop := b = H.t ∨ foot H.T b ∨ b = H.gm ∨ ∃ x ∈ H.gs, b ∈ x.g.blocks
section
variable {W W' : World} {base : Nat} {H : Hb}
theorem HubG.lt (h : HubG W base H) {b : Nat} (hb : FHub H b) : base ≤ b ∧ b < W.heap.size := by
  rcases hb with rfl | hb | rfl | ⟨x, hx, hb⟩
  · exact ⟨h.tri.tri.bt, h.tri.tri.lt⟩
  · exact h.tri.tri.is.lt hb
  · exact ⟨h.lo.2, h.gmap.lt⟩
  · exact ⟨(h.each x hx).1.lo b hb, (h.each x hx).1.lt hb⟩
theorem HubG.hlt (h : HubG W base H) : H.hb < W.heap.size := (Array.getElem?_eq_some_iff.1 h.box).1
theorem map_kept {W W' : World} {k : TypeId} {b n : Nat} {D : DataW Unit} (h : W.ownsMap Tryz.prog k ptrR b n D) (hk : W'.heap[b]? = W.heap[b]?) : W'.ownsMap Tryz.prog k ptrR b n D := by
  obtain ⟨es, clock, hb, r⟩ := h
  exact ⟨es, clock, hk.trans hb, r⟩
theorem TOf.kept {W W' : World} {base sz t : Nat} {T : List Nd} {l : Subs} (h : TOf W base sz t T l) (hk : ∀ b, b = t ∨ foot T b → W'.heap[b]? = W.heap[b]?) : TOf W' base sz t T l := ⟨h.tri.kept hk, h.lean, h.at_, h.ok, h.nd⟩
theorem HubG.kept (h : HubG W base H) (hk : ∀ b, b = H.hb ∨ FHub H b → W'.heap[b]? = W.heap[b]?) : HubG W' base H :=
  ⟨(hk _ (.inl rfl)).trans h.box, h.tri.kept fun b hb => hk b (.inr (by rcases hb with hb | hb; exact .inl hb; exact .inr (.inl hb))), map_kept h.gmap (hk _ (.inr (.inr (.inr (.inl rfl))))), h.gby, h.keys,
    fun x hx => ⟨(h.each x hx).1.kept fun b hb => hk b (.inr (.inr (.inr (.inr ⟨x, hx, hb⟩)))), (h.each x hx).2⟩, h.hg, h.sep, h.sep2, h.off1, h.off2, h.lo⟩
theorem HubG.below (h : HubG W base H) (hb : Below W.heap.size W W') : HubG W' base H := h.kept fun b hf => hb.block b (by
  rcases hf with rfl | hf
  · exact h.hlt
  · exact (h.lt hf).2)
/-- the trie turns -/
theorem HubG.trie {sz' : Nat} {T' : List Nd} {l' : Subs} (h : HubG W base H) (hf : Frame (fun b => b = H.t ∨ foot H.T b) W W') (ho : TOf W' base sz' H.t T' l') (hn : ∀ b, foot T' b → foot H.T b ∨ W.heap.size ≤ b) : HubG W' base { H with sz := sz', T := T', l := l' } := by
  have hk : ∀ b, b < W.heap.size → b ≠ H.t → ¬ foot H.T b → W'.heap[b]? = W.heap[b]? := fun b h1 h2 h3 => hf.block b h1 (fun e => by rcases e with e | e; exact h2 e; exact h3 e)
  have hnf : ∀ b, b < W.heap.size → ¬ foot H.T b → ¬ foot T' b := fun b h1 h2 h3 => by rcases hn b h3 with h4 | h4; exact h2 h4; omega
  refine ⟨(hk _ h.hlt h.off1.1 h.off1.2).trans h.box, ho, map_kept h.gmap (hk _ h.gmap.lt h.off2.1 h.off2.2), h.gby, h.keys, fun x hx => ⟨(h.each x hx).1.kept fun b hb => hk b ((h.each x hx).1.lt hb) (h.sep x hx b hb).2.2.1 (h.sep x hx b hb).2.2.2, (h.each x hx).2⟩, h.hg, fun x hx b hb => ?_, h.sep2, ⟨h.off1.1, hnf _ h.hlt h.off1.2⟩, ⟨h.off2.1, hnf _ h.gmap.lt h.off2.2⟩, h.lo⟩
  obtain ⟨h1, h2, h3, h4⟩ := h.sep x hx b hb
  exact ⟨h1, h2, h3, hnf b ((h.each x hx).1.lt hb) h4⟩
/-- one group turns -/
def setG (gs : List KG) (s : ByteArray) (g' : Grp) : List KG := gs.map fun y => if y.key.data.toList = s.data.toList then ⟨s, g'⟩ else y
theorem mem_setG {gs : List KG} {s : ByteArray} {g' : Grp} {y : KG} (h : y ∈ setG gs s g') : (y = ⟨s, g'⟩ ∧ ∃ x ∈ gs, x.key = s) ∨ (y ∈ gs ∧ y.key ≠ s) := by
  unfold setG at h
  obtain ⟨x, hx, e⟩ := List.mem_map.1 h
  by_cases hk : x.key.data.toList = s.data.toList
  · rw [if_pos hk] at e
    exact .inl ⟨e.symm, x, hx, bytes_inj hk⟩
  · rw [if_neg hk] at e
    subst e
    exact .inr ⟨hx, fun e => hk (by rw [e])⟩
theorem setG_self {gs : List KG} {x : KG} (hx : x ∈ gs) (g' : Grp) : (⟨x.key, g'⟩ : KG) ∈ setG gs x.key g' := List.mem_map.2 ⟨x, hx, if_pos rfl⟩
theorem setG_other {gs : List KG} {y : KG} {s : ByteArray} (hy : y ∈ gs) (hn : y.key ≠ s) (g' : Grp) : y ∈ setG gs s g' := List.mem_map.2 ⟨y, hy, if_neg fun e => hn (bytes_inj e)⟩
theorem setG_keys (gs : List KG) (s : ByteArray) (g' : Grp) : (setG gs s g').map (·.key) = gs.map (·.key) := by
  unfold setG
  rw [List.map_map]
  refine List.map_congr_left fun y _ => ?_
  show (if y.key.data.toList = s.data.toList then (⟨s, g'⟩ : KG) else y).key = y.key
  by_cases hk : y.key.data.toList = s.data.toList
  · rw [if_pos hk]; exact (bytes_inj hk).symm
  · rw [if_neg hk]
theorem HubG.one (h : HubG W base H) {x y : KG} (hx : x ∈ H.gs) (hy : y ∈ H.gs) (e : x.key = y.key) : x = y := by
  have := h.keys
  rcases pair_mem (List.pairwise_map.1 this) (fun a b hab e => hab e.symm) hx hy with h1 | h1
  · exact h1
  · exact absurd e h1
theorem HubG.group {g' : Grp} {x : KG} (h : HubG W base H) (hx : x ∈ H.gs) (hg : GrpTo W base x.g W' g') (hne : g'.ids ≠ []) (htn : g'.tn < g'.ids.length) : HubG W' base { H with gs := setG H.gs x.key g' } := by
  have hk : ∀ b, b < W.heap.size → b ∉ x.g.blocks → W'.heap[b]? = W.heap[b]? := fun b h1 h2 => hg.fr.block b h1 h2
  have hnx : ∀ b, b < W.heap.size → b ∉ x.g.blocks → b ∉ g'.blocks := fun b h1 h2 h3 => by rcases hg.own b h3 with h4 | h4; exact h2 h4; omega
  have hxs := h.sep x hx
  have hhb : H.hb ∉ x.g.blocks := fun e => (hxs _ e).1 rfl
  have hgm : H.gm ∉ x.g.blocks := fun e => (hxs _ e).2.1 rfl
  have hlt : ∀ b ∈ g'.blocks, b ∈ x.g.blocks ∨ W.heap.size ≤ b := hg.own
  refine ⟨(hk _ h.hlt hhb).trans h.box, h.tri.kept fun b hb => hk b ?_ (fun e => ?_), map_kept h.gmap (hk _ h.gmap.lt hgm), fun key b => ?_, by rw [setG_keys]; exact h.keys, fun y hy => ?_, h.hg, fun y hy b hb => ?_, fun y hy z hz hyz b hb hb2 => ?_, h.off1, h.off2, h.lo⟩
  · rcases hb with rfl | hb
    · exact h.tri.tri.lt
    · exact (h.tri.tri.is.lt hb).2
  · rcases hb with rfl | hb
    · exact (hxs _ e).2.2.1 rfl
    · exact (hxs _ e).2.2.2 hb
  · rw [h.gby]
    constructor
    · rintro ⟨y, hy, h1, h2⟩
      by_cases e : y.key = x.key
      · have := h.one hy hx e
        subst this
        exact ⟨⟨y.key, g'⟩, setG_self hy g', h1, hg.gb.trans h2⟩
      · exact ⟨y, setG_other hy e g', h1, h2⟩
    · rintro ⟨y, hy, h1, h2⟩
      rcases mem_setG hy with ⟨rfl, -⟩ | ⟨hy, -⟩
      · exact ⟨x, hx, h1, hg.gb.symm.trans h2⟩
      · exact ⟨y, hy, h1, h2⟩
  · rcases mem_setG hy with ⟨rfl, -⟩ | ⟨hy, hyk⟩
    · obtain ⟨-, -, -, h4, n, h5, h6⟩ := h.each x hx
      exact ⟨hg.is, hne, htn, h4, n, by rw [h5]; show some (n, x.g.fil) = some (n, g'.fil); rw [hg.fil], h6⟩
    · obtain ⟨h1, h2⟩ := h.each y hy
      exact ⟨h1.kept fun b hb => hk b (h1.lt hb) (h.sep2 y hy x hx hyk b hb), h2⟩
  · rcases mem_setG hy with ⟨rfl, -⟩ | ⟨hy, hyk⟩
    · rcases hlt b hb with h1 | h1
      · exact hxs b h1
      · refine ⟨?_, ?_, ?_, fun e => ?_⟩
        · have := h.hlt; show b ≠ H.hb; omega
        · have := h.gmap.lt; show b ≠ H.gm; omega
        · have := h.tri.tri.lt; show b ≠ H.t; omega
        · have := (h.tri.tri.is.lt e).2; omega
    · exact h.sep y hy b hb
  · rcases mem_setG hy with ⟨rfl, -⟩ | ⟨hy, hyk⟩
    · rcases mem_setG hz with ⟨rfl, -⟩ | ⟨hz, hzk⟩
      · exact hyz rfl
      · have hzl := (h.each z hz).1.lt hb2
        exact hnx b hzl (fun e => h.sep2 x hx z hz (fun e2 => hzk e2.symm) b e hb2) hb
    · rcases mem_setG hz with ⟨rfl, -⟩ | ⟨hz, hzk⟩
      · have hyl := (h.each y hy).1.lt hb
        exact hnx b hyl (h.sep2 y hy x hx hyk b hb) hb2
      · exact h.sep2 y hy z hz hyz b hb hb2
theorem kid_put_string_other {D : DataW Unit} {s t : ByteArray} (h : t ≠ s) (b : Nat) : kid (D.put (.string s.data.toList) (kidD b)) t = kid D t := kid_put_other h b
/-- a new group -/
theorem HubG.addG {g' : Grp} {s n : ByteArray} (h : HubG W base H) (hs : ∀ x ∈ H.gs, x.key ≠ s) (hsz : s.size ≤ 1048576) (hsp : splitK s = some (n, g'.fil)) (hn : n ≠ ByteArray.empty) (hg : GrpIs W' base g') (hne : g'.ids ≠ []) (htn : g'.tn < g'.ids.length) (hnew : ∀ b ∈ g'.blocks, W.heap.size ≤ b)
    (hfr : Frame (fun b => b = H.gm) W W') (hmap : W'.ownsMap Tryz.prog 9 ptrR H.gm (H.gn + 1) (H.GD.put (.string s.data.toList) (kidD g'.gb))) : HubG W' base { H with gs := H.gs ++ [⟨s, g'⟩], gn := H.gn + 1, GD := H.GD.put (.string s.data.toList) (kidD g'.gb) } := by
  have hk : ∀ b, b < W.heap.size → b ≠ H.gm → W'.heap[b]? = W.heap[b]? := fun b h1 h2 => hfr.block b h1 h2
  have hmem : ∀ {y : KG}, y ∈ H.gs ++ [⟨s, g'⟩] → y ∈ H.gs ∨ y = ⟨s, g'⟩ := fun {y} hy => by
    rcases List.mem_append.1 hy with hy | hy
    · exact .inl hy
    · exact .inr (List.mem_singleton.1 hy)
  refine ⟨(hk _ h.hlt h.hg).trans h.box, h.tri.kept fun b hb => hk b ?_ (fun e => ?_), hmap, fun key b => ?_, ?_, fun y hy => ?_, h.hg, fun y hy b hb => ?_, fun y hy z hz hyz b hb hb2 => ?_, h.off1, h.off2, h.lo⟩
  · rcases hb with rfl | hb
    · exact h.tri.tri.lt
    · exact (h.tri.tri.is.lt hb).2
  · rcases hb with hb | hb
    · exact h.off2.1 (e ▸ hb)
    · exact h.off2.2 (e ▸ hb)
  · by_cases e : key = s
    · subst e
      rw [kid_put_same h.gmap.isMap]
      constructor
      · intro e; injection e with e; exact ⟨_, List.mem_append_right _ (List.mem_singleton.2 rfl), rfl, e⟩
      · rintro ⟨y, hy, h1, h2⟩
        rcases hmem hy with hy | rfl
        · exact absurd h1 (hs y hy)
        · rw [← h2]
    · rw [kid_put_other e, h.gby]
      constructor
      · rintro ⟨y, hy, h1, h2⟩; exact ⟨y, List.mem_append_left _ hy, h1, h2⟩
      · rintro ⟨y, hy, h1, h2⟩
        rcases hmem hy with hy | rfl
        · exact ⟨y, hy, h1, h2⟩
        · exact absurd h1.symm e
  · rw [List.map_append]
    refine List.nodup_append.2 ⟨h.keys, List.nodup_cons.2 ⟨List.not_mem_nil, List.nodup_nil⟩, fun a ha b hb e => ?_⟩
    have hb : b ∈ [s] := hb
    rw [List.mem_singleton] at hb
    subst hb; subst e
    obtain ⟨x, hx, e⟩ := List.mem_map.1 ha
    exact hs x hx e
  · rcases hmem hy with hy | rfl
    · obtain ⟨h1, h2⟩ := h.each y hy
      exact ⟨h1.kept fun b hb => hk b (h1.lt hb) (h.sep y hy b hb).2.1, h2⟩
    · exact ⟨hg, hne, htn, hsz, n, hsp, hn⟩
  · rcases hmem hy with hy | rfl
    · exact h.sep y hy b hb
    · have h1 := hnew b hb
      refine ⟨?_, ?_, ?_, fun e => ?_⟩
      · have := h.hlt; show b ≠ H.hb; omega
      · have := h.gmap.lt; show b ≠ H.gm; omega
      · have := h.tri.tri.lt; show b ≠ H.t; omega
      · have := (h.tri.tri.is.lt e).2; omega
  · rcases hmem hy with hy | rfl
    · rcases hmem hz with hz | rfl
      · exact h.sep2 y hy z hz hyz b hb hb2
      · have := hnew b hb2; have := (h.each y hy).1.lt hb; omega
    · rcases hmem hz with hz | rfl
      · have := hnew b hb; have := (h.each z hz).1.lt hb2; omega
      · exact hyz rfl
/-- a group is taken away -/
theorem HubG.delG {s : ByteArray} (h : HubG W base H) (hfr : Frame (fun b => b = H.gm) W W') (hmap : W'.ownsMap Tryz.prog 9 ptrR H.gm H.gn (H.GD.del (.string s.data.toList))) : HubG W' base { H with gs := H.gs.filter (fun x => decide (x.key.data.toList ≠ s.data.toList)), GD := H.GD.del (.string s.data.toList) } := by
  have hk : ∀ b, b < W.heap.size → b ≠ H.gm → W'.heap[b]? = W.heap[b]? := fun b h1 h2 => hfr.block b h1 h2
  have hmem : ∀ {y : KG}, y ∈ H.gs.filter (fun x => decide (x.key.data.toList ≠ s.data.toList)) ↔ y ∈ H.gs ∧ y.key ≠ s := fun {y} => by
    rw [List.mem_filter, decide_eq_true_eq]
    exact and_congr_right fun _ => ⟨fun h e => h (by rw [e]), fun h e => h (bytes_inj e)⟩
  refine ⟨(hk _ h.hlt h.hg).trans h.box, h.tri.kept fun b hb => hk b ?_ (fun e => ?_), hmap, fun key b => ?_, ?_, fun y hy => ?_, h.hg, fun y hy b hb => h.sep y (hmem.1 hy).1 b hb, fun y hy z hz hyz b hb hb2 => h.sep2 y (hmem.1 hy).1 z (hmem.1 hz).1 hyz b hb hb2, h.off1, h.off2, h.lo⟩
  · rcases hb with rfl | hb
    · exact h.tri.tri.lt
    · exact (h.tri.tri.is.lt hb).2
  · rcases hb with hb | hb
    · exact h.off2.1 (e ▸ hb)
    · exact h.off2.2 (e ▸ hb)
  · by_cases e : key = s
    · subst e
      rw [kid_del_same]
      constructor
      · intro e; cases e
      · rintro ⟨y, hy, h1, -⟩
        exact absurd h1 (hmem.1 hy).2
    · rw [kid_del_other e, h.gby]
      constructor
      · rintro ⟨y, hy, h1, h2⟩; exact ⟨y, hmem.2 ⟨hy, fun e2 => e (h1.symm.trans e2)⟩, h1, h2⟩
      · rintro ⟨y, hy, h1, h2⟩; exact ⟨y, (hmem.1 hy).1, h1, h2⟩
  · exact h.keys.sublist ((List.filter_sublist).map _)
  · obtain ⟨h1, h2⟩ := h.each y (hmem.1 hy).1
    exact ⟨h1.kept fun b hb => hk b (h1.lt hb) (h.sep y (hmem.1 hy).1 b hb).2.1, h2⟩
end
end
end Go.Proofs.YtincmegllckcjaaGreatDoor
