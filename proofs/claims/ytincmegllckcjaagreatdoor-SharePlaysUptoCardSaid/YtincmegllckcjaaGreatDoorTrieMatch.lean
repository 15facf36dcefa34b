/- TRIE: match. -/
import Derived.Deep.RegionHeld3
import Derived.Test.YtincmegllckcjaaGreatDoorMTrieAddW
namespace Go.Proofs.YtincmegllckcjaaGreatDoor
open Go Go.RowKit
attribute [local go_sem ↓] Go.wp_at_zero Go.wp_at_succ

def hashS : ByteArray := ⟨#[35]⟩
def plusS : ByteArray := ⟨#[43]⟩
/-- the filters, level by level, that have a name's levels -/
def Agr : List ByteArray → Bool → List ByteArray → Prop
  | [], wild, F => F = [] ∨ (wild = true ∧ F = [hashS])
  | l :: L, wild, F => (wild = true ∧ F = [hashS]) ∨ (∃ F', F = plusS :: F' ∧ wild = true ∧ Agr L true F') ∨ (∃ F', F = l :: F' ∧ Agr L true F')
/-- what does not change while match runs -/
structure MCtx (w : World) (base sz : Nat) (T : List Nd) (mb : Nat) (A : List Int) : Prop where
  is : TrieIs w base sz T
  free : ¬ foot T mb
  all : ∀ p z, IdAt T p z → z ∈ A
  wf : ∀ z ∈ A, (Lit.int .i64 z).wf = true
  few : A.length ≤ 100000000
  sz : sz ≤ 100000000
theorem MCtx.kept {w w' : World} {base sz : Nat} {T : List Nd} {mb : Nat} {A : List Int} (h : MCtx w base sz T mb A) (hf : Frame (fun b => b = mb) w w') : MCtx w' base sz T mb A :=
  ⟨h.is.kept fun b hb => hf.block b (h.is.lt hb).2 (fun e => h.free (e ▸ hb)), h.free, h.all, h.wf, h.few, h.sz⟩
/-- a child's numbers, or none -/
theorem MCtx.put {w : World} {base sz : Nat} {T : List Nd} {mb bb : Nat} {A : List Int} {D : DataW Unit} (h : MCtx w base sz T mb A) {x : Nd} (hx : x ∈ T) (s : ByteArray) (hF : FM w mb D A) (hb : w.heap[bb]? = some (.cells #[.map (some mb)] 102 (0, 0))) :
    Calls Tryz.prog 91 #[.pointer ((kid x.D s).map fun b => ⟨b, 0, none⟩), .pointer (some ⟨bb, 0, none⟩)] w (FoundPost w mb D A (fun z => IdAt T (x.path ++ [s]) z)) := by
  cases hk : kid x.D s with
  | none =>
    refine (fput_nil w bb mb D A hF).mono ?_
    rintro e w' ⟨h1, D', h2, h3, h4⟩
    refine ⟨h1, D', h2, fun y => ?_, h4⟩
    rw [h3]
    constructor
    · rintro (h5 | h5)
      · exact .inl h5
      · exact h5.elim
    · rintro (h5 | ⟨u, hu, hp, -⟩)
      · exact .inl h5
      · have := (h.is.kids x hx s u.a).2 ⟨u, hu, hp, rfl⟩
        rw [hk] at this
        cases this
  | some b =>
    obtain ⟨y, hy, hyp, rfl⟩ := (h.is.kids x hx s b).1 hk
    refine (fput_any w base sz bb mb y D A hF hb (h.is.each y hy) (fun e => h.free ⟨y, hy, e⟩) h.few (fun z hz => h.all y.path z ⟨y, hy, rfl, hz⟩) h.wf (by have := h.is.few y hy; have := h.sz; omega)).mono ?_
    rintro e w' ⟨h1, D', h2, h3, h4⟩
    refine ⟨h1, D', h2, fun z => ?_, h4⟩
    rw [h3]
    constructor
    · rintro (h5 | h5)
      · exact .inl h5
      · exact .inr ⟨y, hy, hyp, h5⟩
    · rintro (h5 | ⟨u, hu, hp, hz⟩)
      · exact .inl h5
      · obtain rfl := h.is.one hu hy (hp.trans hyp.symm)
        exact .inr hz
theorem MCtx.putSelf {w : World} {base sz : Nat} {T : List Nd} {mb bb : Nat} {A : List Int} {D : DataW Unit} (h : MCtx w base sz T mb A) {x : Nd} (hx : x ∈ T) (hF : FM w mb D A) (hb : w.heap[bb]? = some (.cells #[.map (some mb)] 102 (0, 0))) :
    Calls Tryz.prog 91 #[.pointer (some ⟨x.a, 0, none⟩), .pointer (some ⟨bb, 0, none⟩)] w (FoundPost w mb D A (fun z => IdAt T x.path z)) := by
  refine (fput_any w base sz bb mb x D A hF hb (h.is.each x hx) (fun e => h.free ⟨x, hx, e⟩) h.few (fun z hz => h.all x.path z ⟨x, hx, rfl, hz⟩) h.wf (by have := h.is.few x hx; have := h.sz; omega)).mono ?_
  rintro e w' ⟨h1, D', h2, h3, h4⟩
  refine ⟨h1, D', h2, fun z => ?_, h4⟩
  rw [h3]
  constructor
  · rintro (h5 | h5)
    · exact .inl h5
    · exact .inr ⟨x, hx, rfl, h5⟩
  · rintro (h5 | ⟨u, hu, hp, hz⟩)
    · exact .inl h5
    · obtain rfl := h.is.one hu hx hp
      exact .inr hz
structure MSt (A0 : World) (base sz : Nat) (T : List Nd) (mb : Nat) (A : List Int) (bb : Nat) (W : World) (D : DataW Unit) : Prop where
  ctx : MCtx W base sz T mb A
  fm : FM W mb D A
  box : W.heap[bb]? = some (.cells #[.map (some mb)] 102 (0, 0))
  fr : Frame (fun b => b = mb) A0 W
  low : bb < A0.heap.size ∧ ¬ foot T bb
theorem MCtx.drew {w : World} {base sz : Nat} {T : List Nd} {mb : Nat} {A : List Int} (h : MCtx w base sz T mb A) : MCtx w.drew base sz T mb A := ⟨h.is.kept fun _ _ => rfl, h.free, h.all, h.wf, h.few, h.sz⟩
theorem FM.drew {W : World} {mb : Nat} {D : DataW Unit} {A : List Int} (h : FM W mb D A) : FM W.drew mb D A := h.kept rfl
theorem Frame.undrew {F : Nat → Prop} {W W' : World} (h : Frame F W.drew W') : Frame F W W' := ⟨h.os, h.tape, h.output, h.size, h.block⟩
theorem Frame.drewN {F : Nat → Prop} {W W' : World} (h : Frame F W W') (n : Nat) : Frame F W (W'.drewN n) := ⟨h.os, h.tape, h.output, h.size, h.block⟩
theorem MSt.start {w : World} {base sz : Nat} {T : List Nd} {mb : Nat} {A : List Int} {D : DataW Unit} (hM : MCtx w base sz T mb A) (hF : FM w mb D A) : MSt (w.alloc (.cells #[.map (some mb)] 102)) base sz T mb A w.heap.size (w.alloc (.cells #[.map (some mb)] 102)) D :=
  ⟨hM.kept (Frame.of_below ((Below.refl _ _).alloc (Nat.le_refl _) _)), hF.kept (Below.heap_alloc _ _ _ hF.lt), heap_alloc_new w _, Frame.of_below (Below.refl _ _), by simp, fun h => by have := (hM.is.lt h).2; omega⟩
theorem MSt.step {A0 W W' : World} {base sz : Nat} {T : List Nd} {mb bb : Nat} {A : List Int} {D D' : DataW Unit} (h : MSt A0 base sz T mb A bb W D) (hF : FM W' mb D' A) (hf : Frame (fun b => b = mb) W W') : MSt A0 base sz T mb A bb W' D' := by
  have hne : bb ≠ mb := by
    obtain ⟨es, clock, h1, -⟩ := h.fm.own
    rintro rfl
    rw [h.box] at h1
    cases h1
  exact ⟨h.ctx.kept hf, hF, (hf.block bb (Array.getElem?_eq_some_iff.1 h.box).1 hne).trans h.box, h.fr.trans (hf.mono fun b hb => .inl hb), h.low⟩
theorem MSt.drewN {A0 W : World} {base sz : Nat} {T : List Nd} {mb bb : Nat} {A : List Int} {D : DataW Unit} (h : MSt A0 base sz T mb A bb W D) (n : Nat) : MSt A0 base sz T mb A bb (W.drewN n) D :=
  ⟨⟨h.ctx.is.kept fun _ _ => rfl, h.ctx.free, h.ctx.all, h.ctx.wf, h.ctx.few, h.ctx.sz⟩, h.fm.kept rfl, h.box, h.fr.drewN n, h.low⟩
theorem MSt.drew {A0 W : World} {base sz : Nat} {T : List Nd} {mb bb : Nat} {A : List Int} {D : DataW Unit} (h : MSt A0 base sz T mb A bb W D) : MSt A0 base sz T mb A bb W.drew D := h.drewN 1
theorem MSt.cell {A0 W : World} {base sz : Nat} {T : List Nd} {mb bb : Nat} {A : List Int} {D : DataW Unit} (h : MSt A0 base sz T mb A bb W D) {x : Nd} (hx : x ∈ T) : W.cell? ⟨x.a, 1, none⟩ = some (.map (some x.m)) := by
  rw [cell_of_row W x.a 1 _ _ _ (h.ctx.is.each x hx).box]; rfl
theorem MSt.lt {A0 W : World} {base sz : Nat} {T : List Nd} {mb bb : Nat} {A : List Int} {D : DataW Unit} (h : MSt A0 base sz T mb A bb W D) {x : Nd} (hx : x ∈ T) : x.a < W.heap.size := (Array.getElem?_eq_some_iff.1 (h.ctx.is.each x hx).box).1
theorem MSt.look {A0 W : World} {base sz : Nat} {T : List Nd} {mb bb : Nat} {A : List Int} {D : DataW Unit} (h : MSt A0 base sz T mb A bb W D) {x : Nd} (hx : x ∈ T) {s : ByteArray} (hs : s.size ≤ maxLen) :
    (Instr.lookup 99 (.map (some x.m)) (.string s) false).run Tryz.prog W = .ok (.pointer ((kid x.D s).map fun b => ⟨b, 0, none⟩)) W := (look_any (h.ctx.is.each x hx) hs).1
theorem MSt.cellB {A0 W : World} {base sz : Nat} {T : List Nd} {mb bb : Nat} {A : List Int} {D : DataW Unit} (h : MSt A0 base sz T mb A bb W D) : W.cell? ⟨bb, 0, none⟩ = some (.map (some mb)) := by rw [cell_of_row W bb 0 _ _ _ h.box]; rfl
theorem MSt.ltB {A0 W : World} {base sz : Nat} {T : List Nd} {mb bb : Nat} {A : List Int} {D : DataW Unit} (h : MSt A0 base sz T mb A bb W D) : bb < W.heap.size := (Array.getElem?_eq_some_iff.1 h.box).1
theorem fm_no_cell {W : World} {mb : Nat} {D : DataW Unit} {A : List Int} (h : FM W mb D A) {o : Nat} {v : Value} (hc : W.cell? ⟨mb, o, none⟩ = some v) : False := by
  obtain ⟨es, clock, h1, -⟩ := h.own
  unfold World.cell? at hc
  rw [h1] at hc
  cases hc
theorem MSt.old {A0 W : World} {base sz : Nat} {T : List Nd} {mb bb : Nat} {A : List Int} {D : DataW Unit} (h : MSt A0 base sz T mb A bb W D) {b o : Nat} {l : ByteArray} (hc : ∃ v, A0.cell? ⟨b, o, none⟩ = some v ∧ v = .string l ∧ b ≠ mb) : W.cell? ⟨b, o, none⟩ = some (.string l) := by
  obtain ⟨v, hc, rfl, hne⟩ := hc
  rw [← hc]
  exact World.cell?_of_block (h.fr.block b (World.block_lt_of_cell? A0 _ hc) hne)
theorem MSt.frame {A0 W w : World} {base sz : Nat} {T : List Nd} {mb bb : Nat} {A : List Int} {D : DataW Unit} (h : MSt A0 base sz T mb A bb W D) (hA : w.alloc (.cells #[.map (some mb)] 102) = A0) : Frame (fun b => b = mb) w W := by
  have h1 : Frame (fun b => b = mb) w A0 := by rw [← hA]; exact Frame.of_below ((Below.refl _ _).alloc (Nat.le_refl _) _)
  exact h1.trans (h.fr.mono fun b hb => .inl hb)
theorem TrieIs.pre {W : World} {base sz : Nat} {T : List Nd} (h : TrieIs W base sz T) {q : List ByteArray} : ∀ (n : Nat) (r : List ByteArray), r.length = n → ∀ u ∈ T, u.path = q ++ r → ∃ v ∈ T, v.path = q
  | 0, r, hr, u, hu, hp => by
    have : r = [] := List.eq_nil_of_length_eq_zero hr
    subst this
    exact ⟨u, hu, by rw [hp, List.append_nil]⟩
  | n + 1, r, hr, u, hu, hp => by
    obtain ⟨r', t, rfl⟩ : ∃ r' t, r = r' ++ [t] := ⟨r.dropLast, r.getLast (by intro e; rw [e] at hr; cases hr), (List.dropLast_concat_getLast _).symm⟩
    rw [← List.append_assoc] at hp
    obtain ⟨v, hv, hvp⟩ := h.par u hu _ _ hp
    exact h.pre n r' (by simpa using hr) v hv hvp
theorem TrieIs.gone {W : World} {base sz : Nat} {T : List Nd} (h : TrieIs W base sz T) {x : Nd} (hx : x ∈ T) {s : ByteArray} (hk : kid x.D s = none) (F : List ByteArray) (z : Int) : ¬ IdAt T (x.path ++ [s] ++ F) z := by
  rintro ⟨u, hu, hp, -⟩
  obtain ⟨v, hv, hvp⟩ := h.pre F.length F rfl u hu hp
  have := (h.kids x hx s v.a).2 ⟨v, hv, hvp, rfl⟩
  rw [hk] at this
  cases this
theorem agr_nil {T : List Nd} {p : List ByteArray} {wild : Bool} {z : Int} : (∃ F, Agr [] wild F ∧ IdAt T (p ++ F) z) ↔ IdAt T p z ∨ (wild = true ∧ IdAt T (p ++ [hashS]) z) := by
  unfold Agr
  constructor
  · rintro ⟨F, h | ⟨h1, h⟩, hI⟩
    · subst h; rw [List.append_nil] at hI; exact .inl hI
    · subst h; exact .inr ⟨h1, hI⟩
  · rintro (h | ⟨h1, h⟩)
    · exact ⟨[], .inl rfl, by rw [List.append_nil]; exact h⟩
    · exact ⟨_, .inr ⟨h1, rfl⟩, h⟩
theorem agr_cons {T : List Nd} {p L : List ByteArray} {l : ByteArray} {wild : Bool} {z : Int} : (∃ F, Agr (l :: L) wild F ∧ IdAt T (p ++ F) z) ↔ (wild = true ∧ IdAt T (p ++ [⟨#[35]⟩]) z) ∨ (wild = true ∧ ∃ F, Agr L true F ∧ IdAt T (p ++ [⟨#[43]⟩] ++ F) z) ∨ ∃ F, Agr L true F ∧ IdAt T (p ++ [l] ++ F) z := by
  constructor
  · rintro ⟨F, h, hI⟩
    unfold Agr at h
    rcases h with ⟨h1, h⟩ | ⟨F', h, h1, h2⟩ | ⟨F', h, h2⟩
    · subst h; exact .inl ⟨h1, hI⟩
    · subst h; exact .inr (.inl ⟨h1, F', h2, by rw [List.append_assoc]; exact hI⟩)
    · subst h; exact .inr (.inr ⟨F', h2, by rw [List.append_assoc]; exact hI⟩)
  · rintro (⟨h1, h⟩ | ⟨h1, F, h2, h⟩ | ⟨F, h2, h⟩)
    · exact ⟨_, by unfold Agr; exact .inl ⟨h1, rfl⟩, h⟩
    · exact ⟨plusS :: F, by unfold Agr; exact .inr (.inl ⟨F, rfl, h1, h2⟩), by rw [List.append_assoc] at h; exact h⟩
    · exact ⟨l :: F, by unfold Agr; exact .inr (.inr ⟨F, rfl, h2⟩), by rw [List.append_assoc] at h; exact h⟩
theorem run_rest (n b o cap : Nat) (hc : n + 1 ≤ cap) (w : World) :
    (Sem.run Tryz.prog (Instr.slice 55 (.slice (some ⟨b, o, none⟩) (n + 1) cap) (some (Value.int IntKind.i64 1)) none none) w) = .ok (.slice (if cap = 1 then some ⟨b, o, none⟩ else some ⟨b, o + 1, none⟩) n (cap - 1)) w := by
  have c1 : (1 : Int) ≤ (n : Int) + 1 := by omega
  have c2 : (n : Int) + 1 ≤ cap := by omega
  go_simp
/-- 'levels[1:]' -/
theorem Sl.tail {w : World} {b o cap : Nat} {l : ByteArray} {L : List ByteArray} (hS : Sl w (.slice (some ⟨b, o, none⟩) (l :: L).length cap) (l :: L)) :
    ∃ q cq, (∀ w' : World, Sem.run Tryz.prog (Instr.slice 55 (.slice (some ⟨b, o, none⟩) (l :: L).length cap) (some (Value.int IntKind.i64 1)) none none) w' = .ok (.slice q L.length cq) w') ∧ Sl w (.slice q L.length cq) L := by
  obtain ⟨p, cap', e, h1, h2, h3⟩ := hS
  injection e with e1 _ e2
  subst e1; subst e2
  rcases h3 with h3 | ⟨b', o', e, h3⟩
  · cases h3
  · injection e with e
    injection e with e1 e2
    subst e1; subst e2
    exact ⟨_, _, fun w' => run_rest L.length b o cap h1 w', Sl.rest h1 h2 h3⟩
theorem Sl.frame {w W : World} {v : Value} {L : List ByteArray} {mb : Nat} {D : DataW Unit} {A : List Int} (hS : Sl w v L) (hF : FM w mb D A) (hW : Frame (fun b => b = mb) (w.alloc (.cells #[.map (some mb)] 102)) W) : Sl W.drew v L := by
  obtain ⟨p, cap, rfl, h1, h2, h3⟩ := hS
  refine ⟨p, cap, rfl, h1, h2, ?_⟩
  rcases h3 with h3 | ⟨b, o, rfl, h3⟩
  · exact .inl h3
  · refine .inr ⟨b, o, rfl, fun j x hj => ?_⟩
    have hc := h3 j x hj
    have hlt := World.block_lt_of_cell? w _ hc
    rw [← hc]
    exact World.cell?_of_block ((hW.block b (by rw [World.size_alloc]; exact Nat.lt_succ_of_lt hlt) (fun e => by subst e; exact fm_no_cell hF hc)).trans (Below.heap_alloc _ _ _ hlt))
set_option maxRecDepth 100000 in
set_option maxHeartbeats 4000000 in
theorem match_nil (w : World) (base sz : Nat) (T : List Nd) (mb : Nat) (A : List Int) (x : Nd) (wild : Bool) (D : DataW Unit) (v : Value) (hM : MCtx w base sz T mb A) (hx : x ∈ T) (hS : Sl w v []) (hF : FM w mb D A) :
    Calls Tryz.prog 61 #[.pointer (some ⟨x.a, 0, none⟩), v, .bool wild, .map (some mb)] w (FoundPost w mb D A (fun z => ∃ F, Agr [] wild F ∧ IdAt T (x.path ++ F) z)) := by
  obtain ⟨p, cap, rfl, -⟩ := hS
  obtain ⟨PP, hPP⟩ : ∃ PP, FoundPost w mb D A (fun z => ∃ F, Agr [] wild F ∧ IdAt T (x.path ++ F) z) = PP := ⟨_, rfl⟩
  rw [hPP]
  have HPP := Lib.hid hPP
  obtain ⟨A0, hA0⟩ : ∃ A0, w.alloc (.cells #[.map (some mb)] 102) = A0 := ⟨_, rfl⟩
  have S0 : Hid (MSt A0 base sz T mb A w.heap.size A0 D) := by show MSt _ _ _ _ _ _ _ _ _; rw [← hA0]; exact MSt.start hM hF
  have HX := Lib.hid hx
  have HAA := Lib.hid hA0
  clear hPP hM hx hF hA0
  cases wild with
  | true =>
    go_enter Tryz.func61, Tryz.ntmps61
    have c1 := S0.out.cell HX.out
    have hxl := S0.out.lt HX.out
    have hlk := S0.out.look HX.out (s := ⟨#[35]⟩) (by unfold maxLen; decide)
    have C1 := Lib.hid (S0.out.ctx.put HX.out ⟨#[35]⟩ S0.out.fm S0.out.box)
    obtain ⟨pk, hpk⟩ : ∃ pk, (kid x.D ⟨#[35]⟩).map (fun b => (⟨b, 0, none⟩ : Addr)) = pk := ⟨_, rfl⟩
    rw [hpk] at hlk C1
    go_upto_region 3 with fail
    rw [HAA.out]
    go_wp2_with fail
    refine C1.out.mono ?_
    rintro e W1 ⟨rfl, D1, hF1, hD1, hfr1⟩
    have S1 := Lib.hid (S0.out.step hF1 hfr1)
    have HD1 := Lib.hid hD1
    clear hF1 hD1 hfr1 c1 hxl hlk hpk C1
    have C2 := Lib.hid (S1.out.ctx.putSelf HX.out S1.out.fm S1.out.box)
    go_wp2_with fail
    refine C2.out.mono ?_
    rintro e W2 ⟨rfl, D2, hF2, hD2, hfr2⟩
    have S2 := Lib.hid (S1.out.step hF2 hfr2)
    have HD2 := Lib.hid hD2
    clear hF2 hD2 hfr2
    go_wp2_with fail
    refine bodyPost_ret (v := .tuple #[]) (by simp [results, Tryz.results61]) rfl ?_
    rw [← HPP.out]
    refine ⟨rfl, D2, S2.out.fm, fun z => ?_, S2.out.frame HAA.out⟩
    show _ ↔ _ ∨ ∃ F, Agr [] true F ∧ IdAt T (x.path ++ F) z
    rw [HD2.out, HD1.out, agr_nil]
    simp only [true_and]
    exact ⟨fun h => by rcases h with (h | h) | h; exact .inl h; exact .inr (.inr h); exact .inr (.inl h), fun h => by rcases h with h | h | h; exact .inl (.inl h); exact .inr h; exact .inl (.inr h)⟩
  | false =>
    have C2 := Lib.hid (S0.out.ctx.putSelf HX.out S0.out.fm S0.out.box)
    go_enter Tryz.func61, Tryz.ntmps61
    go_upto_region 5 with fail
    rw [HAA.out]
    go_wp2_with fail
    refine C2.out.mono ?_
    rintro e W2 ⟨rfl, D2, hF2, hD2, hfr2⟩
    have S2 := Lib.hid (S0.out.step hF2 hfr2)
    have HD2 := Lib.hid hD2
    clear hF2 hD2 hfr2
    go_wp2_with fail
    refine bodyPost_ret (v := .tuple #[]) (by simp [results, Tryz.results61]) rfl ?_
    rw [← HPP.out]
    refine ⟨rfl, D2, S2.out.fm, fun z => ?_, S2.out.frame HAA.out⟩
    show _ ↔ _ ∨ ∃ F, Agr [] false F ∧ IdAt T (x.path ++ F) z
    rw [HD2.out, agr_nil]
    simp
set_option maxRecDepth 100000 in
set_option maxHeartbeats 8000000 in
theorem match_cons (l : ByteArray) (L : List ByteArray) (hls : l.size ≤ maxLen) (IH : Hid (∀ (w : World) (base sz : Nat) (T : List Nd) (mb : Nat) (A : List Int) (x : Nd) (wild : Bool) (D : DataW Unit) (v : Value), MCtx w base sz T mb A → x ∈ T → Sl w v L → FM w mb D A →
      Calls Tryz.prog 61 #[.pointer (some ⟨x.a, 0, none⟩), v, .bool wild, .map (some mb)] w (FoundPost w mb D A (fun z => ∃ F, Agr L wild F ∧ IdAt T (x.path ++ F) z))))
    (w : World) (base sz : Nat) (T : List Nd) (mb : Nat) (A : List Int) (x : Nd) (wild : Bool) (D : DataW Unit) (v : Value) (hM : MCtx w base sz T mb A) (hx : x ∈ T) (hS : Sl w v (l :: L)) (hF : FM w mb D A) :
    Calls Tryz.prog 61 #[.pointer (some ⟨x.a, 0, none⟩), v, .bool wild, .map (some mb)] w (FoundPost w mb D A (fun z => ∃ F, Agr (l :: L) wild F ∧ IdAt T (x.path ++ F) z)) := by
  obtain ⟨PP, hPP⟩ : ∃ PP, FoundPost w mb D A (fun z => ∃ F, Agr (l :: L) wild F ∧ IdAt T (x.path ++ F) z) = PP := ⟨_, rfl⟩
  rw [hPP]
  have HPP := Lib.hid hPP
  obtain ⟨A0, hA0⟩ : ∃ A0, w.alloc (.cells #[.map (some mb)] 102) = A0 := ⟨_, rfl⟩
  have S0 : Hid (MSt A0 base sz T mb A w.heap.size A0 D) := by show MSt _ _ _ _ _ _ _ _ _; rw [← hA0]; exact MSt.start hM hF
  have HX := Lib.hid hx
  have HAA := Lib.hid hA0
  obtain ⟨p, cap, rfl, hc1, hc2, hc3⟩ := id hS
  obtain ⟨b, o, rfl, hc4⟩ : ∃ b o, p = some ⟨b, o, none⟩ ∧ ∀ (j : Nat) z, (l :: L)[j]? = some z → w.cell? ⟨b, o + j, none⟩ = some (.string z) := by
    rcases hc3 with h | h
    · cases h
    · exact h
  obtain ⟨q2, cap2, hsl, hrest⟩ := Sl.tail hS
  have HSR : Hid (∀ W, Frame (fun b => b = mb) A0 W → Sl W.drew (.slice q2 L.length cap2) L) := fun W hW => Sl.frame hrest hF (by rw [hA0]; exact hW)
  have HCL : Hid (∃ v, A0.cell? ⟨b, o, none⟩ = some v ∧ v = .string l ∧ b ≠ mb) := by
    have h1 := hc4 0 l rfl
    refine ⟨_, ?_, rfl, fun e => by subst e; exact fm_no_cell hF h1⟩
    rw [← hA0]
    exact ((Below.refl _ _).alloc (Nat.le_refl _) _ : Below w.heap.size w _).cell (World.block_lt_of_cell? w _ h1) |>.trans h1
  have HLS := Lib.hid hls
  simp only [List.length_cons] at hc1 hsl ⊢
  clear hPP hM hx hF hA0 hS hc3 hc4 hrest hls
  cases wild with
  | true =>
    go_enter Tryz.func61, Tryz.ntmps61
    have c1 := S0.out.cell HX.out
    have hxl := S0.out.lt HX.out
    have hlk := S0.out.look HX.out (s := ⟨#[35]⟩) (by unfold maxLen; decide)
    have C1 := Lib.hid (S0.out.ctx.put HX.out ⟨#[35]⟩ S0.out.fm S0.out.box)
    obtain ⟨pk, hpk⟩ : ∃ pk, (kid x.D ⟨#[35]⟩).map (fun b => (⟨b, 0, none⟩ : Addr)) = pk := ⟨_, rfl⟩
    rw [hpk] at hlk C1
    go_upto_region 3 with fail
    rw [HAA.out]
    go_wp2_with fail
    refine C1.out.mono ?_
    rintro e W1 ⟨rfl, D1, hF1, hD1, hfr1⟩
    have S1 := Lib.hid (S0.out.step hF1 hfr1)
    have HD1 := Lib.hid hD1
    clear hF1 hD1 hfr1 c1 hxl hlk hpk C1
    have c2 := S1.out.cell HX.out
    have hxl2 := S1.out.lt HX.out
    have hlk2 := S1.out.look HX.out (s := ⟨#[43]⟩) (by unfold maxLen; decide)
    cases hkp : kid x.D ⟨#[43]⟩ with
    | none =>
      rw [hkp] at hlk2
      simp only [Option.map_none] at hlk2
      have HKP := Lib.hid hkp
      clear hkp
      go_upto_region 9 with fail
      clear c2 hxl2 hlk2
      have c3 := S1.out.cell HX.out
      have hxl3 := S1.out.lt HX.out
      have cl3 := S1.out.old HCL.out
      have hbl3 := World.block_lt_of_cell? W1 _ cl3
      have hlk3 := fun n => (S1.out.drewN n).look HX.out (s := l) HLS.out
      cases hkl : kid x.D l with
      | none =>
        rw [hkl] at hlk3
        simp only [Option.map_none] at hlk3
        have HKL := Lib.hid hkl
        clear hkl
        go_upto_region 9 with fail
        go_quiet (fail)
        go_wp2_with fail
        refine bodyPost_ret (v := .tuple #[]) (by simp [results, Tryz.results61]) rfl ?_
        rw [← HPP.out]
        refine ⟨rfl, D1, (S1.out.drewN _).fm, fun z => ?_, (S1.out.drewN _).frame HAA.out⟩
        show _ ↔ _ ∨ ∃ F, Agr (l :: L) true F ∧ IdAt T (x.path ++ F) z
        rw [HD1.out, agr_cons]
        have hnp := S0.out.ctx.is.gone HX.out HKP.out
        have hnl := S0.out.ctx.is.gone HX.out HKL.out
        simp only [true_and]
        constructor
        · intro h
          rcases h with h | h
          · exact .inl h
          · exact .inr (.inl h)
        · intro h
          rcases h with h | h | h | h
          · exact .inl h
          · exact .inr h
          · obtain ⟨F, -, hF⟩ := h; exact absurd hF (hnp F z)
          · obtain ⟨F, -, hF⟩ := h; exact absurd hF (hnl F z)
      | some ky =>
        rw [hkl] at hlk3
        simp only [Option.map_some] at hlk3
        obtain ⟨y2, hy2, hyp2, rfl⟩ := (S0.out.ctx.is.kids x HX.out l ky).1 hkl
        have HY5 := Lib.hid hy2
        have HYP2 := Lib.hid hyp2
        clear hkl hy2 hyp2
        go_upto_region 9 with fail
        go_quiet (fail)
        go_upto_region 11 with fail
        refine wp_world (fun W => MSt A0 base sz T mb A w.heap.size W D1) (by first | exact S1.out.drewN _ | exact S1.out.drew | exact S1.out) (fun W5 hW5 => ?_)
        have S5 := Lib.hid hW5
        clear hW5 c3 hxl3 cl3 hbl3 hlk3
        have CK5 : Hid (Calls Tryz.prog 61 #[.pointer (some ⟨y2.a, 0, none⟩), .slice q2 L.length cap2, .bool true, .map (some mb)] W5.drew (FoundPost W5.drew mb D1 A (fun z => ∃ F, Agr L true F ∧ IdAt T (y2.path ++ F) z))) := IH.out W5.drew base sz T mb A y2 true D1 _ S5.out.ctx.drew HY5.out (HSR.out W5 S5.out.fr) S5.out.fm.drew
        have cb5 := S5.out.cellB
        have hbl5 := S5.out.ltB
        go_region_with (first | (go_at_call 61; refine CK5.out.mono ?_; rintro e W3 ⟨rfl, D3, hF3, hD3, hfr3⟩))
        have S3 := Lib.hid (S5.out.step hF3 (hfr3.undrew))
        have HD3 := Lib.hid hD3
        clear hF3 hD3 hfr3 cb5 hbl5 CK5
        go_wp2_with fail
        refine bodyPost_ret (v := .tuple #[]) (by simp [results, Tryz.results61]) rfl ?_
        rw [← HPP.out]
        refine ⟨rfl, D3, S3.out.fm, fun z => ?_, S3.out.frame HAA.out⟩
        show _ ↔ _ ∨ ∃ F, Agr (l :: L) true F ∧ IdAt T (x.path ++ F) z
        rw [HD3.out, HD1.out, agr_cons]
        rw [HYP2.out]
        have hnp := S0.out.ctx.is.gone HX.out HKP.out
        simp only [true_and]
        constructor
        · intro h
          rcases h with (h | h) | h
          · exact .inl h
          · exact .inr (.inl h)
          · exact .inr (.inr (.inr h))
        · intro h
          rcases h with h | h | h | h
          · exact .inl (.inl h)
          · exact .inl (.inr h)
          · obtain ⟨F, -, hF⟩ := h; exact absurd hF (hnp F z)
          · exact .inr h
    | some kx =>
      rw [hkp] at hlk2
      simp only [Option.map_some] at hlk2
      obtain ⟨y1, hy1, hyp1, rfl⟩ := (S0.out.ctx.is.kids x HX.out ⟨#[43]⟩ kx).1 hkp
      have HY1 := Lib.hid hy1
      have HYP1 := Lib.hid hyp1
      clear hkp hy1 hyp1
      go_upto_region 8 with fail
      clear c2 hxl2 hlk2
      have CK1 : Hid (Calls Tryz.prog 61 #[.pointer (some ⟨y1.a, 0, none⟩), .slice q2 L.length cap2, .bool true, .map (some mb)] W1.drew (FoundPost W1.drew mb D1 A (fun z => ∃ F, Agr L true F ∧ IdAt T (y1.path ++ F) z))) := IH.out W1.drew base sz T mb A y1 true D1 _ S1.out.ctx.drew HY1.out (HSR.out W1 S1.out.fr) S1.out.fm.drew
      have cb1 := S1.out.cellB
      have hbl1 := S1.out.ltB
      go_region_with (first | (go_at_call 61; refine CK1.out.mono ?_; rintro e W2 ⟨rfl, D2, hF2, hD2, hfr2⟩))
      have S2 := Lib.hid (S1.out.step hF2 (hfr2.undrew))
      have HD2 := Lib.hid hD2
      clear hF2 hD2 hfr2 cb1 hbl1 CK1
      have c3 := S2.out.cell HX.out
      have hxl3 := S2.out.lt HX.out
      have cl3 := S2.out.old HCL.out
      have hbl3 := World.block_lt_of_cell? W2 _ cl3
      have hlk3 := fun n => (S2.out.drewN n).look HX.out (s := l) HLS.out
      cases hkl : kid x.D l with
      | none =>
        rw [hkl] at hlk3
        simp only [Option.map_none] at hlk3
        have HKL := Lib.hid hkl
        clear hkl
        go_upto_region 9 with fail
        go_quiet (fail)
        go_wp2_with fail
        refine bodyPost_ret (v := .tuple #[]) (by simp [results, Tryz.results61]) rfl ?_
        rw [← HPP.out]
        refine ⟨rfl, D2, (S2.out.drewN _).fm, fun z => ?_, (S2.out.drewN _).frame HAA.out⟩
        show _ ↔ _ ∨ ∃ F, Agr (l :: L) true F ∧ IdAt T (x.path ++ F) z
        rw [HD2.out, HD1.out, agr_cons]
        rw [HYP1.out]
        have hnl := S0.out.ctx.is.gone HX.out HKL.out
        simp only [true_and]
        constructor
        · intro h
          rcases h with (h | h) | h
          · exact .inl h
          · exact .inr (.inl h)
          · exact .inr (.inr (.inl h))
        · intro h
          rcases h with h | h | h | h
          · exact .inl (.inl h)
          · exact .inl (.inr h)
          · exact .inr h
          · obtain ⟨F, -, hF⟩ := h; exact absurd hF (hnl F z)
      | some ky =>
        rw [hkl] at hlk3
        simp only [Option.map_some] at hlk3
        obtain ⟨y2, hy2, hyp2, rfl⟩ := (S0.out.ctx.is.kids x HX.out l ky).1 hkl
        have HY5 := Lib.hid hy2
        have HYP2 := Lib.hid hyp2
        clear hkl hy2 hyp2
        go_upto_region 9 with fail
        go_quiet (fail)
        go_upto_region 11 with fail
        refine wp_world (fun W => MSt A0 base sz T mb A w.heap.size W D2) (by first | exact S2.out.drewN _ | exact S2.out.drew | exact S2.out) (fun W5 hW5 => ?_)
        have S5 := Lib.hid hW5
        clear hW5 c3 hxl3 cl3 hbl3 hlk3
        have CK5 : Hid (Calls Tryz.prog 61 #[.pointer (some ⟨y2.a, 0, none⟩), .slice q2 L.length cap2, .bool true, .map (some mb)] W5.drew (FoundPost W5.drew mb D2 A (fun z => ∃ F, Agr L true F ∧ IdAt T (y2.path ++ F) z))) := IH.out W5.drew base sz T mb A y2 true D2 _ S5.out.ctx.drew HY5.out (HSR.out W5 S5.out.fr) S5.out.fm.drew
        have cb5 := S5.out.cellB
        have hbl5 := S5.out.ltB
        go_region_with (first | (go_at_call 61; refine CK5.out.mono ?_; rintro e W3 ⟨rfl, D3, hF3, hD3, hfr3⟩))
        have S3 := Lib.hid (S5.out.step hF3 (hfr3.undrew))
        have HD3 := Lib.hid hD3
        clear hF3 hD3 hfr3 cb5 hbl5 CK5
        go_wp2_with fail
        refine bodyPost_ret (v := .tuple #[]) (by simp [results, Tryz.results61]) rfl ?_
        rw [← HPP.out]
        refine ⟨rfl, D3, S3.out.fm, fun z => ?_, S3.out.frame HAA.out⟩
        show _ ↔ _ ∨ ∃ F, Agr (l :: L) true F ∧ IdAt T (x.path ++ F) z
        rw [HD3.out, HD2.out, HD1.out, agr_cons]
        rw [HYP2.out, HYP1.out]
        simp only [true_and]
        constructor
        · intro h
          rcases h with ((h | h) | h) | h
          · exact .inl h
          · exact .inr (.inl h)
          · exact .inr (.inr (.inl h))
          · exact .inr (.inr (.inr h))
        · intro h
          rcases h with h | h | h | h
          · exact .inl (.inl (.inl h))
          · exact .inl (.inl (.inr h))
          · exact .inl (.inr h)
          · exact .inr h
  | false =>
    go_enter Tryz.func61, Tryz.ntmps61
    go_upto_region 6 with fail
    rw [HAA.out]
    have c2 := S0.out.cell HX.out
    have hxl2 := S0.out.lt HX.out
    have hlk2 := S0.out.look HX.out (s := ⟨#[43]⟩) (by unfold maxLen; decide)
    cases hkp : kid x.D ⟨#[43]⟩ with
    | none =>
      rw [hkp] at hlk2
      simp only [Option.map_none] at hlk2
      have HKP := Lib.hid hkp
      clear hkp
      go_upto_region 9 with fail
      clear c2 hxl2 hlk2
      have c3 := S0.out.cell HX.out
      have hxl3 := S0.out.lt HX.out
      have cl3 := S0.out.old HCL.out
      have hbl3 := World.block_lt_of_cell? A0 _ cl3
      have hlk3 := fun n => (S0.out.drewN n).look HX.out (s := l) HLS.out
      cases hkl : kid x.D l with
      | none =>
        rw [hkl] at hlk3
        simp only [Option.map_none] at hlk3
        have HKL := Lib.hid hkl
        clear hkl
        go_upto_region 9 with fail
        go_quiet (fail)
        go_wp2_with fail
        refine bodyPost_ret (v := .tuple #[]) (by simp [results, Tryz.results61]) rfl ?_
        rw [← HPP.out]
        refine ⟨rfl, D, (S0.out.drewN _).fm, fun z => ?_, (S0.out.drewN _).frame HAA.out⟩
        show _ ↔ _ ∨ ∃ F, Agr (l :: L) false F ∧ IdAt T (x.path ++ F) z
        rw [agr_cons]
        have hnl := S0.out.ctx.is.gone HX.out HKL.out
        simp only [Bool.false_eq_true, false_and, false_or]
        constructor
        · intro h
          exact .inl h
        · intro h
          rcases h with h | h
          · exact h
          · obtain ⟨F, -, hF⟩ := h; exact absurd hF (hnl F z)
      | some ky =>
        rw [hkl] at hlk3
        simp only [Option.map_some] at hlk3
        obtain ⟨y2, hy2, hyp2, rfl⟩ := (S0.out.ctx.is.kids x HX.out l ky).1 hkl
        have HY5 := Lib.hid hy2
        have HYP2 := Lib.hid hyp2
        clear hkl hy2 hyp2
        go_upto_region 9 with fail
        go_quiet (fail)
        go_upto_region 11 with fail
        refine wp_world (fun W => MSt A0 base sz T mb A w.heap.size W D) (by first | exact S0.out.drewN _ | exact S0.out.drew | exact S0.out) (fun W5 hW5 => ?_)
        have S5 := Lib.hid hW5
        clear hW5 c3 hxl3 cl3 hbl3 hlk3
        have CK5 : Hid (Calls Tryz.prog 61 #[.pointer (some ⟨y2.a, 0, none⟩), .slice q2 L.length cap2, .bool true, .map (some mb)] W5.drew (FoundPost W5.drew mb D A (fun z => ∃ F, Agr L true F ∧ IdAt T (y2.path ++ F) z))) := IH.out W5.drew base sz T mb A y2 true D _ S5.out.ctx.drew HY5.out (HSR.out W5 S5.out.fr) S5.out.fm.drew
        have cb5 := S5.out.cellB
        have hbl5 := S5.out.ltB
        go_region_with (first | (go_at_call 61; refine CK5.out.mono ?_; rintro e W3 ⟨rfl, D3, hF3, hD3, hfr3⟩))
        have S3 := Lib.hid (S5.out.step hF3 (hfr3.undrew))
        have HD3 := Lib.hid hD3
        clear hF3 hD3 hfr3 cb5 hbl5 CK5
        go_wp2_with fail
        refine bodyPost_ret (v := .tuple #[]) (by simp [results, Tryz.results61]) rfl ?_
        rw [← HPP.out]
        refine ⟨rfl, D3, S3.out.fm, fun z => ?_, S3.out.frame HAA.out⟩
        show _ ↔ _ ∨ ∃ F, Agr (l :: L) false F ∧ IdAt T (x.path ++ F) z
        rw [HD3.out, agr_cons]
        rw [HYP2.out]
        simp only [Bool.false_eq_true, false_and, false_or]
    | some kx =>
      rw [hkp] at hlk2
      simp only [Option.map_some] at hlk2
      obtain ⟨y1, hy1, hyp1, rfl⟩ := (S0.out.ctx.is.kids x HX.out ⟨#[43]⟩ kx).1 hkp
      have HY0 := Lib.hid hy1
      have HYP1 := Lib.hid hyp1
      clear hkp hy1 hyp1
      go_upto_region 9 with fail
      clear c2 hxl2 hlk2
      have c3 := S0.out.cell HX.out
      have hxl3 := S0.out.lt HX.out
      have cl3 := S0.out.old HCL.out
      have hbl3 := World.block_lt_of_cell? A0 _ cl3
      have hlk3 := fun n => (S0.out.drewN n).look HX.out (s := l) HLS.out
      cases hkl : kid x.D l with
      | none =>
        rw [hkl] at hlk3
        simp only [Option.map_none] at hlk3
        have HKL := Lib.hid hkl
        clear hkl
        go_upto_region 9 with fail
        go_quiet (fail)
        go_wp2_with fail
        refine bodyPost_ret (v := .tuple #[]) (by simp [results, Tryz.results61]) rfl ?_
        rw [← HPP.out]
        refine ⟨rfl, D, (S0.out.drewN _).fm, fun z => ?_, (S0.out.drewN _).frame HAA.out⟩
        show _ ↔ _ ∨ ∃ F, Agr (l :: L) false F ∧ IdAt T (x.path ++ F) z
        rw [agr_cons]
        have hnl := S0.out.ctx.is.gone HX.out HKL.out
        simp only [Bool.false_eq_true, false_and, false_or]
        constructor
        · intro h
          exact .inl h
        · intro h
          rcases h with h | h
          · exact h
          · obtain ⟨F, -, hF⟩ := h; exact absurd hF (hnl F z)
      | some ky =>
        rw [hkl] at hlk3
        simp only [Option.map_some] at hlk3
        obtain ⟨y2, hy2, hyp2, rfl⟩ := (S0.out.ctx.is.kids x HX.out l ky).1 hkl
        have HY5 := Lib.hid hy2
        have HYP2 := Lib.hid hyp2
        clear hkl hy2 hyp2
        go_upto_region 9 with fail
        go_quiet (fail)
        go_upto_region 11 with fail
        refine wp_world (fun W => MSt A0 base sz T mb A w.heap.size W D) (by first | exact S0.out.drewN _ | exact S0.out.drew | exact S0.out) (fun W5 hW5 => ?_)
        have S5 := Lib.hid hW5
        clear hW5 c3 hxl3 cl3 hbl3 hlk3
        have CK5 : Hid (Calls Tryz.prog 61 #[.pointer (some ⟨y2.a, 0, none⟩), .slice q2 L.length cap2, .bool true, .map (some mb)] W5.drew (FoundPost W5.drew mb D A (fun z => ∃ F, Agr L true F ∧ IdAt T (y2.path ++ F) z))) := IH.out W5.drew base sz T mb A y2 true D _ S5.out.ctx.drew HY5.out (HSR.out W5 S5.out.fr) S5.out.fm.drew
        have cb5 := S5.out.cellB
        have hbl5 := S5.out.ltB
        go_region_with (first | (go_at_call 61; refine CK5.out.mono ?_; rintro e W3 ⟨rfl, D3, hF3, hD3, hfr3⟩))
        have S3 := Lib.hid (S5.out.step hF3 (hfr3.undrew))
        have HD3 := Lib.hid hD3
        clear hF3 hD3 hfr3 cb5 hbl5 CK5
        go_wp2_with fail
        refine bodyPost_ret (v := .tuple #[]) (by simp [results, Tryz.results61]) rfl ?_
        rw [← HPP.out]
        refine ⟨rfl, D3, S3.out.fm, fun z => ?_, S3.out.frame HAA.out⟩
        show _ ↔ _ ∨ ∃ F, Agr (l :: L) false F ∧ IdAt T (x.path ++ F) z
        rw [HD3.out, agr_cons]
        rw [HYP2.out]
        simp only [Bool.false_eq_true, false_and, false_or]
theorem match_any : ∀ (L : List ByteArray), (∀ s ∈ L, s.size ≤ maxLen) → ∀ (w : World) (base sz : Nat) (T : List Nd) (mb : Nat) (A : List Int) (x : Nd) (wild : Bool) (D : DataW Unit) (v : Value), MCtx w base sz T mb A → x ∈ T → Sl w v L → FM w mb D A →
      Calls Tryz.prog 61 #[.pointer (some ⟨x.a, 0, none⟩), v, .bool wild, .map (some mb)] w (FoundPost w mb D A (fun z => ∃ F, Agr L wild F ∧ IdAt T (x.path ++ F) z)) := by
  intro L
  induction L with
  | nil => intro _ w base sz T mb A x wild D v hM hx hS hF; exact match_nil w base sz T mb A x wild D v hM hx hS hF
  | cons l L ih => intro hs w base sz T mb A x wild D v hM hx hS hF; exact match_cons l L (hs l (List.mem_cons_self ..)) (ih fun s hm => hs s (List.mem_cons_of_mem _ hm)) w base sz T mb A x wild D v hM hx hS hF
end Go.Proofs.YtincmegllckcjaaGreatDoor
