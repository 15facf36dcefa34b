/- SHARE: New. SHARE: a hub with what it owns; its calls as changes of what it says. -/
import Derived.Test.YtincmegllckcjaaGreatDoorShareHKept
import Derived.Test.YtincmegllckcjaaGreatDoorMShareSame
namespace Go.Proofs.YtincmegllckcjaaGreatDoor
section
open Go Go.RowKit
attribute [local go_sem ↓] Go.wp_at_zero Go.wp_at_succ

def NewH (w : World) (e : Ending) (w' : World) : Prop := ∃ H : Hb, e = .returned (.pointer (some ⟨H.hb, 0, none⟩)) ∧ HubK w' w.heap.size H 0 (.map []) (fun _ => False) [] ∧ H.l = [] ∧ H.gs = [] ∧ H.sz = 0 ∧ H.gn = 0 ∧ Below w.heap.size w w'
theorem newHub_is {w W1 : World} {t : Nat} {T : List Nd} (h : TOf W1 w.heap.size 0 t T []) (ht : w.heap.size ≤ t) (hb : Below w.heap.size w W1) :
    NewH w (.returned (.pointer (some ⟨W1.heap.size + 2, 0, none⟩))) (((W1.alloc (.map #[] 0)).alloc (.map #[] 0)).alloc (.cells #[ptr t, .map (some W1.heap.size), .map (some (W1.heap.size + 1))] 62)) := by
  have hs := hb.size
  obtain ⟨WA, hWA⟩ : ∃ WA, W1.alloc (.map #[] 0) = WA := ⟨_, rfl⟩
  obtain ⟨WB, hWB⟩ : ∃ WB, WA.alloc (.map #[] 0) = WB := ⟨_, rfl⟩
  have sA : WA.heap.size = W1.heap.size + 1 := by rw [← hWA]; simp
  have sB : WB.heap.size = W1.heap.size + 2 := by rw [← hWB, World.size_alloc, sA]
  have mA : WA.ownsMap Tryz.prog 9 ptrR W1.heap.size 0 (.map []) := by rw [← hWA]; exact World.ownsMap_made _ _ _ _
  have mB : WB.ownsMap Tryz.prog 9 heldR WA.heap.size 0 (.map []) := by rw [← hWB]; exact World.ownsMap_made _ _ _ _
  rw [hWA, hWB]
  obtain ⟨WC, hWC⟩ : ∃ WC, WB.alloc (.cells #[ptr t, .map (some W1.heap.size), .map (some (W1.heap.size + 1))] 62) = WC := ⟨_, rfl⟩
  rw [hWC]
  have kB : ∀ b, b < WB.heap.size → WC.heap[b]? = WB.heap[b]? := fun b h1 => by rw [← hWC]; exact Below.heap_alloc _ _ _ h1
  have kAB : ∀ b, b < WA.heap.size → WB.heap[b]? = WA.heap[b]? := fun b h1 => by rw [← hWB]; exact Below.heap_alloc _ _ _ h1
  have kA : ∀ b, b < WA.heap.size → WC.heap[b]? = WA.heap[b]? := fun b h1 => (kB b (by omega)).trans (kAB b h1)
  have k1 : ∀ b, b < W1.heap.size → WC.heap[b]? = W1.heap[b]? := fun b h1 => (kA b (by omega)).trans (by rw [← hWA]; exact Below.heap_alloc _ _ _ h1)
  have sC : WC.heap.size = W1.heap.size + 3 := by rw [← hWC, World.size_alloc, sB]
  have hbelC : Below W1.heap.size W1 WC := ⟨by rw [← hWC, ← hWB, ← hWA]; rfl, by rw [← hWC, ← hWB, ← hWA]; rfl, by rw [← hWC, ← hWB, ← hWA]; rfl, by omega, k1⟩
  have htl := h.tri.lt
  have hft : ∀ b, foot T b → b < W1.heap.size := fun b hf => (h.tri.is.lt hf).2
  refine ⟨⟨W1.heap.size + 2, t, W1.heap.size, W1.heap.size + 1, 0, 0, T, [], [], .map []⟩, rfl, ⟨⟨?_, h.kept fun b hb2 => k1 b ?_, map_kept mA (kA W1.heap.size (by omega)), fun key b => ?_, List.nodup_nil, fun x hx => (by cases hx), ?_, fun x hx => (by cases hx), fun x hx => (by cases hx), ⟨?_, fun e => ?_⟩, ⟨?_, fun e => ?_⟩, ⟨?_, ?_⟩⟩, ⟨?_, fun key v => ?_, List.nodup_nil, fun x hx => (by cases hx), fun b hb => hb.elim, ?_⟩, ⟨?_, fun e => ?_⟩, fun b hb => hb.elim⟩, rfl, rfl, rfl, rfl, hb.trans (hbelC.mono hs)⟩
  · show WC.heap[W1.heap.size + 2]? = _
    rw [← sB, ← hWC]
    exact heap_alloc_new WB _
  · rcases hb2 with rfl | hb2
    · exact htl
    · exact hft b hb2
  · exact Iff.intro (fun e => by cases e) (fun ⟨x, hx, _⟩ => by cases hx)
  · show W1.heap.size + 2 ≠ W1.heap.size; omega
  · show W1.heap.size + 2 ≠ t; omega
  · have h1 : W1.heap.size + 2 < W1.heap.size := hft _ e
    omega
  · show W1.heap.size ≠ t; omega
  · have h1 : W1.heap.size < W1.heap.size := hft _ e
    omega
  · show w.heap.size ≤ W1.heap.size + 2; omega
  · show w.heap.size ≤ W1.heap.size; omega
  · have e : W1.heap.size + 1 = WA.heap.size := sA.symm
    show WC.ownsMap Tryz.prog 9 heldR (W1.heap.size + 1) 0 (.map [])
    rw [e]
    exact heldmap_kept mB (kB WA.heap.size (by omega))
  · exact Iff.intro (fun e => by cases e) (fun ⟨x, hx, _⟩ => by cases hx)
  · show w.heap.size ≤ W1.heap.size + 1; omega
  · show W1.heap.size + 2 ≠ W1.heap.size + 1; omega
  · rcases e with e | e | e | ⟨x, hx, _⟩
    · have e : W1.heap.size + 1 = t := e
      omega
    · have h1 : W1.heap.size + 1 < W1.heap.size := hft _ e
      omega
    · have e : W1.heap.size + 1 = W1.heap.size := e
      omega
    · cases hx
set_option maxRecDepth 100000 in
set_option maxHeartbeats 4000000 in
theorem hubNew_any (w : World) : Calls Tryz.prog 9 #[] w (NewH w) := by
  obtain ⟨PP, hPP⟩ : ∃ PP : Ending → World → Prop, NewH w = PP := ⟨_, rfl⟩
  rw [hPP]
  have HPP := Lib.hid hPP
  have CT := Lib.hid (tof_new w)
  have mk1 : ∀ w, (Instr.makeMap 59 none).run Tryz.prog w = .ok (.map (some w.heap.size)) (w.alloc (.map #[] 0)) := fun _ => rfl
  have mk2 : ∀ w, (Instr.makeMap 60 none).run Tryz.prog w = .ok (.map (some w.heap.size)) (w.alloc (.map #[] 0)) := fun _ => rfl
  clear hPP
  go_enter Tryz.func9, Tryz.ntmps9
  go_wp2_with fail
  refine CT.out.mono ?_
  rintro e W1 ⟨t, T, rfl, h1, h2, h3⟩
  have HN := Lib.hid (newHub_is h1 h2 h3)
  clear h1 h2 h3
  go_wp2_with fail
  rw [← HPP.out]
  exact HN.out
end
section
open Go Go.RowKit
attribute [local go_sem ↓] Go.wp_at_zero Go.wp_at_succ

/-- P: what a structure owns -/
structure Owns (w0 W : World) (P : Nat → Prop) : Prop where
  lo : ∀ b, P b → w0.heap.size ≤ b
  hi : ∀ b, P b → b < W.heap.size
def Grow (P : Nat → Prop) (W W' : World) (b : Nat) : Prop := P b ∨ (W.heap.size ≤ b ∧ b < W'.heap.size)
theorem Owns.grow {w0 W W' : World} {P : Nat → Prop} (h : Owns w0 W P) (h0 : w0.heap.size ≤ W.heap.size) (hs : W.heap.size ≤ W'.heap.size) : Owns w0 W' (Grow P W W') :=
  ⟨fun b hb => hb.elim (h.lo b) (fun e => by omega), fun b hb => hb.elim (fun e => by have := h.hi b e; omega) (fun e => e.2)⟩
theorem Owns.more {w0 W W' : World} {P : Nat → Prop} (h : Owns w0 W P) (hs : W.heap.size ≤ W'.heap.size) : Owns w0 W' P := ⟨h.lo, fun b hb => by have := h.hi b hb; omega⟩
/-- the hub: who has subscribed, and what is kept -/
def HubS (w0 W : World) (P : Nat → Prop) (hb : Nat) (st : HSt) (L : List AM) (sz gn kn : Nat) : Prop :=
  ∃ (H : Hb) (kn' : Nat) (KD : DataW Value) (KB : Nat → Prop) (ms : List Mg), H.hb = hb ∧ HubK W w0.heap.size H kn' KD KB ms ∧ (H.l, absG H) = st ∧ ms.map Mg.am = L ∧ H.sz ≤ sz ∧ H.gn ≤ gn ∧ kn' ≤ kn ∧
    Owns w0 W P ∧ ∀ b, b = H.hb ∨ FHub H b ∨ b = H.km ∨ KB b → P b
theorem frame_weak {F G : Nat → Prop} {W W' : World} (h : Frame F W W') (hFG : ∀ b, F b → G b) : Frame G W W' := ⟨h.os, h.tape, h.output, h.size, fun b hb hG => h.block b hb fun e => hG (hFG b e)⟩
section
variable {w0 W W' : World} {P : Nat → Prop} {hb : Nat} {st : HSt} {L : List AM} {sz gn kn : Nat}
theorem HubS.owns (h : HubS w0 W P hb st L sz gn kn) : Owns w0 W P := by
  obtain ⟨H, kn', KD, KB, ms, -, -, -, -, -, -, -, h1, -⟩ := h
  exact h1
theorem HubS.frame {F : Nat → Prop} (h : HubS w0 W P hb st L sz gn kn) (hf : Frame F W W') (hF : ∀ b, P b → ¬ F b) : HubS w0 W' P hb st L sz gn kn := by
  obtain ⟨H, kn', KD, KB, ms, h1, h2, h3, h4, h5, h6, h7, h8, h9⟩ := h
  have hk : ∀ b, P b → W'.heap[b]? = W.heap[b]? := fun b hb => hf.block b (h8.hi b hb) (hF b hb)
  exact ⟨H, kn', KD, KB, ms, h1, ⟨h2.hub.kept fun b hb => hk b (h9 b (hb.elim .inl fun e => .inr (.inl e))), h2.kept.kept hf.size fun b hb => hk b (h9 b (hb.elim (fun e => .inr (.inr (.inl e))) fun e => .inr (.inr (.inr e)))), h2.off, h2.offB⟩, h3, h4, h5, h6, h7, h8.more hf.size, h9⟩
theorem HubS.below (h : HubS w0 W P hb st L sz gn kn) (hb2 : Below W.heap.size W W') : HubS w0 W' P hb st L sz gn kn :=
  h.frame (F := fun _ => False) (Frame.of_below hb2) fun _ _ e => e
theorem HubS.more (h : HubS w0 W P hb st L sz gn kn) {sz' gn' kn' : Nat} (h1 : sz ≤ sz') (h2 : gn ≤ gn') (h3 : kn ≤ kn') : HubS w0 W P hb st L sz' gn' kn' := by
  obtain ⟨H, k, KD, KB, ms, a1, a2, a3, a4, a5, a6, a7, a8, a9⟩ := h
  exact ⟨H, k, KD, KB, ms, a1, a2, a3, a4, by omega, by omega, by omega, a8, a9⟩
theorem HubS.wide (h : HubS w0 W P hb st L sz gn kn) {Q : Nat → Prop} (hQ : Owns w0 W Q) (hPQ : ∀ b, P b → Q b) : HubS w0 W Q hb st L sz gn kn := by
  obtain ⟨H, k, KD, KB, ms, a1, a2, a3, a4, a5, a6, a7, a8, a9⟩ := h
  exact ⟨H, k, KD, KB, ms, a1, a2, a3, a4, a5, a6, a7, hQ, fun b hb => hPQ b (a9 b hb)⟩
/-- what every call on a hub leaves -/
def HubD (w0 w : World) (P : Nat → Prop) (hb : Nat) (st : HSt) (L : List AM) (sz gn kn : Nat) (w' : World) : Prop := HubS w0 w' (Grow P w w') hb st L sz gn kn ∧ Frame P w w'
theorem hubTo_S {H H' : Hb} {kn' : Nat} {KD : DataW Value} {KB : Nat → Prop} {ms : List Mg} (h2 : HubK W w0.heap.size H kn' KD KB ms) (hw : w0.heap.size ≤ W.heap.size) (h8 : Owns w0 W P) (h9 : ∀ b, b = H.hb ∨ FHub H b ∨ b = H.km ∨ KB b → P b) (ht : HubTo W w0.heap.size H W' H') (h5 : H'.sz ≤ sz) (h6 : H'.gn ≤ gn) (h7 : kn' ≤ kn) (hL : ms.map Mg.am = L) (hst : (H'.l, absG H') = st) (hhb : H.hb = hb) : HubD w0 W P hb st L sz gn kn W' := by
  refine ⟨⟨H', kn', KD, KB, ms, by rw [ht.hb, hhb], h2.to ht, hst, hL, h5, h6, h7, h8.grow hw ht.fr.size, fun b hb => ?_⟩, frame_weak ht.fr fun b hb => h9 b (.inr (.inl hb))⟩
  rcases hb with rfl | hb | rfl | hb
  · exact .inl (h9 _ (.inl ht.hb))
  · rcases ht.own b hb with h1 | h1
    · exact .inl (h9 _ (.inr (.inl h1)))
    · exact .inr ⟨h1, (ht.is.lt hb).2⟩
  · exact .inl (h9 _ (.inr (.inr (.inl ht.km))))
  · exact .inl (h9 _ (.inr (.inr (.inr hb))))
theorem hs_join (h : HubS w0 W P hb st L sz gn kn) (hB : Below w0.heap.size w0 W) (hT : Tabs w0) (s : ByteArray) (id : Int) (hs : s.size ≤ 1048576) (hz : (Lit.int .i64 id).wf = true) (hsz : sz ≤ 50000000) (hl : st.1.length ≤ 100000000) (hgn : gn ≤ 100000000) :
    Calls Tryz.prog 10 #[.pointer (some ⟨hb, 0, none⟩), .string s, .int .i64 id] W fun e w' => e = .returned (.bool (joinA st s id).1) ∧ HubD w0 W P hb (joinA st s id).2 L (sz + s.size + 2) (gn + 1) kn w' := by
  obtain ⟨H, kn', KD, KB, ms, rfl, h2, rfl, h4, h5, h6, h7, h8, h9⟩ := h
  refine (hubJoin_any W w0.heap.size H s id h2.hub (hT.below hB) hs hz (by omega) hl (by omega)).mono ?_
  rintro e w' ⟨H', rfl, k1, k2, k3, k4⟩
  exact ⟨rfl, hubTo_S h2 hB.size h8 h9 k1 (by omega) (by omega) h7 h4 k2 rfl⟩
theorem hs_leave (h : HubS w0 W P hb st L sz gn kn) (hB : Below w0.heap.size w0 W) (hT : Tabs w0) (s : ByteArray) (id : Int) (hs : s.size ≤ 1048576) (hz : (Lit.int .i64 id).wf = true) (hsz : sz ≤ 100000000) (hl : st.1.length ≤ 100000000) :
    Calls Tryz.prog 20 #[.pointer (some ⟨hb, 0, none⟩), .string s, .int .i64 id] W fun e w' => e = .returned (.bool (leaveA st s id).1) ∧ HubD w0 W P hb (leaveA st s id).2 L sz gn kn w' := by
  obtain ⟨H, kn', KD, KB, ms, rfl, h2, rfl, h4, h5, h6, h7, h8, h9⟩ := h
  refine (hubLeave_any W w0.heap.size H s id h2.hub (hT.below hB) hs hz (by omega) hl).mono ?_
  rintro e w' ⟨H', rfl, k1, k2, k3, k4⟩
  exact ⟨rfl, hubTo_S h2 hB.size h8 h9 k1 (by omega) (by omega) h7 h4 k2 rfl⟩
theorem hs_send (h : HubS w0 W P hb st L sz gn kn) (hB : Below w0.heap.size w0 W) (hT : Tabs w0) (s : ByteArray) (hs : s.size ≤ 1048576) (hwf : ∀ x ∈ st.1, (Lit.int .i64 x.2).wf = true) (hsz : sz ≤ 100000000) (hl : st.1.length ≤ 100000000) (hg : st.2.length ≤ 100000000) :
    Calls Tryz.prog 11 #[.pointer (some ⟨hb, 0, none⟩), .string s] W fun e w' => ∃ v ids0 out st', e = .returned v ∧ IRow w' W.heap.size v out ∧ SendA st s ids0 out st' ∧ HubD w0 W P hb st' L sz gn kn w' := by
  obtain ⟨H, kn', KD, KB, ms, rfl, h2, rfl, h4, h5, h6, h7, h8, h9⟩ := h
  refine (hubSend_any w0 W H s h2.hub hB hT hs hwf (by omega) hl (by have e : (absG H).length = H.gs.length := List.length_map ..; have : (absG H).length ≤ 100000000 := hg; omega)).mono ?_
  rintro e w' ⟨H', v, ids0, out, rfl, k1, k2, k3, k4, k5⟩
  exact ⟨v, ids0, out, _, rfl, k1, k2, hubTo_S h2 hB.size h8 h9 k3 (by omega) (by omega) h7 h4 rfl rfl⟩
theorem hs_keep (h : HubS w0 W P hb st L sz gn kn) (hB : Below w0.heap.size w0 W) (m : Mg) (hd : DvIs W m.f m.body m.t) (hsm : DvSm m.f m.t) (htp : m.tp.size ≤ 1048576) (hkn : kn ≤ 100000000) :
    Calls Tryz.prog 14 #[.pointer (some ⟨hb, 0, none⟩), .agg #[.int .i64 m.id, .string m.tp, .int .i64 m.kd, .int .i64 m.di, .int .u64 m.db, .string m.ds, .slice m.q m.n m.c, .int .i64 m.at_, .int .i64 m.un, .string m.rp, .int .i64 m.co, .int .i64 m.pr, .int .i64 m.ho]] W fun e w' => e = .returned (.bool (keepA L m.am).1) ∧ HubD w0 W P hb st (keepA L m.am).2 sz gn (kn + 1) w' := by
  obtain ⟨H, kn', KD, KB, ms, rfl, h2, rfl, rfl, h5, h6, h7, h8, h9⟩ := h
  refine (hubKeep_any W w0.heap.size H kn' KD KB ms m h2 hd hsm htp (by omega) hB.size).mono ?_
  rintro e w' ⟨kn2, KD2, KB2, ms2, rfl, k1, k2, k3, k4, k5⟩
  refine ⟨rfl, ⟨H, kn2, KD2, KB2, ms2, rfl, k1, rfl, k2, h5, h6, by omega, h8.grow hB.size k4.size, fun b hb => ?_⟩, frame_weak k4 fun b hb => h9 b (.inr (.inr (.inl hb)))⟩
  rcases hb with rfl | hb | rfl | hb
  · exact .inl (h9 _ (.inl rfl))
  · exact .inl (h9 _ (.inr (.inl hb)))
  · exact .inl (h9 _ (.inr (.inr (.inl rfl))))
  · rcases k5 b hb with h1 | h1
    · exact .inl (h9 _ (.inr (.inr (.inr h1))))
    · exact .inr ⟨h1, (k1.kept.kb b hb).2.1⟩
theorem hs_kept (h : HubS w0 W P hb st L sz gn kn) (hB : Below w0.heap.size w0 W) (hT : Tabs w0) (s : ByteArray) (hs : s.size ≤ 1048576) (hL : L.length ≤ 10000000) :
    Calls Tryz.prog 15 #[.pointer (some ⟨hb, 0, none⟩), .string s] W fun e w' => ∃ (v : Value) (out : List Mg), e = .returned v ∧ MRow w' W.heap.size v out ∧ KeptA L s (out.map Mg.am) ∧ (∀ m ∈ out, DvIn (RowP W.heap.size w' v) w' m.f m.body m.t ∧ DvSm m.f m.t) ∧ Below W.heap.size W w' := by
  obtain ⟨H, kn', KD, KB, ms, rfl, h2, rfl, rfl, h5, h6, h7, h8, h9⟩ := h
  exact hubKept_any w0 W H kn' KD KB ms s h2 hB hT hs (by rw [List.length_map] at hL; exact hL)
theorem hs_kept2 (h : HubS w0 W P hb st L sz gn kn) (hB : Below w0.heap.size w0 W) (hT : Tabs w0) (s : ByteArray) (hs : s.size ≤ 1048576) (hL : L.length ≤ 10000000) :
    Calls Tryz.prog 15 #[.pointer (some ⟨hb, 0, none⟩), .string s] W fun e w' => ∃ (v : Value) (out : List Mg), e = .returned v ∧ MRow w' W.heap.size v out ∧ KeptA L s (out.map Mg.am) ∧ (∀ m ∈ out, MgIn (RowP W.heap.size w' v) w' m ∧ DvSm m.f m.t) ∧ Below W.heap.size W w' := by
  obtain ⟨H, kn', KD, KB, ms, rfl, h2, rfl, rfl, h5, h6, h7, h8, h9⟩ := h
  exact hubKept_any2 w0 W H kn' KD KB ms s h2 hB hT hs (by rw [List.length_map] at hL; exact hL)
end
theorem hs_new (w : World) : Calls Tryz.prog 9 #[] w fun e w' => ∃ hb, e = .returned (.pointer (some ⟨hb, 0, none⟩)) ∧ HubS w w' (Grow (fun _ => False) w w') hb ([], []) [] 0 0 0 ∧ Below w.heap.size w w' := by
  refine (hubNew_any w).mono ?_
  rintro e w' ⟨H, rfl, h1, h2, h3, h4, h5, h6⟩
  refine ⟨H.hb, rfl, ⟨H, 0, _, _, [], rfl, h1, ?_, rfl, by omega, by omega, Nat.le_refl _, ⟨fun b hb => hb.elim False.elim (fun e => e.1), fun b hb => hb.elim False.elim (fun e => e.2)⟩, fun b hb => .inr ?_⟩, h6⟩
  · unfold absG; rw [h2, h3]; rfl
  · rcases hb with rfl | hb | rfl | hb
    · exact ⟨h1.hub.lo.1, h1.hub.hlt⟩
    · exact h1.hub.lt hb
    · exact ⟨h1.kept.lo, h1.kept.map.lt⟩
    · exact hb.elim
end
end Go.Proofs.YtincmegllckcjaaGreatDoor
