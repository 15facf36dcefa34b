/- TRIE: New, Remove. -/
import Derived.Test.YtincmegllckcjaaGreatDoorTrieTake
namespace Go.Proofs.YtincmegllckcjaaGreatDoor
open Go Go.RowKit
attribute [local go_sem ↓] Go.wp_at_zero Go.wp_at_succ

/-- what New gives -/
def NewPost (w : World) (r : Ending) (w' : World) : Prop :=
  ∃ (t : Nat) (x : Nd), r = .returned (.pointer (some ⟨t, 0, none⟩)) ∧ Tri w' w.heap.size 0 t [x] 0 ∧ x.path = [] ∧ x.ids = [] ∧ Below w.heap.size w w'
theorem new_any (w : World) : Calls Tryz.prog 22 #[] w (NewPost w) := by
  obtain ⟨PP, hPP⟩ : ∃ PP, NewPost w = PP := ⟨_, rfl⟩
  rw [hPP]
  have HPP := Lib.hid hPP
  clear hPP
  go_enter Tryz.func22, Tryz.ntmps22
  go_wp2_with (go_at_call 57; refine (newNode_any _).mono ?_; rintro e w1 ⟨rfl, hw⟩)
  rw [← HPP.out]
  subst hw
  have hsz : (newW w).heap.size = w.heap.size + 2 := by simp [newW]
  have hb := (newW_below w).alloc (newW_below w).size (.cells #[.pointer (some ⟨w.heap.size + 1, 0, none⟩), .int .i64 0] 96)
  have hbx := heap_alloc_new (newW w) (.cells #[.pointer (some ⟨w.heap.size + 1, 0, none⟩), .int .i64 0] 96)
  have hnd := (newNd_is w [] w.heap.size 0 (Nat.le_refl _)).kept (W' := (newW w).alloc (.cells #[.pointer (some ⟨w.heap.size + 1, 0, none⟩), .int .i64 0] 96)) fun b hb => Below.heap_alloc _ _ _ ((newNd_is w [] w.heap.size 0 (Nat.le_refl _)).lt hb).2
  refine ⟨(newW w).heap.size, newNd w [], rfl, ⟨⟨fun u hu => by rw [List.mem_singleton] at hu; rw [hu]; exact hnd, List.pairwise_singleton .., ?_, ?_, ?_, ⟨newNd w [], List.mem_singleton.2 rfl, rfl⟩, ?_, ?_⟩, ⟨newNd w [], List.mem_singleton.2 rfl, rfl, hbx⟩, (newW_below w).size, ?_⟩, rfl, rfl, hb⟩
  · simp [newNd, Nd.blocks, Value.ownBlock]
  · intro u hu s b
    rw [List.mem_singleton] at hu
    subst hu
    constructor
    · intro h; cases h
    · rintro ⟨y, hy, h1, -⟩
      rw [List.mem_singleton] at hy
      subst hy
      cases h1
  · intro u hu q s h
    rw [List.mem_singleton] at hu
    subst hu
    have := congrArg List.length h
    simp [newNd] at this
  · intro u hu
    rw [List.mem_singleton] at hu
    subst hu
    exact List.Pairwise.nil
  · intro u hu
    rw [List.mem_singleton] at hu
    subst hu
    exact Nat.zero_le _
  · rintro ⟨u, hu, hb2⟩
    rw [List.mem_singleton] at hu
    subst hu
    rw [mem_blocks] at hb2
    simp only [newNd] at hb2
    rcases hb2 with e | e | e
    · omega
    · omega
    · cases e

theorem bel_chain {w a W1 b W2 : World} (h1 : Below a.heap.size a W1) (h2 : Below b.heap.size b W2) (ha : a.os = w.os ∧ a.tape = w.tape ∧ a.output = w.output ∧ a.heap = w.heap) (hb : b.os = W1.os ∧ b.tape = W1.tape ∧ b.output = W1.output ∧ b.heap = W1.heap) : Below w.heap.size w W2 := by
  obtain ⟨a1, a2, a3, a4⟩ := ha
  obtain ⟨b1, b2, b3, b4⟩ := hb
  have hs1 := h1.size
  have hs2 := h2.size
  rw [a4] at hs1
  rw [b4] at hs2
  refine ⟨h2.os.trans (b1.trans (h1.os.trans a1)), h2.tape.trans (b2.trans (h1.tape.trans a2)), h2.output.trans (b3.trans (h1.output.trans a3)), Nat.le_trans hs1 hs2, fun k hk => ?_⟩
  have e1 := h1.block k (by rw [a4]; exact hk)
  have e2 := h2.block k (by rw [b4]; exact Nat.lt_of_lt_of_le hk hs1)
  rw [a4] at e1
  rw [b4] at e2
  exact e2.trans e1
def RemPost (w : World) (base sz t : Nat) (T : List Nd) (n : Int) (f : ByteArray) (id : Int) (r : Ending) (w' : World) : Prop :=
  ∃ (c : Bool) (T' : List Nd), r = .returned (.bool c) ∧ (c = true ↔ filterB f = true ∧ IdAt T (levels f) id) ∧ Tri w' base sz t T' (if c then n - 1 else n) ∧ (∀ p z, IdAt T' p z ↔ IdAt T p z ∧ ¬ (filterB f = true ∧ p = levels f ∧ z = id)) ∧ (Lean_ T' fun _ => False) ∧ (∀ b, foot T' b → foot T b) ∧ Frame (fun b => b = t ∨ foot T b) w w' ∧ (∀ y' ∈ T', ∃ y ∈ T, y.path = y'.path)
set_option maxRecDepth 100000 in
set_option maxHeartbeats 8000000 in
theorem remove_any (w : World) (base sz t : Nat) (T : List Nd) (n : Int) (f : ByteArray) (id : Int) (H : Tri w base sz t T n) (hl : Lean_ T fun _ => False) (hf : f.size ≤ 1048576) (hT : Tabs w) (hsz : sz ≤ 100000000) (hn : 0 ≤ n ∧ n ≤ 1000000000) :
    Calls Tryz.prog 55 #[.pointer (some ⟨t, 0, none⟩), .string f, .int .i64 id] w (RemPost w base sz t T n f id) := by
  obtain ⟨PP, hPP⟩ : ∃ PP, RemPost w base sz t T n f id = PP := ⟨_, rfl⟩
  rw [hPP]
  have HPP := Lib.hid hPP
  have HH := Lib.hid H
  have HL := Lib.hid hl
  obtain ⟨r0, hr0, hr1, hrb⟩ := H.root
  have htl := H.lt
  have c0 : w.cell? ⟨t, 0, none⟩ = some (.pointer (some ⟨r0.a, 0, none⟩)) := by rw [cell_of_row w t 0 _ _ _ hrb]; rfl
  have CN : Hid (∀ W : World, W.heap[t]? = w.heap[t]? → Calls Tryz.prog 58 #[.pointer (some ⟨t, 0, none⟩)] W fun e w' => e = .returned (.bool false) ∧ w' = W) := fun W hW => no_any _ W false (.inr ⟨t, _, n, rfl, hW.trans hrb, rfl⟩)
  have CF : Hid (∀ W : World, Tabs W → Calls Tryz.prog 38 #[.string f] W fun e w' => e = .returned (.bool (filterB f)) ∧ Below W.heap.size W w') := fun W hW => filter_any indexByte_said valid_said contains_said f W hf hW
  have CL : Hid (∀ W, Calls Tryz.prog 39 #[.string f] W fun e w' => ∃ v, e = .returned v ∧ (Sl w' v (levels f) ∧ ∀ g, v.ownBlock = some g → W.heap.size ≤ g) ∧ Below W.heap.size W w') := fun W => levels_any indexByte_said f W hf
  have HR := Lib.hid hr0
  have HR0 := Lib.hid hr1
  have HRB := Lib.hid hrb
  clear hPP H hr0 hr1 hrb hl
  cases hF : filterB f with
  | false =>
    rw [hF] at CF
    have HF := Lib.hid hF
    clear hF
    go_enter Tryz.func55, Tryz.ntmps55
    go_upto_region 1 with fail
    refine wp_region_any (by kernel_rfl) ?_
    change wpAny _ _ _ _ _ _ _ (World.drew _)
    refine wpAny_take (i := 0) (v := .pointer (some ⟨t, 0, none⟩)) rfl (by kernel_rfl) (by kernel_rfl) (by kernel_rfl) (fun _ _ _ h => h) (Or.inl ⟨by kernel_rfl, ?_⟩) ?_
    · (intro w; go_simp)
    refine wpAny_ready (rs := [1]) (by kernel_rfl) (by simp) ?_
    refine AllReady.cons rfl (fun K hK => ?_) AllReady.nil
    go_simp
    go_wp2_with (go_at_call 58; refine (CN.out _ ?_).mono ?_; (exact (rfl : w.heap[t]? = w.heap[t]?)); rintro e w1 ⟨rfl, hw⟩; subst w1)
    refine wpAny_take (i := 2) (v := .bool false) rfl (by kernel_rfl) (by kernel_rfl) (by kernel_rfl) (fun _ _ _ h => h) (Or.inl ⟨by kernel_rfl, ?_⟩) ?_
    · (intro w; go_simp)
    refine wpAny_take (i := 3) (v := .string f) rfl (by kernel_rfl) (by kernel_rfl) (by kernel_rfl) (fun _ _ _ h => h) (Or.inl ⟨by kernel_rfl, ?_⟩) ?_
    · (intro w; go_simp)
    refine wpAny_ready (rs := [4]) (by kernel_rfl) (by simp) ?_
    refine AllReady.cons rfl (fun K hK => ?_) AllReady.nil
    go_simp
    go_wp2_with (go_at_call 38; refine (CF.out _ ?_).mono ?_; (exact hT); rintro e W1 ⟨rfl, hb1⟩)
    refine wpAny_take (i := 5) (v := .bool true) rfl (by kernel_rfl) (by kernel_rfl) (by kernel_rfl) (fun _ _ _ h => h) (Or.inl ⟨by kernel_rfl, ?_⟩) ?_
    · (intro w; go_simp)
    refine wpAny_take (i := 6) (v := .bool true) rfl (by kernel_rfl) (by kernel_rfl) (by kernel_rfl) (fun _ _ _ h => h) (Or.inl ⟨by kernel_rfl, ?_⟩) ?_
    · (intro w; go_simp)
    refine wpAny_take (i := 7) (v := .bool true) rfl (by kernel_rfl) (by kernel_rfl) (by kernel_rfl) (fun _ _ _ h => h) (Or.inl ⟨by kernel_rfl, ?_⟩) ?_
    · (intro w; go_simp)
    refine wpAny_take (i := 8) (v := undef) rfl (by kernel_rfl) (by kernel_rfl) (by kernel_rfl) (fun _ _ _ h => h) (Or.inr ⟨by kernel_rfl, rfl⟩) ?_
    refine wpAny_take (i := 9) (v := undef) rfl (by kernel_rfl) (by kernel_rfl) (by kernel_rfl) (fun _ _ _ h => h) (Or.inr ⟨by kernel_rfl, rfl⟩) ?_
    refine wpAny_take (i := 10) (v := undef) rfl (by kernel_rfl) (by kernel_rfl) (by kernel_rfl) (fun _ _ _ h => h) (Or.inr ⟨by kernel_rfl, rfl⟩) ?_
    refine wpAny_take (i := 11) (v := undef) rfl (by kernel_rfl) (by kernel_rfl) (by kernel_rfl) (fun _ _ _ h => h) (Or.inr ⟨by kernel_rfl, rfl⟩) ?_
    refine wpAny_take (i := 12) (v := undef) rfl (by kernel_rfl) (by kernel_rfl) (by kernel_rfl) (fun _ _ _ h => h) (Or.inr ⟨by kernel_rfl, rfl⟩) ?_
    refine wpAny_take (i := 14) (v := undef) rfl (by kernel_rfl) (by kernel_rfl) (by kernel_rfl) (fun _ _ _ h => h) (Or.inr ⟨by kernel_rfl, rfl⟩) ?_
    refine wpAny_ready (rs := [13]) (by kernel_rfl) (by simp) ?_
    refine AllReady.cons rfl (fun K hK => ?_) AllReady.nil
    go_simp
    refine hK _ _ ?_
    clear hK K
    refine wpAny_ready (rs := [15]) (by kernel_rfl) (by simp) ?_
    refine AllReady.cons rfl (fun K hK => ?_) AllReady.nil
    go_simp
    refine hK _ _ ?_
    clear hK K
    refine wpAny_take (i := 16) (v := undef) rfl (by kernel_rfl) (by kernel_rfl) (by kernel_rfl) (fun _ _ _ h => h) (Or.inr ⟨by kernel_rfl, rfl⟩) ?_
    refine wpAny_take (i := 17) (v := .bool true) rfl (by kernel_rfl) (by kernel_rfl) (by kernel_rfl) (fun _ _ _ h => h) (Or.inl ⟨by kernel_rfl, ?_⟩) ?_
    · (intro w; go_simp)
    refine wpAny_done (by kernel_rfl) ?_ _
    go_wp2_with fail
    rw [← HPP.out]
    have hB1 : Below w.heap.size w W1 := ⟨hb1.os, hb1.tape, hb1.output, hb1.size, hb1.block⟩
    exact ⟨false, T, rfl, Iff.intro (fun h => by cases h) (fun h => by have := h.1; rw [HF.out] at this; cases this), HH.out.below hB1, fun p z => Iff.intro (fun h => ⟨h, fun e => by have := e.1; rw [HF.out] at this; cases this⟩) (fun h => h.1), HL.out, fun b hb => hb, Frame.of_below hB1, fun y hy => ⟨y, hy, rfl⟩⟩
  | true =>
    rw [hF] at CF
    have HF := Lib.hid hF
    clear hF
    have HNF : Hid (¬ foot T t) := HH.out.free
    have CT : Hid (∀ (W : World) (v : Value), Below w.heap.size w W → Sl W v (levels f) → (∀ g, v.ownBlock = some g → w.heap.size ≤ g) → Calls Tryz.prog 87 #[.pointer (some ⟨r0.a, 0, none⟩), v, .int .i64 id] W (TkPost W base sz T [] (levels f) id)) := by
      intro W v hW hSl hv
      have h := take_any (levels f) (fun s hs => by have := levels_size f s hs; unfold maxLen; omega) (by have := levels_len f; omega) W base sz T r0 v id (HH.out.is.below hW) HL.out HR.out ⟨hSl, fun b o n c e => ?_⟩ hsz
      · rw [HR0.out] at h; exact h
      · have hb : w.heap.size ≤ b := hv b (by rw [e]; rfl)
        refine ⟨fun h => by have := (HH.out.is.lt h).2; omega, ?_⟩
        obtain ⟨p, cap, e2, -, -, h3⟩ := hSl
        rcases h3 with h3 | ⟨b', o', rfl, h3⟩
        · exact absurd h3 (levels_ne f)
        · rw [e2] at e
          injection e with e _ _
          injection e with e
          injection e with e _
          subst e
          obtain ⟨y, hy⟩ : ∃ y, (levels f)[0]? = some y := by
            cases h4 : levels f with
            | nil => exact absurd h4 (levels_ne f)
            | cons a r => exact ⟨a, rfl⟩
          exact World.block_lt_of_cell? W _ (h3 0 y hy)
    go_enter Tryz.func55, Tryz.ntmps55
    go_upto_region 1 with fail
    have MK : Hid (∀ W : World, W.heap[t]? = w.heap[t]? → W.cell? ⟨t, 0, none⟩ = some (.pointer (some ⟨r0.a, 0, none⟩)) ∧ W.heap[t]? = w.heap[t]?) := fun W hW => ⟨(World.cell?_of_block hW).trans c0, hW⟩
    go_region_held3 (fun W => W.cell? ⟨t, 0, none⟩ = some (.pointer (some ⟨r0.a, 0, none⟩)) ∧ W.heap[t]? = w.heap[t]?) (first | exact MK.out _ rfl | exact MK.out _ (hb1.block t htl) | exact MK.out _ ((hb2.block t (Nat.lt_of_lt_of_le htl hb1.size)).trans (hb1.block t htl)) | exact MK.out _ ((htk.fr.block t (Nat.lt_of_lt_of_le htl (Nat.le_trans hb1.size hb2.size)) HNF.out).trans ((hb2.block t (Nat.lt_of_lt_of_le htl hb1.size)).trans (hb1.block t htl))) | assumption | trace_state) (first | (go_at_call 58; refine (CN.out _ ?_).mono ?_; (exact (rfl : w.heap[t]? = w.heap[t]?)); rintro e w1 ⟨rfl, hw⟩; subst w1) | (go_at_call 38; refine (CF.out _ ?_).mono ?_; (exact hT); rintro e W1 ⟨rfl, hb1⟩) | (go_at_call 39; refine (CL.out _).mono ?_; rintro e W2 ⟨v, rfl, ⟨hsl, hvb⟩, hb2⟩) | (go_at_call 87; refine (CT.out _ _ ?_ ?_ ?_).mono ?_; (exact bel_chain hb1 hb2 ⟨rfl, rfl, rfl, rfl⟩ ⟨rfl, rfl, rfl, rfl⟩); (exact hsl); (exact fun g hg => Nat.le_trans hb1.size (hvb g hg)); rintro e W3 ⟨rc, T1, rfl, hrc, htk⟩))
    have hB2 : Below w.heap.size w W2 := bel_chain hb1 hb2 ⟨rfl, rfl, rfl, rfl⟩ ⟨rfl, rfl, rfl, rfl⟩
    have hbt : W3.heap[t]? = some (.cells #[.pointer (some ⟨r0.a, 0, none⟩), .int .i64 n] 96 (0, 0)) := ((htk.fr.block t (Nat.lt_of_lt_of_le htl hB2.size) HNF.out).trans (hB2.block t htl)).trans HRB.out
    have k1 : W3.cell? ⟨t, 1, none⟩ = some (.int .i64 n) := by rw [cell_of_row W3 t 1 _ _ _ hbt]; rfl
    have kf := frozen_of_row W3 t 1 _ _ hbt
    have ktl := (Array.getElem?_eq_some_iff.1 hbt).1
    obtain ⟨x3, hx3, hp3, ha3⟩ := htk.stay r0 HR.out (fun r hr e => hr (by rw [HR0.out] at e; exact e.symm))
    have hfree3 : ¬ foot T1 t := fun h => HNF.out (htk.feet t h)
    have hbase := HH.out.bt
    have hlean : Lean_ T1 fun _ => False := fun u hu h1 _ => htk.lean u hu h1 (fun e => h1 e)
    have hat : ∀ p z, IdAt T1 p z ↔ IdAt T p z ∧ ¬ (filterB f = true ∧ p = levels f ∧ z = id) := fun p z => by
      rw [htk.at_]
      exact and_congr_right fun _ => not_congr ⟨fun h => ⟨HF.out, h⟩, fun h => h.2⟩
    have hfr3 : Frame (fun b => b = t ∨ foot T b) w W3 := ⟨htk.fr.os.trans hB2.os, htk.fr.tape.trans hB2.tape, htk.fr.output.trans hB2.output, Nat.le_trans hB2.size htk.fr.size, fun b hb hn => (htk.fr.block b (Nat.lt_of_lt_of_le hb hB2.size) (fun h => hn (.inr h))).trans (hB2.block b hb)⟩
    have HTK := Lib.hid htk
    have HRC := Lib.hid hrc
    have HBT := Lib.hid hbt
    have HX3 := Lib.hid hx3
    have HP3 := Lib.hid (hp3.trans HR0.out)
    have HA3 := Lib.hid ha3
    have HFREE := Lib.hid hfree3
    have HLEAN := Lib.hid hlean
    have HAT := Lib.hid hat
    have HFR := Lib.hid hfr3
    clear htk hrc hbt hx3 hp3 ha3 hfree3 hlean hat hfr3 hB2 hb1 hb2 hvb hsl c0
    cases rc with
    | false =>
      go_wp2_with fail
      rw [← HPP.out]
      refine ⟨false, T1, rfl, Iff.intro (fun h => by cases h) (fun h => HRC.out.2 h.2), ⟨HTK.out.is, ⟨x3, HX3.out, HP3.out, ?_⟩, hbase, HFREE.out⟩, HAT.out, HLEAN.out, HTK.out.feet, HFR.out, HTK.out.sub⟩
      rw [HA3.out]
      exact HBT.out
    | true =>
      go_wp2_with fail
      rw [← HPP.out]
      have htri : Tri W3 base sz t T1 n := ⟨HTK.out.is, ⟨x3, HX3.out, HP3.out, by rw [HA3.out]; exact HBT.out⟩, hbase, HFREE.out⟩
      exact ⟨true, T1, rfl, Iff.intro (fun _ => ⟨HF.out, HRC.out.1 (by simp)⟩) (fun _ => rfl), htri.setN (n - 1), HAT.out, HLEAN.out, HTK.out.feet, HFR.out.trans ((frame_set (F := fun b => b = t) W3 t 1 _ rfl).mono fun b hb => .inl (.inl hb)), HTK.out.sub⟩
end Go.Proofs.YtincmegllckcjaaGreatDoor
