/- TRIE: take. -/
import Derived.Defers
import Derived.Test.YtincmegllckcjaaGreatDoorMTrieDel
namespace Go.Proofs.YtincmegllckcjaaGreatDoor
open Go Go.RowKit
attribute [local go_sem ↓] Go.wp_at_zero Go.wp_at_succ

theorem Sl.tail2 {w : World} {b o cap : Nat} {l : ByteArray} {L : List ByteArray} (hS : Sl w (.slice (some ⟨b, o, none⟩) (l :: L).length cap) (l :: L)) :
    ∃ q cq, (∀ w' : World, Sem.run Tryz.prog (Instr.slice 55 (.slice (some ⟨b, o, none⟩) (l :: L).length cap) (some (Value.int IntKind.i64 1)) none none) w' = .ok (.slice q L.length cq) w') ∧ Sl w (.slice q L.length cq) L ∧ ∀ b' o', q = some ⟨b', o', none⟩ → b' = b := by
  obtain ⟨p, cap', e, h1, h2, h3⟩ := hS
  injection e with e1 _ e2
  subst e1; subst e2
  rcases h3 with h3 | ⟨b', o', e, h3⟩
  · cases h3
  · injection e with e
    injection e with e1 e2
    subst e1; subst e2
    refine ⟨_, _, fun w' => run_rest L.length b o cap h1 w', Sl.rest h1 h2 h3, fun b' o' e => ?_⟩
    split at e <;> (injection e with e; injection e with e1 _; exact e1.symm)
def SlOff (w : World) (v : Value) (L : List ByteArray) (T : List Nd) : Prop := Sl w v L ∧ ∀ b o n c, v = .slice (some ⟨b, o, none⟩) n c → ¬ foot T b ∧ b < w.heap.size
def TkPost (w : World) (base sz : Nat) (T : List Nd) (p q : List ByteArray) (id : Int) (r : Ending) (w' : World) : Prop :=
  ∃ (c : Bool) (T' : List Nd), r = .returned (.bool c) ∧ (c = true ↔ IdAt T q id) ∧ Took w w' base sz T T' p q id
set_option maxRecDepth 100000 in
set_option maxHeartbeats 8000000 in
theorem take_nil (w : World) (base sz : Nat) (T : List Nd) (x : Nd) (v : Value) (id : Int) (h : TrieIs w base sz T) (hl : Lean_ T fun _ => False) (hx : x ∈ T) (hS : SlOff w v [] T) (hsz : sz ≤ 100000000) :
    Calls Tryz.prog 87 #[.pointer (some ⟨x.a, 0, none⟩), v, .int .i64 id] w (TkPost w base sz T x.path (x.path ++ []) id) := by
  obtain ⟨PP, hPP⟩ : ∃ PP, TkPost w base sz T x.path (x.path ++ []) id = PP := ⟨_, rfl⟩
  rw [hPP]
  have HPP := Lib.hid hPP
  obtain ⟨⟨p, cap, rfl, -⟩, -⟩ := hS
  have HX := Lib.hid hx
  have HT := Lib.hid h
  have HL := Lib.hid hl
  have hA : Below w.heap.size w ((w.alloc (.cells #[.pointer (some ⟨x.a, 0, none⟩)] 93)).alloc (.cells #[.slice p 0 cap] 55)) := ((Below.refl _ _).alloc (Nat.le_refl _) _).alloc (by simp) _
  have CP := Lib.hid (ptake_any _ base sz x id ((h.below hA).each x hx) (h.rising x hx) (by have := h.few x hx; omega))
  have HA := Lib.hid hA
  clear hPP hx h hl hA
  go_enter_defers Tryz.func87, Tryz.ntmps87
  go_wp2_with fail
  refine CP.out.mono ?_
  rintro e w2 ⟨v', rfl, hnd, hfr, hv⟩
  have HND := Lib.hid hnd
  have HFR := Lib.hid hfr
  have HV := Lib.hid hv
  clear hnd hfr hv
  go_wp2_with fail
  refine ⟨_, results_tmp rfl _ _ _, ?_⟩
  rw [← HPP.out]
  rw [List.append_nil]
  refine ⟨_, _, rfl, ?_, took_nil HT.out HL.out HX.out HA.out HND.out HFR.out HV.out⟩
  rw [decide_eq_true_eq]
  constructor
  · intro h; exact ⟨x, HX.out, rfl, h⟩
  · rintro ⟨u, hu, h1, h2⟩
    rw [← HT.out.one hu HX.out h1]
    exact h2
theorem idle_true {w : World} {base sz : Nat} {c : Nd} (h : NdIs w base sz c) (hi : (decide (c.ids.length = 0) && decide (Maps.size c.D = 0)) = true) : c.ids = [] ∧ ∀ s, kid c.D s = none := by
  simp only [Bool.and_eq_true, decide_eq_true_eq] at hi
  exact ⟨List.eq_nil_of_length_eq_zero hi.1, (size_kids h).1 hi.2⟩
theorem idle_false {w : World} {base sz : Nat} {c : Nd} (h : NdIs w base sz c) (hi : (decide (c.ids.length = 0) && decide (Maps.size c.D = 0)) = false) : c.ids ≠ [] ∨ ∃ s b, kid c.D s = some b := by
  rcases Classical.em (c.ids = []) with h1 | h1
  · right
    rcases Classical.em (∃ s b, kid c.D s = some b) with h2 | h2
    · exact h2
    · exfalso
      have h3 : Maps.size c.D = 0 := (size_kids h).2 fun s => by
        cases hk : kid c.D s with
        | none => rfl
        | some b => exact absurd ⟨s, b, hk⟩ h2
      rw [h1, h3] at hi
      simp at hi
  · exact .inl h1
/-- the deferred closure -/
def PruneR (w : World) (sz : Nat) (x c : Nd) (l : ByteArray) (e : Ending) (w' : World) : Prop :=
  e = .returned (.tuple #[]) ∧ ((c.ids = [] ∧ (∀ s, kid c.D s = none) ∧ w'.ownsMap Tryz.prog 9 ptrR x.m sz (x.D.del (.string l.data.toList)) ∧ w.grownBy w' (some x.m)) ∨ ((c.ids ≠ [] ∨ ∃ s b, kid c.D s = some b) ∧ Below w.heap.size w w'))
set_option maxRecDepth 100000 in
set_option maxHeartbeats 8000000 in
theorem prune_any (w : World) (base sz : Nat) (x c : Nd) (l : ByteArray) (cb nb lb b o n cap : Nat) (u : FrameMode) (hx : NdIs w base sz x) (hc : NdIs w base sz c)
    (kc : w.cell? ⟨cb, 0, none⟩ = some (.pointer (some ⟨c.a, 0, none⟩))) (kn : w.cell? ⟨nb, 0, none⟩ = some (.pointer (some ⟨x.a, 0, none⟩))) (kl : w.cell? ⟨lb, 0, none⟩ = some (.slice (some ⟨b, o, none⟩) (n + 1) cap)) (k0 : w.cell? ⟨b, o, none⟩ = some (.string l)) (hl : l.size ≤ maxLen) :
    CallsD Tryz.prog 126 #[.pointer (some ⟨cb, 0, none⟩), .pointer (some ⟨nb, 0, none⟩), .pointer (some ⟨lb, 0, none⟩)] u w (fun e u' w' => u' = u ∧ PruneR w sz x c l e w') := by
  obtain ⟨PP, hPP⟩ : ∃ PP, PruneR w sz x c l = PP := ⟨_, rfl⟩
  rw [hPP]
  have HPP := Lib.hid hPP
  have CI := Lib.hid (idle_any w base sz c hc)
  have c1 : w.cell? ⟨x.a, 1, none⟩ = some (.map (some x.m)) := by rw [cell_of_row w x.a 1 _ _ _ hx.box]; rfl
  have hxl := (Array.getElem?_eq_some_iff.1 hx.box).1
  have hcl := (Array.getElem?_eq_some_iff.1 hc.box).1
  have b1 : cb < w.heap.size := World.block_lt_of_cell? w _ kc
  have b2 : nb < w.heap.size := World.block_lt_of_cell? w _ kn
  have b3 : lb < w.heap.size := World.block_lt_of_cell? w _ kl
  have b4 : b < w.heap.size := World.block_lt_of_cell? w _ k0
  have hkey := WideMaps.keyOf_string_mk Tryz.underlying9 hl
  have hown := hx.map
  have HC := Lib.hid hc
  clear hPP hx hc
  cases hi : (decide (c.ids.length = 0) && decide (Maps.size c.D = 0)) with
  | true =>
    rw [hi] at CI
    have HI := Lib.hid hi
    clear hi
    go_enter_d Tryz.func126, Tryz.ntmps126
    go_wp2_with fail
    refine CI.out.mono ?_
    rintro e w1 ⟨rfl, hw⟩
    subst w1
    go_wp2_with fail
    obtain ⟨w1, hdel, hown1, hturn⟩ := World.ownsMap.drop (w := w.drew) (t := 99) (e := 93) hown string_keys Tryz.underlying99 hkey 0
    have HO1 := Lib.hid hown1
    have HT1 := Lib.hid hturn
    clear hown1 hturn hown
    go_region_with (fail)
    all_goals
      refine bodyPost_ret (v := .tuple #[]) (by simp [results, Tryz.results126]) rfl ?_
      rw [← HPP.out]
      exact ⟨rfl, .inl ⟨(idle_true HC.out HI.out).1, (idle_true HC.out HI.out).2, HO1.out, ⟨HT1.out.grown.os, HT1.out.grown.tape, HT1.out.grown.output, HT1.out.grown.size, HT1.out.grown.block⟩⟩⟩
  | false =>
    rw [hi] at CI
    have HI := Lib.hid hi
    clear hi
    go_enter_d Tryz.func126, Tryz.ntmps126
    go_wp2_with fail
    refine CI.out.mono ?_
    rintro e w1 ⟨rfl, hw⟩
    subst w1
    go_wp2_with fail
    refine bodyPost_ret (v := .tuple #[]) (by simp [results, Tryz.results126]) rfl ?_
    rw [← HPP.out]
    exact ⟨rfl, .inr ⟨idle_false HC.out HI.out, Below.refl _ _⟩⟩
set_option maxRecDepth 100000 in
set_option maxHeartbeats 8000000 in
theorem take_cons (l : ByteArray) (L : List ByteArray) (hls : l.size ≤ maxLen) (hLl : L.length ≤ 10000000)
    (IH : Hid (∀ (w : World) (base sz : Nat) (T : List Nd) (x : Nd) (v : Value) (id : Int), TrieIs w base sz T → (Lean_ T fun _ => False) → x ∈ T → SlOff w v L T → sz ≤ 100000000 → Calls Tryz.prog 87 #[.pointer (some ⟨x.a, 0, none⟩), v, .int .i64 id] w (TkPost w base sz T x.path (x.path ++ L) id)))
    (w : World) (base sz : Nat) (T : List Nd) (x : Nd) (v : Value) (id : Int) (h : TrieIs w base sz T) (hl : Lean_ T fun _ => False) (hx : x ∈ T) (hS : SlOff w v (l :: L) T) (hsz : sz ≤ 100000000) :
    Calls Tryz.prog 87 #[.pointer (some ⟨x.a, 0, none⟩), v, .int .i64 id] w (TkPost w base sz T x.path (x.path ++ l :: L) id) := by
  obtain ⟨PP, hPP⟩ : ∃ PP, TkPost w base sz T x.path (x.path ++ l :: L) id = PP := ⟨_, rfl⟩
  rw [hPP]
  have HPP := Lib.hid hPP
  obtain ⟨hS1, hoff⟩ := hS
  obtain ⟨p, cap, rfl, hc1, hc2, hc3⟩ := hS1
  obtain ⟨b, o, rfl, hc4⟩ : ∃ b o, p = some ⟨b, o, none⟩ ∧ ∀ (j : Nat) z, (l :: L)[j]? = some z → w.cell? ⟨b, o + j, none⟩ = some (.string z) := by
    rcases hc3 with h | h
    · cases h
    · exact h
  obtain ⟨hoff1, hbl⟩ := hoff b o _ _ rfl
  simp only [List.length_cons] at hc1 ⊢
  have HX := Lib.hid hx
  have HT := Lib.hid h
  have HL := Lib.hid hl
  have HC4 := Lib.hid hc4
  obtain ⟨A2, hA2⟩ : ∃ A2, ((w.alloc (.cells #[.pointer (some ⟨x.a, 0, none⟩)] 93)).alloc (.cells #[.slice (some ⟨b, o, none⟩) (L.length + 1) cap] 55)) = A2 := ⟨_, rfl⟩
  have hAB : Below w.heap.size w A2 := by rw [← hA2]; exact ((Below.refl _ _).alloc (Nat.le_refl _) _).alloc (by simp) _
  have hnx := (h.below hAB).each x hx
  have c1 : A2.cell? ⟨x.a, 1, none⟩ = some (.map (some x.m)) := by rw [cell_of_row A2 x.a 1 _ _ _ hnx.box]; rfl
  have hxl := (Array.getElem?_eq_some_iff.1 hnx.box).1
  have hlk := (look_any hnx hls).1
  have hlkA : ∀ o : Obj, (Instr.lookup 99 (.map (some x.m)) (.string l) false).run Tryz.prog (A2.alloc o) = .ok (.pointer ((kid x.D l).map fun b => ⟨b, 0, none⟩)) (A2.alloc o) := fun o => (look_any (hnx.kept fun b hb => Below.heap_alloc A2 o b (hnx.lt hb).2) hls).1
  have hlkD : (Instr.lookup 99 (.map (some x.m)) (.string l) false).run Tryz.prog A2.drew = .ok (.pointer ((kid x.D l).map fun b => ⟨b, 0, none⟩)) A2.drew := (look_any (hnx.kept fun _ _ => rfl : NdIs A2.drew base sz x) hls).1
  have hlkE : ∀ o : Obj, (Instr.lookup 99 (.map (some x.m)) (.string l) false).run Tryz.prog (A2.alloc o).drew = .ok (.pointer ((kid x.D l).map fun b => ⟨b, 0, none⟩)) (A2.alloc o).drew := fun o => (look_any (hnx.kept fun b hb => Below.heap_alloc A2 o b (hnx.lt hb).2 : NdIs (A2.alloc o).drew base sz x) hls).1
  have hA2s : A2.heap.size = w.heap.size + 2 := by rw [← hA2]; simp
  have kn : A2.cell? ⟨w.heap.size, 0, none⟩ = some (.pointer (some ⟨x.a, 0, none⟩)) := by rw [← hA2]; simp
  have kl : A2.cell? ⟨w.heap.size + 1, 0, none⟩ = some (.slice (some ⟨b, o, none⟩) (L.length + 1) cap) := by rw [← hA2]; simp
  have hn1 : w.heap.size < A2.heap.size := by omega
  have hn2 : w.heap.size + 1 < A2.heap.size := by omega
  have k0 : A2.cell? ⟨b, o, none⟩ = some (.string l) := (hAB.cell hbl).trans (hc4 0 l rfl)
  have hbl2 : b < A2.heap.size := World.block_lt_of_cell? A2 _ k0
  have HA2 := Lib.hid hA2
  have HAB := Lib.hid hAB
  have hmf : ∀ (fn : Fn) (first cap : Array Value) (w : World), (Instr.makeFunc fn first cap).run Tryz.prog w = .ok (.func fn first cap) w := fun _ _ _ _ => rfl
  have HA2S := Lib.hid hA2s
  clear hPP hx h hl hc3 hc4 hA2 hAB hnx hoff hA2s
  cases hk : kid x.D l with
  | none =>
    rw [hk] at hlk hlkA hlkD hlkE
    simp only [Option.map_none] at hlk hlkA hlkD hlkE
    have HK := Lib.hid hk
    clear hk
    go_enter_defers Tryz.func87, Tryz.ntmps87
    go_upto_region 3 with fail
    rw [HA2.out]
    go_cut [7] from 8 (fun u wx => u = .pointer (some ⟨A2.heap.size, 0, none⟩) ∧ Below A2.heap.size A2 wx ∧ wx.cell? ⟨A2.heap.size, 0, none⟩ = some (.pointer none) ∧ A2.heap.size < wx.heap.size)
    case first =>
      refine wp_region_noPanic ?_
      go_region_with (fail)
      all_goals refine NoPanic.normal ?_
      all_goals (go_wp2_with fail; go_meet)
      all_goals exact ⟨rfl, by first | exact ((Below.refl _ _).alloc (Nat.le_refl _) _).drew | exact (((Below.refl _ _).alloc (Nat.le_refl _) _).drew).setCell (Nat.le_refl _) _, by first | (show World.cell? (World.alloc _ _) _ = _; rw [cell_of_row _ _ _ _ _ _ (heap_alloc_new A2 _)]; rfl) | simp, by simp⟩
    case rest =>
      obtain ⟨rfl, hb3, kc, hs3⟩ := hcut
      have HB3 := Lib.hid hb3
      clear hb3 hlk hlkA hlkD hlkE
      go_wp2_with fail
      refine ⟨_, results_tmp rfl _ _ _, ?_⟩
      rw [← HPP.out]
      have hB := HAB.out.trans (HB3.out.mono (HAB.out.size))
      have hno := HT.out.gone HX.out HK.out L
      have hgone : ∀ z, ¬ IdAt T (x.path ++ l :: L) z := fun z hz => hno z (by rw [List.append_assoc]; exact hz)
      refine ⟨false, T, rfl, Iff.intro (fun h => by cases h) (fun h => absurd h (hgone id)), HT.out.below hB, fun r z => Iff.intro (fun h => ⟨h, fun e => hgone z (e.1 ▸ h)⟩) (fun h => h.1), fun u hu h1 h2 => HL.out u hu h1 (fun e => e), fun y hy _ => ⟨y, hy, rfl, rfl⟩, fun b hb => hb, Frame.of_below hB, fun y hy => ⟨y, hy, rfl⟩⟩
  | some k =>
    rw [hk] at hlk hlkA hlkD hlkE
    simp only [Option.map_some] at hlk hlkA hlkD hlkE
    obtain ⟨y, hy, hyp, rfl⟩ := (HT.out.kids x HX.out l k).1 hk
    have HY := Lib.hid hy
    have HYP := Lib.hid hyp
    have HK := Lib.hid hk
    clear hk hy hyp
    go_enter_defers Tryz.func87, Tryz.ntmps87
    go_upto_region 3 with fail
    rw [HA2.out]
    go_cut [7] from 8 (fun u wx => u = .pointer (some ⟨A2.heap.size, 0, none⟩) ∧ Below A2.heap.size A2 wx ∧ wx.cell? ⟨A2.heap.size, 0, none⟩ = some (.pointer (some ⟨y.a, 0, none⟩)) ∧ A2.heap.size < wx.heap.size)
    case first =>
      refine wp_region_noPanic ?_
      go_region_with (fail)
      all_goals refine NoPanic.normal ?_
      all_goals (go_wp2_with fail; go_meet)
      all_goals exact ⟨rfl, by first | exact ((Below.refl _ _).alloc (Nat.le_refl _) _).drew | exact (((Below.refl _ _).alloc (Nat.le_refl _) _).drew).setCell (Nat.le_refl _) _, by first | (show World.cell? (World.alloc _ _) _ = _; rw [cell_of_row _ _ _ _ _ _ (heap_alloc_new A2 _)]; rfl) | simp, by simp⟩
    case rest =>
      obtain ⟨rfl, hb3, kc, hs3⟩ := hcut
      have HB3 := Lib.hid hb3
      clear hlk hlkA hlkD hlkE
      have kn3 := (hb3.cell (p := ⟨w.heap.size, 0, none⟩) hn1).trans kn
      have kl3 := (hb3.cell (p := ⟨w.heap.size + 1, 0, none⟩) hn2).trans kl
      have k03 := (hb3.cell (p := ⟨b, o, none⟩) hbl2).trans k0
      have bn3 : w.heap.size < wc.heap.size := by omega
      have bl3 : w.heap.size + 1 < wc.heap.size := by omega
      have b03 : b < wc.heap.size := by omega
      have hB := HAB.out.trans (HB3.out.mono (HAB.out.size))
      have hslw : Sl w (.slice (some ⟨b, o, none⟩) (l :: L).length cap) (l :: L) := ⟨_, _, rfl, by simpa using hc1, hc2, .inr ⟨b, o, rfl, HC4.out⟩⟩
      obtain ⟨q2, cap2, hsl, hrest, hq2⟩ := Sl.tail2 (hslw.below hB)
      simp only [List.length_cons] at hsl
      have CK := Lib.hid (IH.out wc.drew base sz T y (.slice q2 L.length cap2) id ((HT.out.below hB).kept fun _ _ => rfl) HL.out HY.out ⟨hrest, fun b' o' n' c' e => by
        injection e with e _ _
        have := hq2 b' o' e
        subst this
        exact ⟨hoff1, b03⟩⟩ hsz)
      have HBW := Lib.hid hB
      have HKN := Lib.hid kn
      have HKL := Lib.hid kl
      have HK0 := Lib.hid k0
      clear hb3 hslw hrest hB c1 hxl kn kl k0
      go_upto_region 7 with fail
      refine wp_region_noPanic ?_
      go_region_with (first | (go_at_call 87; refine CK.out.mono ?_; rintro e W5 ⟨rc, T1, rfl, hrc, htook⟩))
      all_goals refine NoPanic.normal ?_
      all_goals
        have HTK := Lib.hid htook
        have HRC := Lib.hid hrc
        clear htook hrc hq2 CK hsl
        go_wp2_with fail
        refine leaves_cons (f := 126) (args := #[.pointer (some ⟨A2.heap.size, 0, none⟩), .pointer (some ⟨w.heap.size, 0, none⟩), .pointer (some ⟨w.heap.size + 1, 0, none⟩)]) (by simp) (by simp [go_sem]) ?_
        have hnf : ∀ k, w.heap.size ≤ k → ¬ foot T k := fun k hk hf => by have := (HT.out.lt hf).2; omega
        have hA2 : A2.heap.size = w.heap.size + 2 := HA2S.out
        have kc5 : W5.cell? ⟨A2.heap.size, 0, none⟩ = some (.pointer (some ⟨y.a, 0, none⟩)) := (World.cell?_of_block (w := wc.drew) (HTK.out.fr.block A2.heap.size hs3 (hnf _ (by omega)))).trans kc
        have kn5 : W5.cell? ⟨w.heap.size, 0, none⟩ = some (.pointer (some ⟨x.a, 0, none⟩)) := (World.cell?_of_block (w := wc.drew) (HTK.out.fr.block w.heap.size bn3 (hnf _ (by omega)))).trans kn3
        have kl5 : W5.cell? ⟨w.heap.size + 1, 0, none⟩ = some (.slice (some ⟨b, o, none⟩) (L.length + 1) cap) := (World.cell?_of_block (w := wc.drew) (HTK.out.fr.block (w.heap.size + 1) bl3 (hnf _ (by omega)))).trans kl3
        have k05 : W5.cell? ⟨b, o, none⟩ = some (.string l) := (World.cell?_of_block (w := wc.drew) (HTK.out.fr.block b b03 hoff1)).trans k03
        obtain ⟨x1, hx1, hx1p, hx1a⟩ := HTK.out.stay x HX.out (fun r _ e => by
          rw [HYP.out] at e
          have := congrArg List.length e
          simp at this)
        obtain ⟨y1, hy1, hy1p, hy1a⟩ := HTK.out.stay y HY.out (fun r hr e => hr (by
          have := congrArg List.length e
          simp at this
          exact this))
        rw [← hx1a] at kn5
        rw [← hy1a] at kc5
        refine (prune_any W5 base sz x1 y1 l A2.heap.size w.heap.size (w.heap.size + 1) b o L.length cap .returning (HTK.out.is.each x1 hx1) (HTK.out.is.each y1 hy1) kc5 kn5 kl5 k05 hls).mono ?_
        rintro e u' w6 ⟨rfl, rfl, hpr⟩
        refine ⟨_, results_tmp rfl _ _ _, ?_⟩
        rw [← HPP.out]
        have hB : Below w.heap.size w wc.drew := HBW.out.drew
        have hTK := HTK.out
        rw [HYP.out] at hTK
        have hy1q : y1.path = x.path ++ [l] := hy1p.trans HYP.out
        have hrc2 : rc = true ↔ IdAt T (x.path ++ l :: L) id := by rw [HRC.out, HYP.out]; simp
        rcases hpr with ⟨h1, h2, h3, h4⟩ | ⟨h1, h2⟩
        · exact ⟨rc, _, rfl, hrc2, took_up hB hTK hx1 hx1p hy1 hy1q h1 h2 h3 h4⟩
        · exact ⟨rc, T1, rfl, hrc2, took_none hB hTK hy1 hy1q h1 h2⟩
theorem take_any : ∀ (L : List ByteArray), (∀ s ∈ L, s.size ≤ maxLen) → L.length ≤ 10000000 → ∀ (w : World) (base sz : Nat) (T : List Nd) (x : Nd) (v : Value) (id : Int), TrieIs w base sz T → (Lean_ T fun _ => False) → x ∈ T → SlOff w v L T → sz ≤ 100000000 →
    Calls Tryz.prog 87 #[.pointer (some ⟨x.a, 0, none⟩), v, .int .i64 id] w (TkPost w base sz T x.path (x.path ++ L) id) := by
  intro L
  induction L with
  | nil => intro _ _ w base sz T x v id h hl hx hS hsz; exact take_nil w base sz T x v id h hl hx hS hsz
  | cons l L ih =>
    intro hs hlen w base sz T x v id h hl hx hS hsz
    rw [List.length_cons] at hlen
    exact take_cons l L (hs l (List.mem_cons_self ..)) (by omega) (Lib.hid (ih (fun s hm => hs s (List.mem_cons_of_mem _ hm)) (by omega))) w base sz T x v id h hl hx hS hsz
end Go.Proofs.YtincmegllckcjaaGreatDoor
