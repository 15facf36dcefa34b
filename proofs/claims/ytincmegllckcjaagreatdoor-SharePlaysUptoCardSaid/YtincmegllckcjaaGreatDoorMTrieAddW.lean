/- TRIE: Add walked. TRIE: the map that match fills; its closure. -/
import Derived.Deep.QuietTactic
import Derived.BigQuiet
import Derived.Deep.DrawnRows
import Derived.Test.YtincmegllckcjaaGreatDoorMTrieLib
namespace Go.Proofs.YtincmegllckcjaaGreatDoor
section
open Go Go.RowKit
attribute [local go_sem ↓] Go.wp_at_zero Go.wp_at_succ

theorem AddSt.ended {w wr w' : World} {base sz t : Nat} {T T' : List Nd} {n : Int} {L : List ByteArray} (h : AddSt w base sz t T T' n L L.length wr) {x : Nd} (hx : x ∈ T') (hp : x.path = L) {id : Int} {v' : Value}
    (hnd : NdIs w' base (sz + L.length) { x with v := v', ids := putL (· < ·) x.ids id }) (hfr : Frame (fun b => b = x.a ∨ x.v.ownBlock = some b) wr w') (hv : v'.ownBlock = x.v.ownBlock ∨ ∃ g, v'.ownBlock = some g ∧ wr.heap.size ≤ g) :
    Tri w' base (sz + L.length + 1) t ({ x with v := v', ids := putL (· < ·) x.ids id } :: others T' x.path) n ∧ Lean_ ({ x with v := v', ids := putL (· < ·) x.ids id } :: others T' x.path) (fun _ => False) ∧ Frame (fun b => b = t ∨ foot T b) w w' ∧
      (∀ b, foot ({ x with v := v', ids := putL (· < ·) x.ids id } :: others T' x.path) b → foot T b ∨ w.heap.size ≤ b) ∧ ∀ p z, IdAt ({ x with v := v', ids := putL (· < ·) x.ids id } :: others T' x.path) p z ↔ IdAt T p z ∨ (p = L ∧ z = id) := by
  have hxl := fun b hb => (h.tri.is.each x hx).lt (b := b) hb
  have hold : ∀ b, b < wr.heap.size → b ∉ x.blocks → w'.heap[b]? = wr.heap[b]? := fun b hb hne => hfr.block b hb (fun e => hne (by rw [mem_blocks]; rcases e with e | e; exact .inl e; exact .inr (.inr e)))
  have hap : ∀ y ∈ others T' x.path, ∀ b ∈ y.blocks, b ∉ x.blocks := fun y hy b hb => apart_of h.tri.is.blocks (mem_others.1 hy).1 hx (fun e => (mem_others.1 hy).2 (by rw [e])) b hb
  have hT : TrieIs w' base (sz + L.length + 1) ({ x with v := v', ids := putL (· < ·) x.ids id } :: others T' x.path) :=
    h.tri.is.setIds hx rfl rfl rfl rfl (hnd.more (by omega)) (by omega) (putL_sorted ord_int (h.tri.is.rising x hx) id) (by have := h.tri.is.few x hx; have := putL_len (lt := (· < ·)) x.ids id; show (putL _ _ _).length ≤ _; omega) hv
      (fun y hy b hb => hold b (((h.tri.is.each y (mem_others.1 hy).1).lt hb).2) (hap y hy b hb))
  have hfoot : ∀ b, foot ({ x with v := v', ids := putL (· < ·) x.ids id } :: others T' x.path) b → foot T' b ∨ wr.heap.size ≤ b := by
    rintro b ⟨y, hy, hb⟩
    rcases List.mem_cons.1 hy with e | hy
    · rw [e, mem_blocks] at hb
      rcases hb with e | e | e
      · exact .inl ⟨x, hx, mem_blocks.2 (.inl e)⟩
      · exact .inl ⟨x, hx, mem_blocks.2 (.inr (.inl e))⟩
      · rcases hv with h1 | ⟨g, h1, h2⟩
        · exact .inl ⟨x, hx, mem_blocks.2 (.inr (.inr (h1 ▸ e)))⟩
        · have e' : v'.ownBlock = some b := e
          rw [h1] at e'
          injection e' with e'
          exact .inr (by omega)
    · exact .inl ⟨y, (mem_others.1 hy).1, hb⟩
  have hT0 : t ∉ x.blocks := fun e => h.tri.free ⟨x, hx, e⟩
  refine ⟨⟨hT, ?_, h.tri.bt, ?_⟩, ?_, h.frame.trans ⟨hfr.os, hfr.tape, hfr.output, hfr.size, fun b hb hF => hfr.block b hb (fun e => ?_)⟩, ?_, ?_⟩
  · obtain ⟨r, hr, hr0, hrt⟩ := h.tri.root
    have hrt2 := (hold t h.tri.lt hT0).trans hrt
    by_cases e : r.path = x.path
    · obtain rfl := h.tri.is.one hr hx e
      exact ⟨_, List.mem_cons_self .., hr0, hrt2⟩
    · exact ⟨r, List.mem_cons_of_mem _ (mem_others.2 ⟨hr, e⟩), hr0, hrt2⟩
  · intro hf
    rcases hfoot t hf with h1 | h1
    · exact h.tri.free h1
    · have := h.tri.lt; omega
  · intro z hz h0 _
    rcases List.mem_cons.1 hz with e | hz
    · refine .inl ?_
      have : id ∈ z.ids := by rw [e]; exact (putL_mem _ _ _).2 (.inl rfl)
      intro e2
      rw [e2] at this
      cases this
    · obtain ⟨hz1, hz2⟩ := mem_others.1 hz
      rcases h.lean z hz1 h0 (fun e => hz2 (by rw [e, List.take_length, hp])) with h1 | ⟨u, hu, t', ht⟩
      · exact .inl h1
      · by_cases e : u.path = x.path
        · exact .inr ⟨_, List.mem_cons_self .., t', e.symm.trans ht⟩
        · exact .inr ⟨u, List.mem_cons_of_mem _ (mem_others.2 ⟨hu, e⟩), t', ht⟩
  · have hb2 : foot T' b := ⟨x, hx, mem_blocks.2 (by rcases e with e | e; exact .inl e; exact .inr (.inr e))⟩
    rcases h.feet b hb2 with h1 | h1
    · exact hF (.inl (.inr h1))
    · exact hF (.inr h1)
  · intro b hb
    rcases hfoot b hb with h1 | h1
    · exact h.feet b h1
    · exact .inr (Nat.le_trans h.frame.size h1)
  · intro p z
    rw [← h.stands]
    constructor
    · rintro ⟨y, hy, h1, h2⟩
      rcases List.mem_cons.1 hy with e | hy
      · rw [e] at h1 h2
        rcases (putL_mem _ _ _).1 h2 with h3 | h3
        · exact .inr ⟨h1.symm.trans hp, h3⟩
        · exact .inl ⟨x, hx, h1, h3⟩
      · exact .inl ⟨y, (mem_others.1 hy).1, h1, h2⟩
    · rintro (⟨y, hy, h1, h2⟩ | ⟨h1, h2⟩)
      · by_cases e : y.path = x.path
        · obtain rfl := h.tri.is.one hy hx e
          exact ⟨_, List.mem_cons_self .., h1, (putL_mem _ _ _).2 (.inr h2)⟩
        · exact ⟨y, List.mem_cons_of_mem _ (mem_others.2 ⟨hy, e⟩), h1, h2⟩
      · exact ⟨_, List.mem_cons_self .., hp.trans h1.symm, (putL_mem _ _ _).2 (.inl h2)⟩
theorem Tri.setN {W : World} {base sz t : Nat} {T : List Nd} {n : Int} (h : Tri W base sz t T n) (n' : Int) : Tri (W.setCell ⟨t, 1, none⟩ (.int .i64 n')) base sz t T n' := by
  obtain ⟨x, hx, h0, hb⟩ := h.root
  exact ⟨h.is.kept fun b hb => Below.heap_setCell _ _ _ _ (fun e => h.free (by rw [← show b = t from e]; exact hb)), ⟨x, hx, h0, heap_setCell_same W t 1 _ _ _ hb⟩, h.bt, h.free⟩
def AddPost (w : World) (base sz t : Nat) (T : List Nd) (n : Int) (f : ByteArray) (id : Int) (r : Ending) (w' : World) : Prop :=
  ∃ (ok : Bool) (T' : List Nd), r = .returned (.bool ok) ∧ Tri w' base (sz + (levels f).length + 1) t T' (if ok then n + 1 else n) ∧ Lean_ T' (fun _ => False) ∧ Frame (fun b => b = t ∨ foot T b) w w' ∧ (∀ b, foot T' b → foot T b ∨ w.heap.size ≤ b) ∧
    (ok = true ↔ filterB f = true ∧ ¬ IdAt T (levels f) id) ∧ ∀ p z, IdAt T' p z ↔ IdAt T p z ∨ (filterB f = true ∧ p = levels f ∧ z = id)
set_option maxRecDepth 100000 in
set_option maxHeartbeats 8000000 in
theorem add_any (w : World) (base sz t : Nat) (T : List Nd) (n : Int) (f : ByteArray) (id : Int) (H : Tri w base sz t T n) (hl : Lean_ T (fun _ => False)) (hf : f.size ≤ 1048576) (hT : Tabs w) (hsz : sz ≤ 50000000) (hn : 0 ≤ n ∧ n ≤ 100000000) :
    Calls Tryz.prog 24 #[.pointer (some ⟨t, 0, none⟩), .string f, .int .i64 id] w (AddPost w base sz t T n f id) := by
  obtain ⟨PP, hPP⟩ : ∃ PP, AddPost w base sz t T n f id = PP := ⟨_, rfl⟩
  rw [hPP]
  have HPP := Lib.hid hPP
  have HH := Lib.hid H
  have HLE := Lib.hid hl
  obtain ⟨r0, hr0, hr1, hrb⟩ := H.root
  have CN : Hid (Calls Tryz.prog 58 #[.pointer (some ⟨t, 0, none⟩)] w fun e w' => e = .returned (.bool false) ∧ w' = w) := no_any _ w false (.inr ⟨t, _, n, rfl, hrb, rfl⟩)
  have CF : Hid (Calls Tryz.prog 38 #[.string f] w fun e w' => e = .returned (.bool (filterB f)) ∧ Below w.heap.size w w') := filter_any indexByte_said valid_said contains_said f w hf hT
  have CL : Hid (∀ W, Calls Tryz.prog 39 #[.string f] W fun e w' => ∃ v, e = .returned v ∧ (Sl w' v (levels f) ∧ ∀ g, v.ownBlock = some g → W.heap.size ≤ g) ∧ Below W.heap.size W w') := fun W => levels_any indexByte_said f W hf
  have HR0 := Lib.hid hr0
  have HR1 := Lib.hid hr1
  clear hPP H hl hr0 hr1 hrb
  cases hF : filterB f with
  | false =>
    rw [hF] at CF
    have HF := Lib.hid hF
    clear hF
    go_enter Tryz.func24, Tryz.ntmps24
    go_wp2_with fail
    refine CN.out.mono ?_
    rintro e w1 ⟨rfl, hw⟩
    subst w1
    go_wp2_with fail
    refine CF.out.mono ?_
    rintro e W1 ⟨rfl, hb1⟩
    have HB1 := Lib.hid hb1
    clear hb1
    go_wp2_with fail
    rw [← HPP.out]
    have h9 := HH.out.below HB1.out
    refine ⟨false, T, rfl, ⟨h9.is.more (by omega), h9.root, h9.bt, h9.free⟩, HLE.out, Frame.of_below HB1.out, fun b hb => .inl hb, ?_, fun p z => ?_⟩
    · rw [HF.out]; simp
    · rw [HF.out]; simp
  | true =>
    rw [hF] at CF
    have HF := Lib.hid hF
    clear hF
    go_enter Tryz.func24, Tryz.ntmps24
    go_wp2_with fail
    refine CN.out.mono ?_
    rintro e w1 ⟨rfl, hw⟩
    subst w1
    go_wp2_with fail
    refine CF.out.mono ?_
    rintro e W1 ⟨rfl, hb1⟩
    have HB1 := Lib.hid hb1
    have H1 := Lib.hid (HH.out.below hb1)
    clear hb1
    obtain ⟨r1, hr1, hr10, hrb⟩ := H1.out.root
    have c0 : W1.cell? ⟨t, 0, none⟩ = some (.pointer (some ⟨r1.a, 0, none⟩)) := by rw [cell_of_row W1 t 0 _ _ _ hrb]; rfl
    have hlt := H1.out.lt
    have HR := Lib.hid hr1
    have HR0' := Lib.hid hr10
    clear hr1 hr10 hrb
    go_wp2_with fail
    refine (CL.out W1).mono ?_
    rintro e W2 ⟨v, rfl, ⟨hsl, hvb⟩, hb2⟩
    obtain ⟨L, hL⟩ : ∃ L, levels f = L := ⟨_, rfl⟩
    rw [hL] at hsl
    have HLL := Lib.hid hL
    obtain ⟨p, cap, rfl, hc1, hc2, hc3⟩ := hsl
    obtain ⟨b, o, rfl, hc4⟩ : ∃ b o, p = some ⟨b, o, none⟩ ∧ ∀ (j : Nat) x, L[j]? = some x → W2.cell? ⟨b, o + j, none⟩ = some (.string x) := by
      rcases hc3 with h | h
      · exact absurd (hL.trans h) (levels_ne f)
      · exact h
    have HC3 := Lib.hid hc4
    have hbl : W1.heap.size ≤ b := hvb b rfl
    have HBL := Lib.hid hbl
    have HVB := Lib.hid hvb
    have HB2 := Lib.hid hb2
    have H2 := Lib.hid (H1.out.below hb2)
    have hLlen : L.length ≤ 1048577 := by rw [← hL]; have := levels_len f; omega
    have hLs : Hid (∀ s ∈ L, s.size ≤ maxLen) := by show ∀ s ∈ L, _; rw [← hL]; intro s hs; have := levels_size f s hs; unfold maxLen; omega
    clear hvb hb2 c0 hlt hc3 hc4 hL hbl
    go_wp2_with fail
    go_loopw [7, 9, 24] (fun s7 s9 s24 wr => ∃ (i : Nat) (x : Nd) (T' : List Nd), s24 = .int .i64 (i : Nat) ∧ s7 = .pointer (some ⟨x.a, 0, none⟩) ∧ i ≤ L.length ∧ Hid (x ∈ T') ∧ Hid (x.path = L.take i) ∧ Hid (AddSt W2 base sz t T T' n L i wr)) (fun _ _ s24 _ => L.length - (intOf s24).toNat)
    case atStart => exact ⟨0, r1, T, rfl, rfl, Nat.zero_le _, HR.out, HR0'.out, ⟨H2.out, fun p z => Iff.rfl, fun z hz h0 _ => HLE.out z hz h0 (fun e => e), Frame.of_below (Below.refl _ _), fun b hb => .inl hb⟩⟩
    case round =>
      obtain ⟨i, x, T', rfl, rfl, hi, hx, hp, HA⟩ := hrel
      by_cases hlt : i < L.length
      · obtain ⟨s, hs⟩ : ∃ s, L[i]? = some s := ⟨_, List.getElem?_eq_getElem hlt⟩
        have hnx := HA.out.tri.is.each x hx.out
        have hcs : wr.cell? ⟨b, o + i, none⟩ = some (.string s) := by
          have h1 := HC3.out i s hs
          have hbs := World.block_lt_of_cell? W2 _ h1
          rw [← h1]
          refine World.cell?_of_block (HA.out.frame.block b hbs (fun e => ?_))
          rcases e with e | e
          · have := H1.out.lt; have := HBL.out; omega
          · have := (H1.out.is.lt e).2; have := HBL.out; omega
        have hbs := World.block_lt_of_cell? wr _ hcs
        have hbx := hnx.box
        have c1 : wr.cell? ⟨x.a, 1, none⟩ = some (.map (some x.m)) := by rw [cell_of_row wr x.a 1 _ _ _ hbx]; rfl
        have hxl := (Array.getElem?_eq_some_iff.1 hbx).1
        have hsm := hLs.out s (List.mem_of_getElem? hs)
        have hltI : (i : Int) < (L.length : Int) := by omega
        have hi0 : (0 : Int) ≤ (i : Int) := by omega
        have hlk := (look_any hnx hsm).1
        have HS := Lib.hid hs
        clear hs hbx
        cases hk : kid x.D s with
        | some k =>
          rw [hk] at hlk
          simp only [Option.map_some] at hlk
          obtain ⟨y, hy, hy1, rfl, hA⟩ := HA.out.down hx.out hp.out HS.out hk
          have HY := Lib.hid hy
          have HY1 := Lib.hid hy1
          have HA2 := Lib.hid hA
          clear hy hy1 hA hk hnx
          go_wp2_with fail
          go_roundw
          case rel => exact ⟨i + 1, y, T', by go_num, rfl, by omega, HY.out, HY1.out, HA2.out⟩
          case measure => simp [intOf]; omega
        | none =>
          rw [hk] at hlk
          simp only [Option.map_none] at hlk
          have HK := Lib.hid hk
          have c1n : (newW wr.drew).cell? ⟨x.a, 1, none⟩ = some (.map (some x.m)) := by rw [← c1]; exact World.cell?_of_block ((newW_below wr.drew).block x.a hxl)
          have hml : x.m < wr.heap.size := hnx.map.lt
          have hmn : (newW wr.drew).ownsMap Tryz.prog 9 ptrR x.m (sz + i) x.D := (hnx.kept fun b hb => (newW_below wr.drew).block b ((hnx.lt hb).2)).map
          obtain ⟨w2, hst, hown, hturn⟩ := hmn.store (t := 99) (e := 93) string_keys Tryz.underlying99 (by unfold maxLen; omega) (WideMaps.keyOf_string_mk Tryz.underlying9 hsm) (ptrR_some (wr.heap.size + 1))
          have hdrew : AddSt W2 base sz t T T' n L i wr.drew := ⟨HA.out.tri.kept fun _ _ => rfl, HA.out.stands, HA.out.lean, ⟨HA.out.frame.os, HA.out.frame.tape, HA.out.frame.output, HA.out.frame.size, HA.out.frame.block⟩, HA.out.feet⟩
          have hA3 := hdrew.make hx.out hp.out HS.out hk hown hturn
          have hx3 : { x with D := x.D.put (.string s.data.toList) (kidD (wr.drew.heap.size + 1)) } ∈ newNd wr.drew (L.take (i + 1)) :: { x with D := x.D.put (.string s.data.toList) (kidD (wr.drew.heap.size + 1)) } :: others T' x.path := List.mem_cons_of_mem _ (List.mem_cons_self ..)
          have hn3 := hA3.tri.is.each _ hx3
          have hbx3 := hn3.box
          have c1w : w2.cell? ⟨x.a, 1, none⟩ = some (.map (some x.m)) := by rw [cell_of_row w2 x.a 1 _ _ _ hbx3]; rfl
          have hxl3 : x.a < w2.heap.size := (Array.getElem?_eq_some_iff.1 hbx3).1
          have hlk3 := (look_any hn3 hsm).1
          rw [show kid (x.D.put (.string s.data.toList) (kidD (wr.drew.heap.size + 1))) s = some (wr.heap.size + 1) from kid_put_same hnx.map.isMap s _] at hlk3
          simp only [Option.map_some] at hlk3
          have HA3 := Lib.hid hA3
          clear hown hturn hmn hk hnx hdrew hA3 hx3 hn3 hbx3
          go_upto_region 8 with fail
          go_region_with (first | (go_at_call 57; refine (newNode_any _).mono ?_; rintro e w1 ⟨rfl, rfl⟩))
          · go_wp2_with fail
            go_roundw
            case rel => exact ⟨i + 1, _, _, by go_num, rfl, by omega, List.mem_cons_self .., (rfl : (newNd wr.drew (L.take (i + 1))).path = L.take (i + 1)), HA3.out⟩
            case measure => simp [intOf]; omega
          · go_wp2_with fail
            go_roundw
            case rel => exact ⟨i + 1, _, _, by go_num, rfl, by omega, List.mem_cons_self .., (rfl : (newNd wr.drew (L.take (i + 1))).path = L.take (i + 1)), HA3.out⟩
            case measure => simp [intOf]; omega
      · obtain rfl : i = L.length := by omega
        have hpL : x.path = L := by rw [hp.out, List.take_length]
        have hnI : ¬ (L.length : Int) < (L.length : Int) := by omega
        have hnx := HA.out.tri.is.each x hx.out
        have hbx := hnx.box
        have hxl := (Array.getElem?_eq_some_iff.1 hbx).1
        have CP : Hid (Calls Tryz.prog 59 #[.pointer (some ⟨x.a, 0, none⟩), .int .i64 id] wr (PutPost wr base (sz + L.length) x id)) := put_any wr base _ x id hnx (HA.out.tri.is.rising x hx.out) (by have := HA.out.tri.is.few x hx.out; omega) (by have := hnx.ba; omega)
        have HPL := Lib.hid hpL
        clear hpL hnx hbx
        go_wp2_with fail
        refine CP.out.mono ?_
        rintro e w5 ⟨v', rfl, hnd, hfr, hv⟩
        obtain ⟨e1, e2, e3, e4, e5⟩ := HA.out.ended hx.out HPL.out hnd hfr hv
        have E1 := Lib.hid e1
        have E2 := Lib.hid e2
        have E3 := Lib.hid (show Frame (fun b => b = t ∨ foot T b) w w5 from by
          have h1 : Frame (fun b => b = t ∨ foot T b) w W2 := Frame.of_below (HB1.out.trans (HB2.out.mono HB1.out.size))
          exact h1.trans (e3.mono fun b hb => .inl hb))
        have E4 := Lib.hid (show ∀ b, foot ({ x with v := v', ids := putL (· < ·) x.ids id } :: others T' x.path) b → foot T b ∨ w.heap.size ≤ b from fun b hb => by
          rcases e4 b hb with h1 | h1
          · exact .inl h1
          · exact .inr (by have := HB1.out.size; have := HB2.out.size; omega))
        have E5 := Lib.hid e5
        have hin : id ∈ x.ids ↔ IdAt T L id := by
          rw [← HA.out.stands]
          constructor
          · intro h; exact ⟨x, hx.out, HPL.out, h⟩
          · rintro ⟨y, hy, h1, h2⟩
            obtain rfl := HA.out.tri.is.one hy hx.out (h1.trans HPL.out.symm)
            exact h2
        have HIN := Lib.hid hin
        clear hnd hfr hv e1 e2 e3 e4 e5 hin
        by_cases hm : id ∈ x.ids
        · have hd : decide (id ∉ x.ids) = false := decide_eq_false (fun h => h hm)
          have HM := Lib.hid hm
          rw [hd]
          clear hm hd
          go_wp2_with fail
          rw [← HPP.out]
          refine ⟨false, _, rfl, by rw [HLL.out]; exact E1.out, E2.out, E3.out, E4.out, ?_, fun p z => ?_⟩
          · rw [HLL.out]
            constructor
            · intro h; cases h
            · rintro ⟨-, h⟩; exact absurd (HIN.out.1 HM.out) h
          · rw [E5.out, HLL.out, HF.out]; simp
        · have hd : decide (id ∉ x.ids) = true := decide_eq_true hm
          have HM := Lib.hid hm
          rw [hd]
          obtain ⟨r5, hr5, hr50, hrb5⟩ := E1.out.root
          have k1 : w5.cell? ⟨t, 1, none⟩ = some (.int .i64 n) := by rw [cell_of_row w5 t 1 _ _ _ hrb5]; rfl
          have hft := frozen_of_row w5 t 1 _ _ hrb5
          have htl := (Array.getElem?_eq_some_iff.1 hrb5).1
          have hn1 := hn.1
          have hn2 := hn.2
          clear hm hd hr5 hr50 hrb5
          go_wp2_with fail
          rw [← HPP.out]
          refine ⟨true, _, rfl, by rw [HLL.out]; exact E1.out.setN (n + 1), E2.out, ?_, E4.out, ?_, fun p z => ?_⟩
          · exact ⟨E3.out.os, E3.out.tape, E3.out.output, by simpa [World.setCell] using E3.out.size, fun b hb hF => (Below.heap_setCell _ _ _ _ (fun e => hF (.inl e))).trans (E3.out.block b hb hF)⟩
          · rw [HLL.out]
            exact ⟨fun _ => ⟨HF.out, fun h => HM.out (HIN.out.2 h)⟩, fun _ => rfl⟩
          · rw [E5.out, HLL.out, HF.out]; simp
end
section
open Go Go.RowKit
attribute [local go_sem ↓] Go.wp_at_zero Go.wp_at_succ

theorem nodup_le {α : Type} : ∀ {l m : List α}, l.Nodup → (∀ x ∈ l, x ∈ m) → l.length ≤ m.length := by
  classical
  intro l
  induction l with
  | nil => intro m _ _; exact Nat.zero_le _
  | cons x l ih =>
    intro m h hs
    rw [List.nodup_cons] at h
    have hx := hs x (List.mem_cons_self ..)
    have h1 := ih (m := m.erase x) h.2 (fun y hy => (List.mem_erase_of_ne (fun e => h.1 (by rw [← e]; exact hy))).2 (hs y (List.mem_cons_of_mem _ hy)))
    have h2 := List.length_erase_of_mem hx
    have h3 := List.length_pos_of_mem hx
    rw [List.length_cons]
    omega
def inF (D : DataW Unit) (z : Int) : Bool := Maps.has D (.int .i64 z)
/-- a map of numbers to counts, whose keys are of A -/
structure FM (W : World) (mb : Nat) (D : DataW Unit) (A : List Int) : Prop where
  own : W.ownsMap Tryz.prog 3 (plainElem Tryz.prog 3) mb (Maps.size D) D
  keys : ∀ k, Maps.has D k = true → ∃ z ∈ A, k = .int .i64 z
theorem int_keys : Maps.Keyed Tryz.prog 3 := Maps.int_keyed Tryz.underlying3
theorem own_tight {H : Type} {W : World} {P : Program} {k : TypeId} {R : Value → Option (DataW H × List MemPlace)} {b n : Nat} {D : DataW H} (h : W.ownsMap P k R b n D) : W.ownsMap P k R b (Maps.size D) D := by
  obtain ⟨es, clock, h1, h2, h3, rfl⟩ := h
  refine ⟨es, clock, h1, h2, ?_, rfl⟩
  have e1 := length_read (P := P) (k := k) (R0 := R) es
  show es.size ≤ List.length _
  rw [e1]
  exact Nat.le_refl _
theorem FM.size {W : World} {mb : Nat} {D : DataW Unit} {A : List Int} (h : FM W mb D A) : Maps.size D ≤ A.length := by
  obtain ⟨es, rfl, hp, hk⟩ := h.own.entries int_keys
  have hnd : (es.map (·.1)).Nodup := List.pairwise_map.2 hp
  have h1 : ∀ k ∈ es.map (·.1), k ∈ A.map (Lit.int .i64) := by
    intro k hk1
    obtain ⟨p, hp1, rfl⟩ := List.mem_map.1 hk1
    obtain ⟨z, hz, e⟩ := h.keys p.1 (by
      rw [Maps.has_eq, List.any_eq_true]
      exact ⟨p, hp1, WideAt.sameKey_self (hk p hp1)⟩)
    rw [e]
    exact List.mem_map_of_mem hz
  have := nodup_le hnd h1
  simpa [Maps.size_eq] using this
theorem wrap_wf (c : Int) : (Lit.int .i64 (wrap64 c)).wf = true := by
  simp only [Lit.wf, Bool.and_eq_true, decide_eq_true_eq]
  constructor
  · show -9223372036854775808 ≤ wrap64 c
    unfold wrap64; omega
  · show wrap64 c ≤ 9223372036854775807
    unfold wrap64; omega
theorem inF_put {D : DataW Unit} (hD : Maps.IsMap D) (z y : Int) (d : DataW Unit) : inF (D.put (.int .i64 z) d) y = true ↔ y = z ∨ inF D y = true := by
  unfold inF
  by_cases h : y = z
  · subst h
    rw [Maps.has_put_same hD (show WideAt.IsKeyLit (.int .i64 y) from trivial)]
    simp
  · rw [Maps.has_put_other (fun e => h (by injection e))]
    simp [h]
theorem FM.look {W : World} {mb : Nat} {D : DataW Unit} {A : List Int} (h : FM W mb D A) {z : Int} (hz : (Lit.int .i64 z).wf = true) : ∃ c, (Instr.lookup 102 (.map (some mb)) (.int .i64 z) false).run Tryz.prog W = .ok (.int .i64 c) W := by
  obtain ⟨c, h1, -⟩ := h.own.lookup_int (t := 102) (e := 3) int_keys Tryz.underlying102 Tryz.underlying3 (by kernel_rfl) (Maps.keyOf_int_mk Tryz.underlying3 hz)
  exact ⟨c, h1⟩
theorem FM.store {W : World} {mb : Nat} {D : DataW Unit} {A : List Int} (h : FM W mb D A) (hA : A.length ≤ 100000000) {z : Int} (hzA : z ∈ A) (hz : (Lit.int .i64 z).wf = true) (c : Int) :
    ∃ W' D', (Instr.mapUpdate 102 (.map (some mb)) (.int .i64 z) (.int .i64 (wrap64 c))).run Tryz.prog W = .ok () W' ∧ FM W' mb D' A ∧ (∀ y, inF D' y = true ↔ y = z ∨ inF D y = true) ∧ W.grownBy W' (some mb) := by
  obtain ⟨W', h1, h2, h3⟩ := h.own.update (t := 102) (e := 3) int_keys Tryz.underlying102 (by have := h.size; unfold maxLen; omega) (Maps.keyOf_int_mk Tryz.underlying3 hz) (plainElem_int Tryz.underlying3 (wrap_wf c))
  refine ⟨W', _, h1, ⟨own_tight h2, fun k hk => ?_⟩, fun y => inF_put h.own.isMap z y _, h3⟩
  by_cases e : k = .int .i64 z
  · exact ⟨z, hzA, e⟩
  · rw [Maps.has_put_other e] at hk
    exact h.keys k hk
theorem FM.kept {W W' : World} {mb : Nat} {D : DataW Unit} {A : List Int} (h : FM W mb D A) (hb : W'.heap[mb]? = W.heap[mb]?) : FM W' mb D A := by
  obtain ⟨es, clock, h1, h2⟩ := h.own
  exact ⟨⟨es, clock, hb.trans h1, h2⟩, h.keys⟩
theorem FM.lt {W : World} {mb : Nat} {D : DataW Unit} {A : List Int} (h : FM W mb D A) : mb < W.heap.size := h.own.lt
/-- the closure puts a node's numbers in -/
def FoundPost (w : World) (mb : Nat) (D : DataW Unit) (A : List Int) (S : Int → Prop) (r : Ending) (w' : World) : Prop :=
  r = .returned (.tuple #[]) ∧ ∃ D', FM w' mb D' A ∧ (∀ y, inF D' y = true ↔ inF D y = true ∨ S y) ∧ Frame (fun b => b = mb) w w'
theorem fput_nil (w : World) (bb mb : Nat) (D : DataW Unit) (A : List Int) (hF : FM w mb D A) :
    Calls Tryz.prog 91 #[.pointer none, .pointer (some ⟨bb, 0, none⟩)] w (FoundPost w mb D A (fun _ => False)) := by
  obtain ⟨PP, hPP⟩ : ∃ PP, FoundPost w mb D A (fun _ => False) = PP := ⟨_, rfl⟩
  rw [hPP]
  have HPP := Lib.hid hPP
  have HF := Lib.hid hF
  clear hPP hF
  go_enter Tryz.func91, Tryz.ntmps91
  go_wp2_with fail
  refine bodyPost_ret (v := .tuple #[]) (by simp [results, Tryz.results91]) rfl ?_
  rw [← HPP.out]
  exact ⟨rfl, D, HF.out, fun y => by simp, ⟨rfl, rfl, rfl, Nat.le_refl _, fun _ _ _ => rfl⟩⟩
set_option maxRecDepth 100000 in
set_option maxHeartbeats 4000000 in
theorem fput_any (w : World) (base sz bb mb : Nat) (x : Nd) (D : DataW Unit) (A : List Int) (hF : FM w mb D A) (hbox : w.heap[bb]? = some (.cells #[.map (some mb)] 102 (0, 0))) (h : NdIs w base sz x) (hm : mb ∉ x.blocks) (hA : A.length ≤ 100000000) (hx : ∀ z ∈ x.ids, z ∈ A) (hw : ∀ z ∈ A, (Lit.int .i64 z).wf = true) (hn : x.ids.length ≤ 100000000) :
    Calls Tryz.prog 91 #[.pointer (some ⟨x.a, 0, none⟩), .pointer (some ⟨bb, 0, none⟩)] w (FoundPost w mb D A (fun y => y ∈ x.ids)) := by
  obtain ⟨PP, hPP⟩ : ∃ PP, FoundPost w mb D A (fun y => y ∈ x.ids) = PP := ⟨_, rfl⟩
  rw [hPP]
  have HPP := Lib.hid hPP
  have HF := Lib.hid hF
  have HX := Lib.hid hx
  have HW := Lib.hid hw
  have HN := Lib.hid h
  have HBX := Lib.hid hbox
  have c0 : w.cell? ⟨x.a, 0, none⟩ = some x.v := by rw [cell_of_row w x.a 0 _ _ _ h.box]; rfl
  have hl := (Array.getElem?_eq_some_iff.1 h.box).1
  have hbm : bb ≠ mb := by
    obtain ⟨es, clock, h1, -⟩ := hF.own
    rintro rfl
    rw [hbox] at h1
    cases h1
  have HBM := Lib.hid hbm
  have HM := Lib.hid hm
  obtain ⟨q, n, c, hv⟩ : ∃ q n c, x.v = .slice q n c := by
    rcases IRow.form (show IRow w base x.v x.ids from h.row) with ⟨h1, -⟩ | ⟨g, cap, cur, h1, -⟩
    · exact ⟨_, _, _, h1⟩
    · exact ⟨_, _, _, h1⟩
  have hlen : n = x.ids.length := by
    rcases IRow.form (show IRow w base x.v x.ids from h.row) with ⟨h1, h2⟩ | ⟨g, cap, cur, h1, -⟩
    · rw [hv] at h1; injection h1 with _ h3 _; rw [h3, h2]; rfl
    · rw [hv] at h1; injection h1
  rw [hv] at c0
  have HV := Lib.hid hv
  obtain rfl := hlen
  clear hPP hF hx hw h hbox hbm hm hv
  go_enter Tryz.func91, Tryz.ntmps91
  go_wp2_with fail
  go_loopw [4, 13] (fun s4 s13 wr => ∃ (i : Nat) (D' : DataW Unit), s13 = .int .i64 (i : Nat) ∧ i ≤ x.ids.length ∧ Hid (FM wr mb D' A) ∧ Hid (∀ y, inF D' y = true ↔ inF D y = true ∨ y ∈ x.ids.take i) ∧ Hid (Frame (fun b => b = mb) w wr)) (fun _ s13 _ => x.ids.length - (intOf s13).toNat)
  case atStart => exact ⟨0, D, rfl, Nat.zero_le _, HF.out, fun y => by simp, ⟨rfl, rfl, rfl, Nat.le_refl _, fun _ _ _ => rfl⟩⟩
  case round =>
    obtain ⟨i, D', rfl, hi, HF', HD', HFR⟩ := hrel
    by_cases hlt : i < x.ids.length
    · obtain ⟨z, hz⟩ : ∃ z, x.ids[i]? = some z := ⟨_, List.getElem?_eq_getElem hlt⟩
      have hzm := List.mem_of_getElem? hz
      have hwz := HW.out z (HX.out z hzm)
      have hold : ∀ b, b < w.heap.size → b ≠ mb → wr.heap[b]? = w.heap[b]? := fun b hb hne => HFR.out.block b hb hne
      obtain ⟨g, hq, hgl, hcz⟩ : ∃ g, q = some ⟨g, 0, none⟩ ∧ g < w.heap.size ∧ wr.cell? ⟨g, i, none⟩ = some (.int .i64 z) := by
        rcases IRow.form (show IRow w base x.v x.ids from HN.out.row) with ⟨h1, h2⟩ | ⟨g, cap, cur, h1, -, hgl, -, -, -, -, -, hc⟩
        · rw [h2] at hlt; simp at hlt
        · rw [HV.out] at h1
          injection h1 with h1 _ _
          refine ⟨g, h1, hgl, ?_⟩
          have hgm : g ≠ mb := fun e => HM.out (by rw [mem_blocks, HV.out, h1, e]; exact .inr (.inr rfl))
          have h3 := hc i hlt
          rw [show x.ids.getD i 0 = z by unfold List.getD; rw [hz]; rfl] at h3
          rw [← h3]
          exact World.cell?_of_block (hold g hgl hgm)
      subst hq
      have hbb : wr.heap[bb]? = some (.cells #[.map (some mb)] 102 (0, 0)) := (hold bb (Array.getElem?_eq_some_iff.1 HBX.out).1 HBM.out).trans HBX.out
      have cb : wr.cell? ⟨bb, 0, none⟩ = some (.map (some mb)) := by rw [cell_of_row wr bb 0 _ _ _ hbb]; rfl
      have hbl := (Array.getElem?_eq_some_iff.1 hbb).1
      have hgl2 := World.block_lt_of_cell? wr _ hcz
      obtain ⟨cc, hlk⟩ := HF'.out.look hwz
      obtain ⟨w2, D2, hst, hF2, hD2, hg2⟩ := HF'.out.store hA (HX.out z hzm) hwz (cc + 1)
      have hltI : (i : Int) < (x.ids.length : Int) := by omega
      have hi0 : (0 : Int) ≤ (i : Int) := by omega
      have HF2 := Lib.hid hF2
      have HD2 := Lib.hid hD2
      have HG2 := Lib.hid hg2
      have HZ := Lib.hid hz
      clear hz hold hbb hF2 hD2 hg2 hzm hwz
      go_wp2_with fail
      go_roundw
      case rel =>
        refine ⟨i + 1, D2, by go_num, by omega, HF2.out, fun y => ?_, HFR.out.trans (Frame.of_grown HG2.out (fun b e => by injection e with e; exact .inl e.symm))⟩
        rw [HD2.out, HD'.out, List.take_add_one, HZ.out]
        simp only [Option.toList, List.mem_append, List.mem_singleton]
        constructor
        · rintro (h | h | h)
          · exact .inr (.inr h)
          · exact .inl h
          · exact .inr (.inl h)
        · rintro (h | h | h)
          · exact .inr (.inl h)
          · exact .inr (.inr h)
          · exact .inl h
      case measure => simp [intOf]; omega
    · have hnI : ¬ (i : Int) < (x.ids.length : Int) := by omega
      go_wp2_with fail
      refine bodyPost_ret (v := .tuple #[]) (by simp [results, Tryz.results91]) rfl ?_
      rw [← HPP.out]
      refine ⟨rfl, D', HF'.out, fun y => ?_, HFR.out⟩
      rw [HD'.out, List.take_of_length_le (by omega)]
end
end Go.Proofs.YtincmegllckcjaaGreatDoor
