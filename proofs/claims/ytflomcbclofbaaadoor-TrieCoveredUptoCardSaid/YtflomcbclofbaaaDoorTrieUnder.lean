/- TRIE: Under. -/
import Derived.Test.YtflomcbclofbaaaDoorTrieFilt
namespace Go.Proofs.YtflomcbclofbaaaDoor
open Go Go.RowKit
attribute [local go_sem ↓] Go.wp_at_zero Go.wp_at_succ

/-- slices.Clone at a row -/
theorem clone_any (v : Value) (zs : List Int) (base : Nat) (w : World) (h : IRow w base v zs) (hn : zs.length ≤ 1000000000) :
    Calls Tryd.prog 34 #[v] w fun e w' => ∃ v', e = .returned v' ∧ IRow w' w.heap.size v' zs ∧ Below w.heap.size w w' := by
  rcases h.form with ⟨rfl, rfl⟩ | ⟨g, cap, cur, rfl, hb, hg, hbox, h3, h4, h5, h6, hc⟩
  · refine (Any.slices_Clone_int_nil Tryd.laysn15 0 0 w).mono ?_
    rintro e w' ⟨rfl, rfl⟩
    exact ⟨_, rfl, IRow.nil _ _, Below.refl _ _⟩
  · refine (Any.slices_Clone_int Tryd.laysn15 g 0 zs.length cap zs w (Nat.le_refl _) (by omega) (fun j hj => by rw [Nat.zero_add]; exact hc j hj)).mono ?_
    rintro e w' ⟨v', rfl, h7, -, h8⟩
    rw [List.take_length] at h7
    exact ⟨v', rfl, h7, h8⟩
def UnderPost (w : World) (T : List Nd) (f : ByteArray) (r : Ending) (w' : World) : Prop :=
  ∃ v ids, r = .returned v ∧ IRow w' w.heap.size v ids ∧ ids.Pairwise (· < ·) ∧ (∀ z, z ∈ ids ↔ filterB f = true ∧ IdAt T (levels f) z) ∧ Below w.heap.size w w'
set_option maxRecDepth 100000 in
set_option maxHeartbeats 8000000 in
theorem under_any (w : World) (base sz t : Nat) (T : List Nd) (n : Int) (f : ByteArray) (H : Tri w base sz t T n) (hf : f.size ≤ 1048576) (hT : Tabs w) (hsz : sz ≤ 100000000) :
    Calls Tryd.prog 13 #[.pointer (some ⟨t, 0, none⟩), .string f] w (UnderPost w T f) := by
  obtain ⟨PP, hPP⟩ : ∃ PP, UnderPost w T f = PP := ⟨_, rfl⟩
  rw [hPP]
  have HPP := Lib.hid hPP
  have HH := Lib.hid H
  obtain ⟨r0, hr0, hr1, hrb⟩ := H.root
  have CN : Hid (Calls Tryd.prog 19 #[.pointer (some ⟨t, 0, none⟩)] w fun e w' => e = .returned (.bool false) ∧ w' = w) := no_any _ w false (.inr ⟨t, _, n, rfl, hrb, rfl⟩)
  have CF : Hid (Calls Tryd.prog 20 #[.string f] w fun e w' => e = .returned (.bool (filterB f)) ∧ Below w.heap.size w w') := filter_any indexByte_said valid_said contains_said f w hf hT
  have CL : Hid (∀ W, Calls Tryd.prog 21 #[.string f] W fun e w' => ∃ v, e = .returned v ∧ (Sl w' v (levels f) ∧ ∀ g, v.ownBlock = some g → W.heap.size ≤ g) ∧ Below W.heap.size W w') := fun W => levels_any indexByte_said f W hf
  clear hPP H hr0 hr1 hrb
  cases hF : filterB f with
  | false =>
    rw [hF] at CF
    have HF := Lib.hid hF
    clear hF
    go_enter Tryd.func13, Tryd.ntmps13
    go_wp2_with fail
    refine CN.out.mono ?_
    rintro e w1 ⟨rfl, hw⟩
    subst w1
    go_wp2_with fail
    refine CF.out.mono ?_
    rintro e W1 ⟨rfl, hb1⟩
    have HB1 := Lib.hid hb1
    clear hb1
    go_wp2_with fail
    rw [← HPP.out]
    exact ⟨_, [], rfl, IRow.nil _ _, List.Pairwise.nil, fun z => Iff.intro (fun h => by cases h) (fun h => by have := h.1; rw [HF.out] at this; cases this), HB1.out⟩
  | true =>
    rw [hF] at CF
    have HF := Lib.hid hF
    clear hF
    go_enter Tryd.func13, Tryd.ntmps13
    go_wp2_with fail
    refine CN.out.mono ?_
    rintro e w1 ⟨rfl, hw⟩
    subst w1
    go_wp2_with fail
    refine CF.out.mono ?_
    rintro e W1 ⟨rfl, hb1⟩
    have HB1 := Lib.hid hb1
    have H1 := Lib.hid (HH.out.below hb1)
    clear hb1
    obtain ⟨r1, hr1, hr10, hrb⟩ := H1.out.root
    have c0 : W1.cell? ⟨t, 0, none⟩ = some (.pointer (some ⟨r1.a, 0, none⟩)) := by rw [cell_of_row W1 t 0 _ _ _ hrb]; rfl
    have hlt := H1.out.lt
    have HR := Lib.hid hr1
    have HR0 := Lib.hid hr10
    clear hr1 hr10 hrb
    go_wp2_with fail
    refine (CL.out W1).mono ?_
    rintro e W2 ⟨v, rfl, ⟨hsl, hvb⟩, hb2⟩
    obtain ⟨L, hL⟩ : ∃ L, levels f = L := ⟨_, rfl⟩
    rw [hL] at hsl
    have HLL := Lib.hid hL
    obtain ⟨p, cap, rfl, hc1, hc2, hc3⟩ := hsl
    obtain ⟨b, o, rfl, hc4⟩ : ∃ b o, p = some ⟨b, o, none⟩ ∧ ∀ (j : Nat) x, L[j]? = some x → W2.cell? ⟨b, o + j, none⟩ = some (.string x) := by
      rcases hc3 with h | h
      · exact absurd (hL.trans h) (levels_ne f)
      · exact h
    have HC3 := Lib.hid hc4
    have HB2 := Lib.hid hb2
    have H2 := Lib.hid (H1.out.below hb2)
    have hLlen : L.length ≤ 1048577 := by rw [← hL]; have := levels_len f; omega
    have hLs : Hid (∀ s ∈ L, s.size ≤ maxLen) := by show ∀ s ∈ L, _; rw [← hL]; intro s hs; have := levels_size f s hs; unfold maxLen; omega
    clear hvb hb2 c0 hlt hc3 hc4 hL
    go_wp2_with fail
    go_loopw [5, 22] (fun s5 s22 wr => ∃ (i : Nat) (x : Nd), s22 = .int .i64 (i : Nat) ∧ s5 = .pointer (some ⟨x.a, 0, none⟩) ∧ i ≤ L.length ∧ Hid (x ∈ T) ∧ Hid (x.path = L.take i) ∧ Hid (Below W2.heap.size W2 wr)) (fun _ s22 _ => L.length - (intOf s22).toNat)
    case atStart => exact ⟨0, r1, rfl, rfl, Nat.zero_le _, HR.out, HR0.out, Below.refl _ _⟩
    case round =>
      obtain ⟨i, x, rfl, rfl, hi, hx, hp, HA⟩ := hrel
      have H3 := Lib.hid (H2.out.below HA.out)
      have hnx := H3.out.is.each x hx.out
      have hbx := hnx.box
      have hxl := (Array.getElem?_eq_some_iff.1 hbx).1
      by_cases hlt : i < L.length
      · obtain ⟨s, hs⟩ : ∃ s, L[i]? = some s := ⟨_, List.getElem?_eq_getElem hlt⟩
        have hcs : wr.cell? ⟨b, o + i, none⟩ = some (.string s) := by
          have h1 := HC3.out i s hs
          exact (HA.out.cell (World.block_lt_of_cell? W2 _ h1)).trans h1
        have hbs := World.block_lt_of_cell? wr _ hcs
        have c1 : wr.cell? ⟨x.a, 1, none⟩ = some (.map (some x.m)) := by rw [cell_of_row wr x.a 1 _ _ _ hbx]; rfl
        have hsm := hLs.out s (List.mem_of_getElem? hs)
        have hltI : (i : Int) < (L.length : Int) := by omega
        have hi0 : (0 : Int) ≤ (i : Int) := by omega
        have hlk := (look_any hnx hsm).1
        have HS := Lib.hid hs
        clear hs hbx hnx
        have htake : L.take (i + 1) = L.take i ++ [s] := by rw [List.take_add_one, HS.out]; rfl
        have HTK := Lib.hid htake
        clear htake
        cases hk : kid x.D s with
        | some k =>
          rw [hk] at hlk
          simp only [Option.map_some] at hlk
          obtain ⟨y, hy, hy1, rfl⟩ := (H3.out.is.kids x hx.out s k).1 hk
          have HY := Lib.hid hy
          have HY1 := Lib.hid hy1
          clear hy hy1 hk
          go_wp2_with fail
          go_roundw
          case rel => exact ⟨i + 1, y, by go_num, rfl, by omega, HY.out, by show _ = _; rw [HTK.out, HY1.out, hp.out], HA.out⟩
          case measure => simp [intOf]; omega
        | none =>
          rw [hk] at hlk
          simp only [Option.map_none] at hlk
          have HK := Lib.hid hk
          clear hk
          go_wp2_with fail
          rw [← HPP.out]
          refine ⟨_, [], rfl, IRow.nil _ _, List.Pairwise.nil, fun z => Iff.intro (fun h => by cases h) (fun h => ?_), (HB1.out.trans (HB2.out.mono HB1.out.size)).trans (HA.out.mono (Nat.le_trans HB1.out.size HB2.out.size))⟩
          exfalso
          obtain ⟨u, hu, hup, huz⟩ := h.2
          rw [HLL.out] at hup
          have hsplit : L = x.path ++ [s] ++ L.drop (i + 1) := by rw [hp.out, ← HTK.out]; exact (List.take_append_drop _ _).symm
          exact H3.out.is.gone hx.out HK.out (L.drop (i + 1)) z (by
            rw [← hsplit]
            exact ⟨u, hu, hup, huz⟩)
      · have hge : i = L.length := by omega
        have hltI : ¬ ((i : Int) < (L.length : Int)) := by omega
        have c0 : wr.cell? ⟨x.a, 0, none⟩ = some x.v := by rw [cell_of_row wr x.a 0 _ _ _ hbx]; rfl
        have hrow : IRow wr base x.v x.ids := hnx.row
        have hfew := H3.out.is.few x hx.out
        have CC := Lib.hid (clone_any x.v x.ids base wr hrow (by omega))
        obtain ⟨q, c, hv⟩ := hrow.slice
        rw [hv] at c0 CC
        clear hbx hrow hnx
        go_wp2_with fail
        refine CC.out.mono ?_
        rintro e W4 ⟨v', rfl, hr4, hb4⟩
        have HR4 := Lib.hid hr4
        have HB4 := Lib.hid hb4
        clear hr4 hb4
        go_wp2_with fail
        rw [← HPP.out]
        have hb3 : Below w.heap.size w wr := (HB1.out.trans (HB2.out.mono HB1.out.size)).trans (HA.out.mono (Nat.le_trans HB1.out.size HB2.out.size))
        refine ⟨_, x.ids, rfl, ownsRow_mono HR4.out hb3.size, H3.out.is.rising x hx.out, fun z => ?_, hb3.trans (HB4.out.mono hb3.size)⟩
        have hpx : x.path = levels f := by rw [hp.out, HLL.out, hge, List.take_length]
        constructor
        · intro h
          exact ⟨HF.out, x, hx.out, hpx, h⟩
        · rintro ⟨-, u, hu, hup, hz⟩
          rw [H3.out.is.one hx.out hu (hpx.trans hup.symm)]
          exact hz
end Go.Proofs.YtflomcbclofbaaaDoor
