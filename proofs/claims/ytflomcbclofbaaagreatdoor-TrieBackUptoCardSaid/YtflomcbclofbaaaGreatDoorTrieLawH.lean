/- THE LAW TrieHears. -/
import Derived.Test.YtflomcbclofbaaaGreatDoorTrieLawO
namespace Go.Proofs.YtflomcbclofbaaaGreatDoor
open Go Go.RowKit
attribute [local go_sem ↓] Go.wp_at_zero Go.wp_at_succ

theorem rise_len {l : Subs} {f : ByteArray} {ids : List Int} (h : ids.Pairwise (· < ·)) (k : ∀ z, z ∈ ids → (f, z) ∈ l) : ids.length ≤ l.length := by
  have h1 : (ids.map fun z => (f, z)).Nodup := List.pairwise_map.2 ((sorted_nodup ord_int h).imp fun hne e => hne (by injection e))
  have := nodup_le (m := l) h1 fun p hp => by
    obtain ⟨z, hz, rfl⟩ := List.mem_map.1 hp
    exact k z hz
  rwa [List.length_map] at this
theorem rise_len2 {l : Subs} {ids : List Int} (h : ids.Pairwise (· < ·)) (k : ∀ z, z ∈ ids → ∃ f, (f, z) ∈ l) : ids.length ≤ l.length := by
  have := nodup_le (m := l.map (·.2)) (sorted_nodup ord_int h) fun p hp => by
    obtain ⟨f, hf⟩ := k p hp
    exact List.mem_map.2 ⟨_, hf, rfl⟩
  rwa [List.length_map] at this
/-- what is wanted so far -/
def Want_ (l : Subs) (ss : List ByteArray) (n : ByteArray) (i : Nat) (want : List Int) : Prop := want.Pairwise (fun a b : Int => a < b) ∧ ∀ z, z ∈ want ↔ ∃ f, f ∈ ss.take i ∧ matchB f n = true ∧ (f, z) ∈ l
theorem Want_.len {l : Subs} {ss : List ByteArray} {n : ByteArray} {i : Nat} {want : List Int} (h : Want_ l ss n i want) : want.length ≤ l.length := rise_len2 h.1 fun z hz => by
  obtain ⟨f, -, -, h1⟩ := (h.2 z).1 hz
  exact ⟨f, h1⟩
theorem Want_.skip {l : Subs} {ss : List ByteArray} {n : ByteArray} {i : Nat} {want : List Int} {f : ByteArray} (h : Want_ l ss n i want) (hf : ss[i]? = some f) (hm : matchB f n = false) : Want_ l ss n (i + 1) want := by
  refine ⟨h.1, fun z => ?_⟩
  rw [h.2]
  constructor
  · rintro ⟨g, h1, h2⟩; exact ⟨g, (take_snoc_mem hf g).2 (.inl h1), h2⟩
  · rintro ⟨g, h1, h2, h3⟩
    rcases (take_snoc_mem hf g).1 h1 with h1 | rfl
    · exact ⟨g, h1, h2, h3⟩
    · rw [hm] at h2; cases h2
/-- .. and those of one filter -/
def Want2 (l : Subs) (ss : List ByteArray) (n : ByteArray) (i : Nat) (ids : List Int) (k : Nat) (want : List Int) : Prop := want.Pairwise (fun a b : Int => a < b) ∧ ∀ z, z ∈ want ↔ (∃ f, f ∈ ss.take i ∧ matchB f n = true ∧ (f, z) ∈ l) ∨ z ∈ ids.take k
theorem Want2.done {l : Subs} {ss : List ByteArray} {n : ByteArray} {i : Nat} {ids want : List Int} {f : ByteArray} (h : Want2 l ss n i ids ids.length want) (hf : ss[i]? = some f) (hm : matchB f n = true) (hi : ∀ z, z ∈ ids ↔ (f, z) ∈ l) : Want_ l ss n (i + 1) want := by
  refine ⟨h.1, fun z => ?_⟩
  rw [h.2, List.take_length, hi]
  constructor
  · rintro (⟨g, h1, h2⟩ | h1)
    · exact ⟨g, (take_snoc_mem hf g).2 (.inl h1), h2⟩
    · exact ⟨f, (take_snoc_mem hf f).2 (.inr rfl), hm, h1⟩
  · rintro ⟨g, h1, h2, h3⟩
    rcases (take_snoc_mem hf g).1 h1 with h1 | rfl
    · exact .inl ⟨g, h1, h2, h3⟩
    · exact .inr h3
theorem Want2.put {l : Subs} {ss : List ByteArray} {n : ByteArray} {i k : Nat} {ids want : List Int} {x : Int} (h : Want2 l ss n i ids k want) (hx : ids[k]? = some x) : Want2 l ss n i ids (k + 1) (putL (fun a b : Int => a < b) want x) := by
  refine ⟨putL_sorted ord_int h.1 x, fun z => ?_⟩
  rw [putL_mem, h.2, take_snoc_mem hx]
  constructor
  · rintro (h1 | h1 | h1)
    · exact .inr (.inr h1)
    · exact .inl h1
    · exact .inr (.inl h1)
  · rintro (h1 | h1 | h1)
    · exact .inr (.inl h1)
    · exact .inr (.inr h1)
    · exact .inl h1
theorem Want2.len {l : Subs} {ss : List ByteArray} {n : ByteArray} {i k : Nat} {ids want : List Int} {f : ByteArray} (h : Want2 l ss n i ids k want) (hi : ∀ z, z ∈ ids ↔ (f, z) ∈ l) : want.length ≤ l.length := rise_len2 h.1 fun z hz => by
  rcases (h.2 z).1 hz with ⟨f, -, -, h1⟩ | h1
  · exact ⟨f, h1⟩
  · exact ⟨f, (hi z).1 (List.mem_of_mem_take h1)⟩
set_option maxRecDepth 100000 in
set_option maxHeartbeats 8000000 in
theorem trieHears_any (w : World) (hT : Tabs w) (v : Value) (L : Acts) (n : ByteArray) (h : Script w v L) (hn : n.size ≤ 1048576) :
    Calls Tryz.prog 6 #[v, .string n] w fun e w' => e = .returned (.bool true) ∧ Below w.heap.size w w' := by
  obtain ⟨PP, hPP⟩ : ∃ PP : Ending → World → Prop, (fun e w' => e = .returned (.bool true) ∧ Below w.heap.size w w') = PP := ⟨_, rfl⟩
  rw [hPP]
  have HPP := Lib.hid hPP
  have HT := Lib.hid hT
  have HSC := Lib.hid h
  have HBU := Lib.hid (h.built hT)
  clear hPP h hT
  go_enter Tryz.func6, Tryz.ntmps6
  go_wp2_with (go_at_call 7; refine HBU.out.mono ?_; rintro e w1 ⟨t, T, rb, vr, sz, rfl, hsz, htw⟩; have hkn := HSC.out.known htw)
  have HKN := Lib.hid hkn
  have HSZ := Lib.hid (Nat.le_trans hsz HSC.out.sz)
  obtain ⟨l, hl⟩ : ∃ l, runA L = l := ⟨_, rfl⟩
  rw [hl] at htw HKN
  have HTW := Lib.hid htw.st
  have hll := HKN.out.len
  have htl := HKN.out.tot
  have hszl := HSZ.out
  have HFZ : Hid (∀ x ∈ l, x.1.size ≤ 900000) := fun x hx => Nat.le_trans (filter_size (HKN.out.ok x hx)) (by omega)
  clear htw hkn hl hsz
  go_wp2_with fail
  refine (tof_filters HTW.out.of_ (by omega) HFZ.out).mono ?_
  rintro e w2 ⟨⟨v2, s2, rfl, hs2, hn2, hm2, hl2⟩, hb2⟩
  have HTW2 := Lib.hid (HTW.out.below hb2)
  have HMS : Hid (∀ f, f ∈ sortS s2 ↔ ∃ z, (f, z) ∈ l) := fun f => mem_sortS.trans (hm2 f)
  have hsl : (sortS s2).length ≤ 5000000 := by
    have : (sortS s2).length = s2.length := by unfold sortS lists; rw [List.length_map, List.length_mergeSort, List.length_map]
    omega
  have hsl2 := Sl.of_owns hs2
  obtain ⟨ss, hss⟩ : ∃ ss, sortS s2 = ss := ⟨_, rfl⟩
  rw [hss] at hsl2 HMS hsl
  obtain ⟨q2, c2, rfl⟩ : ∃ q c, v2 = .slice q ss.length c := (Sl_fl hsl2).form
  have HSL := Lib.hid hsl2
  clear hs2 hn2 hm2 hl2 hb2 hss hsl2
  go_wp2_with fail
  go_loopw [7, 9] (fun s7 s9 wr => ∃ (i : Nat) (q7 : Option Addr) (c7 : Nat) (want : List Int), s7 = .slice q7 want.length c7 ∧ s9 = .int .i64 (i : Nat) ∧ i ≤ ss.length ∧ Hid (IS wr (.slice q7 want.length c7) want) ∧ Hid (Want_ l ss n i want) ∧ Hid (Below w2.heap.size w2 wr)) (fun _ s9 _ => ss.length - (intOf s9).toNat)
  case atStart => exact ⟨0, none, 0, [], rfl, rfl, Nat.zero_le _, ⟨none, 0, rfl, Nat.le_refl _, by omega, .inl rfl⟩, ⟨List.Pairwise.nil, fun z => by simp⟩, Below.refl _ _⟩
  case round =>
    obtain ⟨i, q7, c7, want, rfl, rfl, hi, hS, hW, hB⟩ := hrel
    by_cases hlt : i < ss.length
    · obtain ⟨f, hf⟩ : ∃ f, ss[i]? = some f := ⟨_, List.getElem?_eq_getElem hlt⟩
      obtain ⟨b, o, rfl, hc0⟩ := Sl_cell HSL.out hf
      have hce := (hB.out.cell (World.block_lt_of_cell? w2 _ hc0)).trans hc0
      have hbl : b < wr.heap.size := World.block_lt_of_cell? wr _ hce
      have hltI : (i : Int) < (ss.length : Int) := by omega
      have hi0 : (0 : Int) ≤ (i : Int) := by omega
      have hfs : f.size ≤ 1048576 := by
        obtain ⟨z, hz⟩ := (HMS.out f).1 (List.mem_of_getElem? hf)
        have : f.size ≤ 900000 := HFZ.out _ hz
        omega
      have HF := Lib.hid hf
      have CM := refMatch_any valid_said f n wr hfs hn (HTW2.out.below hB.out |>.tabs HT.out)
      clear hf hc0
      cases hm : matchB f n with
      | false =>
        rw [hm] at CM
        have HM := Lib.hid hm
        have CM' := Lib.hid CM
        clear CM hm
        go_wp2_with (go_at_call 19; refine CM'.out.mono ?_; rintro e w3 ⟨rfl, hb3⟩; have HB3 := Lib.hid (hB.out.trans (hb3.mono hB.out.size)); have HS3 := Lib.hid (IS.below hS.out hb3); clear hb3)
        go_roundw
        case rel => exact ⟨i + 1, q7, c7, want, rfl, by go_num, by omega, HS3.out, hW.out.skip HF.out HM.out, HB3.out⟩
        case measure => simp [intOf]; omega
      | true =>
        rw [hm] at CM
        have HM := Lib.hid hm
        have CM' := Lib.hid CM
        clear CM hm
        go_wp2_with (go_at_call 19; refine CM'.out.mono ?_; rintro e w3 ⟨rfl, hb3⟩; have HB3 := Lib.hid (hB.out.trans (hb3.mono hB.out.size)); have HS3 := Lib.hid (IS.below hS.out hb3); have hc3 := (hb3.cell (p := ⟨b, o + i, none⟩) hbl).trans hce; have hbl3 : b < w3.heap.size := World.block_lt_of_cell? w3 _ hc3; clear hb3)
        go_wp2_with fail
        refine (tof_under f (HTW2.out.below HB3.out).of_ hfs ((HTW2.out.below HB3.out).tabs HT.out) (by omega)).mono ?_
        rintro e w4 ⟨v4, ids, rfl, hr4, hp4, hm4, hb4⟩
        have HIL := rise_len hp4 fun z hz => (hm4 z).1 hz
        have hz4 := hr4.is
        obtain ⟨q4, c4, rfl⟩ : ∃ q c, v4 = .slice q ids.length c := (IS_fl hz4).form
        have HI4 := Lib.hid hz4
        have HM4 := Lib.hid hm4
        have HB4 := Lib.hid (HB3.out.trans (hb4.mono HB3.out.size))
        have HS4 := Lib.hid (HS3.out.below hb4)
        clear hr4 hp4 hm4 hb4 hz4 hc3 hbl3 hce hbl
        go_wp2_with fail
        go_loopw [7, 11] (fun s7 s11 wr => ∃ (k : Nat) (q8 : Option Addr) (c8 : Nat) (wan : List Int), s7 = .slice q8 wan.length c8 ∧ s11 = .int .i64 (k : Nat) ∧ k ≤ ids.length ∧ Hid (IS wr (.slice q8 wan.length c8) wan) ∧ Hid (Want2 l ss n i ids k wan) ∧ Hid (Below w4.heap.size w4 wr)) (fun _ s11 _ => ids.length - (intOf s11).toNat)
        case atStart => exact ⟨0, q7, c7, want, rfl, rfl, Nat.zero_le _, HS4.out, ⟨hW.out.1, fun z => (hW.out.2 z).trans (by simp)⟩, Below.refl _ _⟩
        case round =>
          obtain ⟨k, q8, c8, wan, rfl, rfl, hk, hS8, hW8, hB8⟩ := hrel
          by_cases hkl : k < ids.length
          · obtain ⟨x, hx⟩ : ∃ x, ids[k]? = some x := ⟨_, List.getElem?_eq_getElem hkl⟩
            obtain ⟨b9, o9, rfl, hc9⟩ := IS_cell HI4.out hx
            have hce := (hB8.out.cell (World.block_lt_of_cell? w4 _ hc9)).trans hc9
            have hbl : b9 < wr.heap.size := World.block_lt_of_cell? wr _ hce
            have hkI : (k : Int) < (ids.length : Int) := by omega
            have hk0 : (0 : Int) ≤ (k : Int) := by omega
            have HW9 := Lib.hid (hW8.out.put hx)
            have hwl := hW8.out.len HM4.out
            clear hx hc9
            go_wp2_with fail
            refine (refPut_any wr _ wan x hS8.out hW8.out.1 (by omega)).mono ?_
            rintro e wp ⟨⟨vp, rfl, hp⟩, hbp⟩
            obtain ⟨qp, cp, rfl⟩ : ∃ qp cp, vp = .slice qp (putL (fun a b : Int => a < b) wan x).length cp := (IS_fl hp).form
            have HBP := Lib.hid (hB8.out.trans (hbp.mono hB8.out.size))
            have HP := Lib.hid hp
            clear hbp hp
            generalize putL (fun a b : Int => a < b) wan x = idp at *
            go_wp2_with fail
            go_roundw
            case rel => exact ⟨k + 1, qp, cp, idp, rfl, by go_num, by omega, HP.out, HW9.out, HBP.out⟩
            case measure => simp [intOf]; omega
          · have hkI : ¬ ((k : Int) < (ids.length : Int)) := by omega
            have hke : k = ids.length := by omega
            have HW9 : Hid (Want_ l ss n (i + 1) wan) := by
              have h1 := hW8.out
              rw [hke] at h1
              exact h1.done HF.out HM.out HM4.out
            have HB9 := Lib.hid (HB4.out.trans (hB8.out.mono HB4.out.size))
            go_wp2_with fail
            go_roundw
            case rel => exact ⟨i + 1, q8, c8, wan, rfl, by go_num, by omega, hS8.out, HW9.out, HB9.out⟩
            case measure => simp [intOf]; omega
    · have hltI : ¬ ((i : Int) < (ss.length : Int)) := by omega
      have hie : i = ss.length := by omega
      have HWE : Hid (∀ z, z ∈ want ↔ ∃ f, (f, z) ∈ l ∧ matchB f n = true) := fun z => by
        rw [hW.out.2, hie, List.take_length]
        exact exists_congr fun f => ⟨fun h => ⟨h.2.2, h.2.1⟩, fun h => ⟨(HMS.out f).2 ⟨z, h.1⟩, h.2, h.1⟩⟩
      go_wp2_with fail
      refine (st_match (HTW2.out.below hB.out) HT.out n hn (by omega) HKN.out.wf (by omega)).mono ?_
      rintro e w5 ⟨v5, ids5, rfl, hr5, hp5, hm5, hb5⟩
      have HT5 := Lib.hid ((HTW2.out.below hB.out).below hb5)
      have HS5 := Lib.hid (hS.out.below hb5)
      have HI5 := Lib.hid hr5.is
      have HEQ : Hid (ids5 = want) := sorted_ext ord_int hp5 hW.out.1 fun z => (hm5 z).trans (HWE.out z).symm
      clear hr5 hp5 hm5 hb5
      go_wp2_with fail
      refine (same_any w5 _ _ ids5 want HI5.out HS5.out).mono ?_
      rintro e w7 ⟨he7, hb7⟩
      have he7' : e = .returned (.bool true) := by rw [he7, HEQ.out]; simp
      subst he7'
      have HT7 := Lib.hid (HT5.out.below hb7)
      clear he7 hb7
      go_wp2_with fail
      refine (awake_any w7 (HT7.out.tabs HT.out)).mono ?_
      rintro e w8 ⟨rfl, hb8⟩
      have HT8 := Lib.hid (HT7.out.below hb8)
      clear hb8
      go_wp2_with fail
      rw [← HPP.out]
      exact ⟨rfl, HT8.out.bel⟩
end Go.Proofs.YtflomcbclofbaaaGreatDoor
