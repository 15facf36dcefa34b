/- TRIE: whole: all answers that ask for no text. -/
import Derived.Deep.RegionHeld3
import Derived.Test.YtflomcbclofbaaaGreatDoorTrieTB
import Derived.Test.YtflomcbclofbaaaGreatDoorTrieRl
import Derived.Test.YtflomcbclofbaaaGreatDoorTrieSameT
namespace Go.Proofs.YtflomcbclofbaaaGreatDoor
open Go Go.RowKit
attribute [local go_sem ↓] Go.wp_at_zero Go.wp_at_succ

theorem count_same {l m : Subs} (h : ∀ x, x ∈ l ↔ x ∈ m) {B : List (List ByteArray)} (hB : B.Nodup) (hb : ∀ p, p ∈ B ↔ p ∈ begs l) : B.length = countL [] (levs m) := by
  obtain ⟨B', h1, h2, h3⟩ := count_begs (levs m) [] [] List.nodup_nil (fun p => by unfold begsL; simp)
  have e : ∀ p, p ∈ B ↔ p ∈ B' := fun p => by
    rw [hb, h2, mem_begs]
    unfold begsL levs
    rw [List.nil_append]
    refine and_congr_right fun _ => ⟨?_, ?_⟩
    · rintro ⟨x, hx, r, hr⟩; exact ⟨levels x.1, List.mem_map.2 ⟨x, (h x).1 hx, rfl⟩, r, hr⟩
    · rintro ⟨b, hb, r, hr⟩
      obtain ⟨x, hx, rfl⟩ := List.mem_map.1 hb
      exact ⟨x, (h x).2 hx, r, hr⟩
  have k1 := nodup_le hB fun p hp => (e p).1 hp
  have k2 := nodup_le h1 fun p hp => (e p).2 hp
  rw [List.length_nil, Nat.zero_add] at h3
  omega
theorem len_same {l m : Subs} (h : ∀ x, x ∈ l ↔ x ∈ m) (h1 : l.Nodup) (h2 : m.Nodup) : l.length = m.length := by
  have k1 := nodup_le h1 fun p hp => (h p).1 hp
  have k2 := nodup_le h2 fun p hp => (h p).2 hp
  omega
set_option maxRecDepth 100000 in
set_option maxHeartbeats 8000000 in
theorem whole_any (W : World) (base base2 sz t rb : Nat) (T : List Nd) (v : Value) (l m : Subs) (h : TOf W base sz t T l) (hr : RL W base2 rb v m) (hs : ∀ x, x ∈ l ↔ x ∈ m) (hm : m.Nodup) (hl : l.length ≤ 1048576) (ht : totalS l ≤ 4000000) (ht2 : totalS m ≤ 4000000) (hz : ∀ x ∈ l, x.1.size ≤ 900000) :
    Calls Tryz.prog 12 #[.pointer (some ⟨t, 0, none⟩), .pointer (some ⟨rb, 0, none⟩)] W fun e w' => e = .returned (.bool true) ∧ Below W.heap.size W w' := by
  obtain ⟨PP, hPP⟩ : ∃ PP : Ending → World → Prop, (fun e w' => e = .returned (.bool true) ∧ Below W.heap.size W w') = PP := ⟨_, rfl⟩
  rw [hPP]
  have HPP := Lib.hid hPP
  have hlen := len_same hs h.nd hm
  have CF : Hid (∀ W', Below W.heap.size W W' → Calls Tryz.prog 15 #[.pointer (some ⟨t, 0, none⟩)] W' fun e w' => (∃ v1 ss, e = .returned v1 ∧ Sl w' v1 ss ∧ ss.Pairwise ltB ∧ ∀ f, f ∈ ss ↔ ∃ z, (f, z) ∈ l) ∧ Below W'.heap.size W' w') := fun W' hb => by
    refine (tof_filters (h.below hb) (by omega) hz).mono ?_
    rintro e w' ⟨⟨v1, ss, rfl, h1, h2, h3, -⟩, h5⟩
    exact ⟨⟨v1, _, rfl, Sl.of_owns h1, sortS_rising h2, fun f => mem_sortS.trans (h3 f)⟩, h5⟩
  have CR : Hid (∀ W', Below W.heap.size W W' → Calls Tryz.prog 32 #[.pointer (some ⟨rb, 0, none⟩)] W' fun e w' => (∃ v' ids, e = .returned v' ∧ Sl w' v' ids ∧ ids.Pairwise ltB ∧ ids.length ≤ m.length ∧ ∀ z, z ∈ ids ↔ ∃ y, (z, y) ∈ m) ∧ Below W'.heap.size W' w') := fun W' hb => refListFilters_any W' base2 rb v m (hr.below hb) (by omega)
  have CL : Hid (∀ W', Below W.heap.size W W' → Calls Tryz.prog 33 #[.pointer (some ⟨t, 0, none⟩)] W' fun e w' => e = .returned (.int .i64 (m.length : Nat)) ∧ w' = W') := fun W' hb => by rw [← hlen]; exact tof_len (h.below hb)
  have CN : Hid (∀ W', Below W.heap.size W W' → Calls Tryz.prog 13 #[.pointer (some ⟨t, 0, none⟩)] W' fun e w' => e = .returned (.int .i64 (countL [] (levs m) : Nat)) ∧ Below W'.heap.size W' w') := fun W' hb => by
    refine (tof_nodes (h.below hb) (by omega) hz).mono ?_
    rintro e w' ⟨⟨B, rfl, h1, h2⟩, h3⟩
    exact ⟨by rw [count_same hs h1 h2], h3⟩
  have CM : Hid (∀ W', Below W.heap.size W W' → Calls Tryz.prog 34 #[.pointer (some ⟨rb, 0, none⟩)] W' fun e w' => e = .returned (.int .i64 (countL [] (levs m) : Nat)) ∧ Below W'.heap.size W' w') := fun W' hb => refNodes_any W' base2 rb v m (hr.below hb) (by omega) (fun x hx => by have := hz x ((hs x).2 hx); omega) (by omega)
  obtain ⟨q, c, rfl⟩ := hr.form
  have c0 := hr.cell0
  have hb0 := World.block_lt_of_cell? W _ c0
  have HS := Lib.hid hs
  have HK : Hid (∀ W', Below W.heap.size W W' → W'.cell? ⟨rb, 0, none⟩ = some (.slice q m.length c) ∧ Below W.heap.size W W') := fun W' hb => ⟨(hb.cell (p := ⟨rb, 0, none⟩) hb0).trans c0, hb⟩
  generalize countL [] (levs m) = nn at CN CM
  clear hPP h hr hs hm hl ht ht2 hz hlen
  go_enter Tryz.func12, Tryz.ntmps12
  go_wp2_with fail
  go_region_held3 (fun W' => W'.cell? ⟨rb, 0, none⟩ = some (.slice q m.length c) ∧ Below W.heap.size W W') (first | exact HK.out _ (Below.refl _ _) | exact HK.out _ (Below.refl _ _).drew | with_reducible assumption | exact HK.out _ (by with_reducible assumption) | exact HK.out _ (Below.drew (by with_reducible assumption))) (first
    | (go_at_call 15; refine (CF.out _ (Below.refl _ _).drew).mono ?_; rintro e w1 ⟨⟨v1, ss, rfl, hs1, hr1, hm1⟩, hb1'⟩; have hb1 : Below W.heap.size W w1 := (Below.refl _ _).drew.trans hb1')
    | (go_at_call 32; refine (CR.out _ hb1).mono ?_; rintro e w2 ⟨⟨v2, ids, rfl, hs2, hr2, -, hm2⟩, hb2⟩; have hw2 := hb1.trans (hb2.mono hb1.size); have heq : ss = ids := sorted_ext ord_text hr1 hr2 (fun f => (hm1 f).trans (((exists_congr fun z => HS.out (f, z))).trans (hm2 f).symm)); have HEQ := Lib.hid heq; have HS1 := Lib.hid (hs1.below hb2); have HS2 := Lib.hid hs2; clear hs1 hs2 hr1 hr2 hm1 hm2 heq hb2)
    | (go_at_call 14; refine (sameTexts_any _ true _ _ ss ids HS1.out HS2.out (Iff.intro (fun _ => HEQ.out) (fun _ => rfl))).mono ?_; rintro e w3 ⟨rfl, hb3⟩; have hw3 := hw2.trans (hb3.mono hw2.size); clear hb3)
    | (go_at_call 33; refine (CL.out _ hw3).mono ?_; rintro e w4 ⟨rfl, hw4⟩; subst hw4)
    | (go_at_call 13; refine (CN.out _ hw3).mono ?_; rintro e w5 ⟨rfl, hb5⟩; have hw5 := hw3.trans (hb5.mono hw3.size); clear hb5)
    | (go_at_call 34; refine (CM.out _ hw5).mono ?_; rintro e w6 ⟨rfl, hb6⟩; have hw6 := hw5.trans (hb6.mono hw5.size); clear hb6))
  have HW6 := Lib.hid hw6
  clear hw2 hw3 hw5 hw6
  go_simp
  go_wp2_with fail
  rw [← HPP.out]
  exact ⟨rfl, HW6.out⟩
end Go.Proofs.YtflomcbclofbaaaGreatDoor
