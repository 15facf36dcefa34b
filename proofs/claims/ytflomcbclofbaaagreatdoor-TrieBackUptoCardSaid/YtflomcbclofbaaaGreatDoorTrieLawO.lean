/- THE LAW TrieOrders. -/
import Derived.Test.YtflomcbclofbaaaGreatDoorTrieWhole
import Derived.Test.YtflomcbclofbaaaGreatDoorTrieTB
namespace Go.Proofs.YtflomcbclofbaaaGreatDoor
open Go Go.RowKit
attribute [local go_sem ↓] Go.wp_at_zero Go.wp_at_succ

/-- the two tries and the list -/
structure Ord (w w1 W : World) (sz t : Nat) (T : List Nd) (rb : Nat) (vr : Value) (l : Subs) (szu u : Nat) (Tu : List Nd) (lu : Subs) : Prop where
  two : Two w W sz t T rb vr l l
  su : St w1 W szu u Tu lu
theorem Ord.below {w w1 W W' : World} {sz t rb szu u : Nat} {T Tu : List Nd} {vr : Value} {l lu : Subs} (h : Ord w w1 W sz t T rb vr l szu u Tu lu) (hb : Below W.heap.size W W') : Ord w w1 W' sz t T rb vr l szu u Tu lu := ⟨h.two.below hb, h.su.below hb⟩
theorem totalS_drop {l : Subs} {j : Nat} {x : ByteArray × Int} (hx : l[j]? = some x) : totalS (l.drop j) = x.1.size + 1 + totalS (l.drop (j + 1)) := by
  obtain ⟨hj, rfl⟩ := List.getElem?_eq_some_iff.1 hx
  rw [List.drop_eq_getElem_cons hj]
  unfold totalS
  rw [List.map_cons, List.sum_cons]
theorem totalS_drop_le (l : Subs) (j : Nat) : totalS (l.drop j) ≤ totalS l := by
  conv => rhs; rw [← List.take_append_drop j l]
  unfold totalS
  rw [List.map_append, List.sum_append]
  omega
theorem drop_fresh {l : Subs} {j : Nat} {x : ByteArray × Int} (hx : l[j]? = some x) (hn : l.Nodup) : x ∉ (l.drop (j + 1)).reverse ∧ (l.drop j).reverse = (l.drop (j + 1)).reverse ++ [x] := by
  obtain ⟨hj, rfl⟩ := List.getElem?_eq_some_iff.1 hx
  have e := List.drop_eq_getElem_cons hj
  have h2 : (l.drop j).Nodup := hn.sublist (List.drop_sublist _ _)
  rw [e, List.nodup_cons] at h2
  exact ⟨fun h => h2.1 (List.mem_reverse.1 h), by rw [e, List.reverse_cons]⟩
set_option maxRecDepth 100000 in
set_option maxHeartbeats 8000000 in
theorem trieOrders_any (w : World) (hT : Tabs w) (v vn : Value) (L : Acts) (ns : List ByteArray) (h : Script w v L) (hn : Names w vn ns) :
    Calls Tryz.prog 3 #[v, vn] w fun e w' => e = .returned (.bool true) ∧ Below w.heap.size w w' := by
  obtain ⟨PP, hPP⟩ : ∃ PP : Ending → World → Prop, (fun e w' => e = .returned (.bool true) ∧ Below w.heap.size w w') = PP := ⟨_, rfl⟩
  rw [hPP]
  have HPP := Lib.hid hPP
  have HT := Lib.hid hT
  have HSC := Lib.hid h
  have HNM := Lib.hid hn
  have hnl := hn.len
  have HBU := Lib.hid (h.built hT)
  obtain ⟨qn, cn, rfl⟩ : ∃ q c, vn = .slice q ns.length c := (Sl_fl hn.sl).form
  clear hPP h hn hT
  go_enter Tryz.func3, Tryz.ntmps3
  go_wp2_with (go_at_call 7; refine HBU.out.mono ?_; rintro e w1 ⟨t, T, rb, vr, sz, rfl, hsz, htw⟩; have hkn := HSC.out.known htw)
  have HKN := Lib.hid hkn
  have HSZ := Lib.hid (Nat.le_trans hsz HSC.out.sz)
  obtain ⟨l, hl⟩ : ∃ l, runA L = l := ⟨_, rfl⟩
  rw [hl] at htw HKN
  obtain ⟨q, c, rfl⟩ := htw.rl.form
  have HTW := Lib.hid htw
  clear htw hkn hl hsz
  go_wp2_with fail
  refine (st_new w1).mono ?_
  rintro e w2 ⟨u, Tu, rfl, hu⟩
  have HOR := Lib.hid (show Ord w w1 w2 sz t T rb (.slice q l.length c) l 0 u Tu [] from ⟨HTW.out.below hu.bel, hu⟩)
  have hll := HKN.out.len
  have htl := HKN.out.tot
  have HTD : Hid (∀ j, totalS (l.drop j) ≤ 4000000) := fun j => Nat.le_trans (totalS_drop_le l j) htl
  have c2 := HOR.out.two.rl.cell0
  have b2 : rb < w2.heap.size := World.block_lt_of_cell? w2 _ c2
  have HT1 := Lib.hid (HTW.out.st.tabs HT.out)
  have HO0 := Lib.hid hu
  clear hu
  go_wp2_with fail
  go_loopw [8] (fun s8 wr => ∃ (k szu : Nat) (Tu : List Nd), s8 = .int .i64 ((k : Int) - 1) ∧ k ≤ l.length ∧ Hid (szu ≤ 2 * totalS (l.drop k)) ∧ Hid (St w1 wr szu u Tu (l.drop k).reverse)) (fun s8 _ => (intOf s8 + 1).toNat)
  case atStart => exact ⟨l.length, 0, Tu, rfl, Nat.le_refl _, Nat.zero_le _, by rw [List.drop_length]; exact HO0.out⟩
  case round =>
    obtain ⟨k, szu, Tu, rfl, hk, HZ, HSU⟩ := hrel
    have HO : Hid (Ord w w1 wr sz t T rb (.slice q l.length c) l szu u Tu (l.drop k).reverse) := ⟨HTW.out.below HSU.out.bel, HSU.out⟩
    have c3 := HO.out.two.rl.cell0
    have b3 : rb < wr.heap.size := World.block_lt_of_cell? wr _ c3
    by_cases hk0 : 0 < k
    · obtain ⟨j, rfl⟩ : ∃ j, k = j + 1 := ⟨k - 1, by omega⟩
      obtain ⟨x, hx⟩ : ∃ x, l[j]? = some x := ⟨_, List.getElem?_eq_getElem (by omega)⟩
      obtain ⟨g, rfl, e1, e2⟩ := HO.out.two.rl.at_ hx
      have hgl : g < wr.heap.size := World.block_lt_of_cell? wr _ e1
      have hj0 : (0 : Int) ≤ (j : Int) := by omega
      have hjl : (j : Int) < (l.length : Int) := by omega
      have hf := drop_fresh hx HKN.out.nd
      have HFR := Lib.hid hf.1
      have HRV := Lib.hid hf.2
      have HFB := Lib.hid (HKN.out.ok x (List.mem_of_getElem? hx))
      have hxs := filter_size HFB.out
      have hdl : (l.drop (j + 1)).reverse.length ≤ 100000000 := by rw [List.length_reverse, List.length_drop]; omega
      have HTJ := Lib.hid (totalS_drop hx)
      have hz2 : szu ≤ 8000000 := by have h1 := HZ.out; have h2 := HTD.out (j + 1); omega
      have ej : (((j + 1 : Nat) : Int) - 1) = (j : Int) := by omega
      rw [ej]
      clear hx hf ej
      go_wp2_with fail
      go_still_tail 17, (by kernel_rfl)
      change wpList _ _ _ _ _ wr.drew
      have hd1 : Below wr.heap.size wr wr.drew := (Below.refl _ _).drew
      have HO2 := Lib.hid (HO.out.below hd1)
      generalize wr.drew = W1 at *
      clear hd1 e1 e2 c3 b3 hgl
      go_wp2_with fail
      refine (st_add HO2.out.su HT1.out x.1 x.2 (by omega) (by omega) hdl).mono ?_
      rintro e W2 ⟨ok, Tu2, rfl, hok, hsu⟩
      have hoT : ok = true := hok.2 ⟨HFB.out, HFR.out⟩
      subst hoT
      rw [addS_pos HFB.out HFR.out] at hsu
      have HSU2 := Lib.hid (show St w1 W2 (szu + x.1.size + 2) u Tu2 (l.drop j).reverse by rw [HRV.out]; exact hsu)
      clear hok hsu
      go_wp2_with fail
      go_roundw
      case rel =>
        refine ⟨j, szu + x.1.size + 2, Tu2, rfl, by omega, ?_, HSU2.out⟩
        have h1 := HZ.out
        have h2 := HTJ.out
        show szu + x.1.size + 2 ≤ 2 * totalS (l.drop j)
        omega
      case measure => simp [intOf]
    · obtain rfl : k = 0 := by omega
      have HOK := HO
      rw [List.drop_zero] at HOK
      rw [show (((0 : Nat) : Int) - 1) = -1 from rfl]
      go_wp2_with fail
      have hz2 : szu ≤ 8000000 := by have h1 := HZ.out; have h2 := HTD.out 0; omega
      clear HSU HZ HO c3 b3
      go_loopw [9] (fun s9 wr => ∃ (i : Nat), s9 = .int .i64 (i : Nat) ∧ i ≤ ns.length ∧ Hid (Ord w w1 wr sz t T rb (.slice q l.length c) l szu u Tu l.reverse)) (fun s9 _ => ns.length - (intOf s9).toNat)
      case atStart => exact ⟨0, rfl, Nat.zero_le _, HOK.out⟩
      case round =>
        obtain ⟨i, rfl, hi, HO⟩ := hrel
        by_cases hlt : i < ns.length
        · obtain ⟨n, hn⟩ : ∃ n, ns[i]? = some n := ⟨_, List.getElem?_eq_getElem hlt⟩
          have hns := HNM.out.each n (List.mem_of_getElem? hn)
          obtain ⟨b, o, rfl, hc0⟩ := Sl_cell HNM.out.sl hn
          have hce := (HO.out.two.st.bel.cell (World.block_lt_of_cell? w _ hc0)).trans hc0
          have hbl : b < wr.heap.size := World.block_lt_of_cell? wr _ hce
          have hltI : (i : Int) < (ns.length : Int) := by omega
          have hi0 : (0 : Int) ≤ (i : Int) := by omega
          have HWF := Lib.hid (show ∀ x ∈ l.reverse, (Lit.int .i64 x.2).wf = true from fun x hx => HKN.out.wf x (List.mem_reverse.1 hx))
          have hrl : l.reverse.length ≤ 100000000 := by rw [List.length_reverse]; omega
          have HK : Hid (∀ W', Below wr.heap.size wr W' → W'.cell? ⟨b, o + i, none⟩ = some (.string n) ∧ Below wr.heap.size wr W') := fun W' hb => ⟨(hb.cell (p := ⟨b, o + i, none⟩) hbl).trans hce, hb⟩
          have hszT := HSZ.out
          clear hn hc0
          have CT : Hid (∀ W', Below wr.heap.size wr W' → Calls Tryz.prog 11 #[.pointer (some ⟨t, 0, none⟩), .string n] W' fun e w' => ∃ v ids, e = .returned v ∧ IS w' v ids ∧ ids.Pairwise (· < ·) ∧ (∀ z, z ∈ ids ↔ ∃ f, (f, z) ∈ l ∧ matchB f n = true) ∧ Below W'.heap.size W' w') := fun W' hb => by
            refine (st_match (HO.out.below hb).two.st HT.out n hns (by omega) HKN.out.wf (by omega)).mono ?_
            rintro e w' ⟨v, ids, rfl, h1, h2⟩
            exact ⟨v, ids, rfl, h1.is, h2⟩
          have CU : Hid (∀ W', Below wr.heap.size wr W' → Calls Tryz.prog 11 #[.pointer (some ⟨u, 0, none⟩), .string n] W' fun e w' => ∃ v ids, e = .returned v ∧ IS w' v ids ∧ ids.Pairwise (· < ·) ∧ (∀ z, z ∈ ids ↔ ∃ f, (f, z) ∈ l ∧ matchB f n = true) ∧ Below W'.heap.size W' w') := fun W' hb => by
            refine (st_match (HO.out.below hb).su HT1.out n hns (by omega) HWF.out hrl).mono ?_
            rintro e w' ⟨v, ids, rfl, h1, h2, h3, h4⟩
            exact ⟨v, ids, rfl, h1.is, h2, fun z => (h3 z).trans (exists_congr fun f => by rw [List.mem_reverse]), h4⟩
          go_wp2_with fail
          go_region_held3 (fun W' => W'.cell? ⟨b, o + i, none⟩ = some (.string n) ∧ Below wr.heap.size wr W') (first | exact HK.out _ (Below.refl _ _) | exact HK.out _ (Below.refl _ _).drew | with_reducible assumption | exact HK.out _ (by with_reducible assumption) | exact HK.out _ (Below.drew (by with_reducible assumption))) (first
            | (go_at_call 11; ((with_reducible refine (CT.out _ (Below.refl _ _).drew).mono ?_); rintro e w5 ⟨v5, ids5, rfl, hs5, hr5, hm5, hb5'⟩; have hb5 : Below wr.heap.size wr w5 := (Below.refl _ _).drew.trans hb5'; clear hb5'; obtain ⟨q5, c5, rfl⟩ := (IS_fl hs5).form))
            | (go_at_call 11; ((with_reducible refine (CU.out _ hb5).mono ?_); rintro e w6 ⟨v6, ids6, rfl, hs6, hr6, hm6, hb6⟩; have hw6 := hb5.trans (hb6.mono hb5.size); have heq : ids5 = ids6 := sorted_ext ord_int hr5 hr6 (fun z => (hm5 z).trans (hm6 z).symm); have HS5 := Lib.hid (hs5.below hb6); have HS6 := Lib.hid hs6; have HEQ := Lib.hid heq; obtain ⟨q6, c6, rfl⟩ := (IS_fl hs6).form; clear hs5 hr5 hm5 hs6 hr6 hm6 hb6 heq))
            | (go_at_call 10; refine (same_any _ _ _ _ _ HS5.out HS6.out).mono ?_; rintro e w7 ⟨he7, hb7⟩; have he7' : e = .returned (.bool true) := (by rw [he7, HEQ.out]; simp); subst he7'; have hw7 := hw6.trans (hb7.mono hw6.size); clear he7 hb7))
          have HO7 := Lib.hid (HO.out.below hw7)
          clear hb5 hw6 hw7
          go_simp
          go_wp2_with fail
          go_roundw
          case rel => exact ⟨i + 1, by go_num, by omega, HO7.out⟩
          case measure => simp [intOf]; omega
        · have hltI : ¬ ((i : Int) < (ns.length : Int)) := by omega
          have hszT := HSZ.out
          have HLR : Hid (∀ x, x ∈ l.reverse ↔ x ∈ l) := fun x => List.mem_reverse
          have htr : totalS l.reverse ≤ 4000000 := by
            have e : totalS l.reverse = totalS l := by unfold totalS; rw [List.map_reverse, List.sum_reverse]
            omega
          have HFZ : Hid (∀ x ∈ l, x.1.size ≤ 900000) := fun x hx => Nat.le_trans (filter_size (HKN.out.ok x hx)) (by omega)
          have hrl : l.reverse.length ≤ 1048576 := by rw [List.length_reverse]; omega
          go_wp2_with fail
          refine (whole_any wr _ _ szu u rb Tu _ l.reverse l HO.out.su.of_ HO.out.two.rl HLR.out HKN.out.nd hrl htr htl (fun x hx => HFZ.out x (List.mem_reverse.1 hx))).mono ?_
          rintro e w5 ⟨rfl, hb5⟩
          have HO5 := Lib.hid (HO.out.below hb5)
          clear hb5
          go_wp2_with fail
          refine (tof_nodes HO5.out.two.st.of_ (by omega) HFZ.out).mono ?_
          rintro e w6 ⟨⟨B, rfl, hB1, hB2⟩, hb6⟩
          rw [count_same (m := l) (fun x => Iff.rfl) hB1 hB2]
          have HO6 := Lib.hid (HO5.out.below hb6)
          clear hb6 hB1 hB2
          go_wp2_with fail
          refine (tof_nodes HO6.out.su.of_ (by omega) (fun x hx => HFZ.out x (List.mem_reverse.1 hx))).mono ?_
          rintro e w7 ⟨⟨B, rfl, hB1, hB2⟩, hb7⟩
          rw [count_same (m := l) HLR.out hB1 hB2]
          have HO7 := Lib.hid (HO6.out.below hb7)
          clear hb7 hB1 hB2
          generalize countL [] (levs l) = nn
          go_wp2_with fail
          refine (tof_filters HO7.out.two.st.of_ (by omega) HFZ.out).mono ?_
          rintro e w8 ⟨⟨v8, s8, rfl, hs8, hn8, hm8, -⟩, hb8⟩
          have HO8 := Lib.hid (HO7.out.below hb8)
          have HS8 := Lib.hid (Sl.of_owns hs8)
          have HR8 := Lib.hid (sortS_rising hn8)
          have HM8 := Lib.hid hm8
          clear hb8 hs8 hn8 hm8
          go_wp2_with fail
          refine (tof_filters HO8.out.su.of_ (by omega) (fun x hx => HFZ.out x (List.mem_reverse.1 hx))).mono ?_
          rintro e w9 ⟨⟨v9, s9, rfl, hs9, hn9, hm9, -⟩, hb9⟩
          have HO9 := Lib.hid (HO8.out.below hb9)
          have HS9 := Lib.hid (Sl.of_owns hs9)
          have HS8b := Lib.hid (HS8.out.below hb9)
          have HEQ : Hid (sortS s8 = sortS s9) := sorted_ext ord_text HR8.out (sortS_rising hn9) fun f => by
            rw [mem_sortS, mem_sortS, HM8.out, hm9]
            exact exists_congr fun z => (HLR.out (f, z)).symm
          clear hb9 hs9 hn9 hm9
          go_wp2_with fail
          refine (sameTexts_any _ true _ _ _ _ HS8b.out HS9.out (Iff.intro (fun _ => HEQ.out) (fun _ => rfl))).mono ?_
          rintro e w10 ⟨rfl, hb10⟩
          have HO10 := Lib.hid (HO9.out.below hb10)
          clear hb10
          go_wp2_with fail
          refine (awake_any w10 (HO10.out.two.st.tabs HT.out)).mono ?_
          rintro e w11 ⟨rfl, hb11⟩
          have HO11 := Lib.hid (HO10.out.below hb11)
          clear hb11
          go_wp2_with fail
          rw [← HPP.out]
          exact ⟨rfl, HO11.out.two.st.bel⟩
end Go.Proofs.YtflomcbclofbaaaGreatDoor
