/- SHARE: the reference's list: Put and Match, the row told as the call's own. SHARE: the reference's Send: the keys that match, and whose turn it is. SHARE: the reference's hub: Send. -/
import Derived.Deep.QuietTactic
import Derived.BigQuiet
import Derived.WalkLawsBesides
import Derived.Sort.Walk0
import Derived.Test.YtincmegllckcjaaGreatDoorMTrieRlMatch
import Derived.Test.YtincmegllckcjaaGreatDoorShareRefA
import Derived.Test.YtincmegllckcjaaGreatDoorMTopicMatch
import Derived.Test.YtincmegllckcjaaGreatDoorMShareSame
import Derived.Test.YtincmegllckcjaaGreatDoorMFlat
import Derived.Test.YtincmegllckcjaaGreatDoorShareRefB
namespace Go.Proofs.YtincmegllckcjaaGreatDoor
section
open Go Go.RowKit
attribute [local go_sem ↓] Go.wp_at_zero Go.wp_at_succ

theorem irow_below {w w' : World} {base : Nat} {v : Value} {l : List Int} (h : IRow w base v l) (hb : Below w.heap.size w w') : IRow w' base v l := row_of_heap h fun b hv => hb.block b (h.lt b hv).2
set_option maxRecDepth 100000 in
set_option maxHeartbeats 8000000 in
theorem refPutO_any (w : World) (base : Nat) (v : Value) (l : List Int) (x : Int) (hO : IRow w base v l) (hbase : base ≤ w.heap.size) (hs : l.Pairwise (fun a b : Int => a < b)) (hl : l.length ≤ 100000000) :
    Calls Tryz.prog 121 #[v, (Value.int .i64) x] w fun e w' => (∃ v', e = .returned v' ∧ IRow w' base v' (putL (fun a b : Int => a < b) l x)) ∧ Below w.heap.size w w' := by
  obtain ⟨PP, hPP⟩ : ∃ PP : Ending → World → Prop, (fun e w' => (∃ v', e = .returned v' ∧ IRow w' base v' (putL (fun a b : Int => a < b) l x)) ∧ Below w.heap.size w w') = PP := ⟨_, rfl⟩
  rw [hPP]
  have HPP := Lib.hid hPP
  have h := hO.is
  have HIS := Lib.hid h
  have HIR := Lib.hid hO
  clear hO
  obtain ⟨p, cap, rfl, ha1, ha2, -⟩ := h
  obtain ⟨i0, hi, hz0, hz1, hz2⟩ := info_parts info_int
  have HS := Lib.hid hs
  have hcl := cntL_le (lt := (fun a b : Int => a < b)) l x
  have HPT : Hid (x ∈ l → putL (fun a b : Int => a < b) l x = l) := fun h => if_pos h
  have HPF : Hid (x ∉ l → putL (fun a b : Int => a < b) l x = l.take (cntL (fun a b : Int => a < b) l x) ++ x :: l.drop (cntL (fun a b : Int => a < b) l x)) := fun h => if_neg h
  have HG := Lib.hid (cntL_get ord_int (x := x) hs)
  have HB : Hid (∀ {j : Nat} {y : Int}, l[j]? = some y → (y < x ↔ j < cntL (fun a b : Int => a < b) l x)) := Lib.hid (cntL_before ord_int hs)
  obtain ⟨c, hc⟩ : ∃ c, cntL (fun a b : Int => a < b) l x = c := ⟨_, rfl⟩
  rw [hc] at hcl HPF HG HB
  clear hPP hs hc
  go_enter Tryz.func121, Tryz.ntmps121
  go_wp2_with fail
  go_loop [5] (fun s5 => ∃ k : Nat, s5 = .int .i64 (k : Nat) ∧ k ≤ c) (fun s5 => c - (intOf s5).toNat)
  case atStart => exact ⟨0, rfl, Nat.zero_le _⟩
  case round =>
    obtain ⟨k, rfl, hk⟩ := hrel
    have hk0 : (0 : Int) ≤ (k : Int) := by omega
    by_cases hkc : k < c
    · obtain ⟨y, hy⟩ : ∃ y, l[k]? = some y := ⟨_, List.getElem?_eq_getElem (by omega)⟩
      obtain ⟨b, o, rfl, k1⟩ := IS_cell HIS.out hy
      have g1 : b < w.heap.size := World.block_lt_of_cell? w _ k1
      have hltI : (k : Int) < (l.length : Int) := by omega
      have hltD : decide (k < l.length) = true := decide_eq_true (by omega)
      have hyx := (HB.out hy).2 hkc
      clear hy
      go_wp2_with fail
      go_round
      case rel => exact ⟨k + 1, by go_num, by omega⟩
      case measure => simp [intOf]; omega
    · obtain rfl : k = c := by omega
      by_cases hkl : k < l.length
      · obtain ⟨y, hy⟩ : ∃ y, l[k]? = some y := ⟨_, List.getElem?_eq_getElem (by omega)⟩
        obtain ⟨b, o, rfl, k1⟩ := IS_cell HIS.out hy
        have g1 : b < w.heap.size := World.block_lt_of_cell? w _ k1
        have hltI : (k : Int) < (l.length : Int) := by omega
        have hltD : decide (k < l.length) = true := decide_eq_true (by omega)
        have hyx : ¬ (y < x) := fun e => hkc ((HB.out hy).1 e)
        have hyx' : x ≤ y := by omega
        by_cases hyeq : y = x
        · have HM : Hid (x ∈ l) := HG.out.2 (by rw [hy, hyeq])
          have t2 : (y == x) = true := by simp [hyeq]
          clear hy hyeq
          go_wp2_with fail
          rw [← HPP.out]
          refine ⟨⟨_, rfl, ?_⟩, Below.refl _ _⟩
          rw [HPT.out HM.out]; exact HIR.out
        · have HM : Hid (x ∉ l) := fun hm => hyeq (by have h1 := HG.out.1 hm; rw [hy] at h1; injection h1)
          have t2 : (y == x) = false := by simp [hyeq]
          clear hy hyeq
          obtain ⟨q1, cq1, hrun1, hf1⟩ := (IS_fl HIS.out).cut (P := Tryz.prog) 26 3 i0 Tryz.underlying26 hi (i := k) hcl
          obtain ⟨q2, cq2, hrun2, hf2⟩ := (IS_fl HIS.out).rest (P := Tryz.prog) 26 3 i0 Tryz.underlying26 hi hz1 (i := k) hcl
          rw [Nat.mul_one, ← List.map_take] at hf1
          rw [Nat.mul_one, ← List.map_drop] at hf2
          have HF1 := Lib.hid hf1
          have HF2 := Lib.hid hf2
          clear hf1 hf2
          go_wp2_with (first
            | (at_builtin; refine wpList_append_fl _ rfl (.tmp 34) (.tmp 37) 26 3 rfl w.heap.size 1 8 i0 (.int .i64 0) Tryz.underlying26 hi hz0 hz1 hz2 rfl (by decide) _ 0 [] rfl (World.ownsRow_nil _ _ _ _) _ rfl k _ HF1.out (by intro u hu; obtain ⟨y, -, rfl⟩ := List.mem_map.1 hu; rfl) (by unfold maxLen; omega) (by omega) (Nat.le_refl _) ?_; intro v3 w3 hown3 hg3 hloc3; rw [Nat.zero_add, List.nil_append] at hown3; have HB3 := Lib.hid ((Below.refl w.heap.size w).grown hg3 (Nat.le_refl _) (fun k hk => by cases hk)); have hs3 := HB3.out.size; have HO3 := Lib.hid hown3; clear hg3 hown3 hloc3)
            | (at_builtin; refine wpList_append_own _ rfl (.tmp 39) (.tmp 41) 26 rfl w.heap.size 3 i0 (.int .i64 0) 1 8 Tryz.underlying26 hi hz0 hz1 hz2 rfl (by decide) _ _ _ rfl (HO3.out.alloc _) ⟨w3.heap.size, 0, none⟩ 1 1 [(Value.int .i64) x] rfl rfl (cell_one_new _ _ _) (by intro u hu; simp at hu; subst hu; rfl) (by unfold maxLen; omega) (by omega) (by simp; omega) ?_; intro v4 w4 hown4 hg4 hnil4; have HB4 := Lib.hid ((HB3.out.alloc hs3 _).grown hg4 (by simp; omega) (fun k hk => (HO3.out.lt k hk).1)); have hs4 := HB4.out.size; have HO4 := Lib.hid hown4; clear hg4 hown4 hnil4)
            | (at_builtin; refine wpList_append_fl _ rfl (.tmp 43) (.tmp 46) 26 3 rfl w.heap.size 1 8 i0 (.int .i64 0) Tryz.underlying26 hi hz0 hz1 hz2 rfl (by decide) _ _ _ rfl HO4.out _ rfl (l.length - k) _ (HF2.out.below HB4.out) (by intro u hu; obtain ⟨y, -, rfl⟩ := List.mem_map.1 hu; rfl) (by unfold maxLen; omega) (by omega) hs4 ?_; intro v5 w5 hown5 hg5 hloc5; have HB5 := Lib.hid (HB4.out.grown hg5 hs4 (fun k hk => (HO4.out.lt k hk).1)); have HO5 := Lib.hid hown5; clear hg5 hown5 hloc5))
          rw [← HPP.out]
          refine ⟨⟨_, rfl, ?_⟩, HB5.out⟩
          have h5 := ownsRow_mono HO5.out hbase
          rw [List.append_assoc] at h5
          have hlen : (l.take k ++ x :: l.drop k).length = k + 1 + (l.length - k) := by rw [List.length_append, List.length_cons, List.length_take, List.length_drop]; omega
          rw [HPF.out HM.out]
          show World.ownsRow _ _ _ 1 _ (l.take k ++ x :: l.drop k).length _
          rw [hlen]
          show World.ownsRow _ _ _ 1 _ _ (List.map (Value.int .i64) (l.take k ++ x :: l.drop k))
          rw [List.map_append, List.map_cons]
          exact h5
      · have HM : Hid (x ∉ l) := fun hm => hkl (List.getElem?_eq_some_iff.1 (HG.out.1 hm)).1
        have hltI : ¬ ((k : Int) < (l.length : Int)) := by omega
        have hltD : decide (k < l.length) = false := decide_eq_false (by omega)
        obtain ⟨q1, cq1, hrun1, hf1⟩ := (IS_fl HIS.out).cut (P := Tryz.prog) 26 3 i0 Tryz.underlying26 hi (i := k) hcl
        obtain ⟨q2, cq2, hrun2, hf2⟩ := (IS_fl HIS.out).rest (P := Tryz.prog) 26 3 i0 Tryz.underlying26 hi hz1 (i := k) hcl
        rw [Nat.mul_one, ← List.map_take] at hf1
        rw [Nat.mul_one, ← List.map_drop] at hf2
        have HF1 := Lib.hid hf1
        have HF2 := Lib.hid hf2
        clear hf1 hf2
        go_wp2_with (first
          | (at_builtin; refine wpList_append_fl _ rfl (.tmp 34) (.tmp 37) 26 3 rfl w.heap.size 1 8 i0 (.int .i64 0) Tryz.underlying26 hi hz0 hz1 hz2 rfl (by decide) _ 0 [] rfl (World.ownsRow_nil _ _ _ _) _ rfl k _ HF1.out (by intro u hu; obtain ⟨y, -, rfl⟩ := List.mem_map.1 hu; rfl) (by unfold maxLen; omega) (by omega) (Nat.le_refl _) ?_; intro v3 w3 hown3 hg3 hloc3; rw [Nat.zero_add, List.nil_append] at hown3; have HB3 := Lib.hid ((Below.refl w.heap.size w).grown hg3 (Nat.le_refl _) (fun k hk => by cases hk)); have hs3 := HB3.out.size; have HO3 := Lib.hid hown3; clear hg3 hown3 hloc3)
          | (at_builtin; refine wpList_append_own _ rfl (.tmp 39) (.tmp 41) 26 rfl w.heap.size 3 i0 (.int .i64 0) 1 8 Tryz.underlying26 hi hz0 hz1 hz2 rfl (by decide) _ _ _ rfl (HO3.out.alloc _) ⟨w3.heap.size, 0, none⟩ 1 1 [(Value.int .i64) x] rfl rfl (cell_one_new _ _ _) (by intro u hu; simp at hu; subst hu; rfl) (by unfold maxLen; omega) (by omega) (by simp; omega) ?_; intro v4 w4 hown4 hg4 hnil4; have HB4 := Lib.hid ((HB3.out.alloc hs3 _).grown hg4 (by simp; omega) (fun k hk => (HO3.out.lt k hk).1)); have hs4 := HB4.out.size; have HO4 := Lib.hid hown4; clear hg4 hown4 hnil4)
          | (at_builtin; refine wpList_append_fl _ rfl (.tmp 43) (.tmp 46) 26 3 rfl w.heap.size 1 8 i0 (.int .i64 0) Tryz.underlying26 hi hz0 hz1 hz2 rfl (by decide) _ _ _ rfl HO4.out _ rfl (l.length - k) _ (HF2.out.below HB4.out) (by intro u hu; obtain ⟨y, -, rfl⟩ := List.mem_map.1 hu; rfl) (by unfold maxLen; omega) (by omega) hs4 ?_; intro v5 w5 hown5 hg5 hloc5; have HB5 := Lib.hid (HB4.out.grown hg5 hs4 (fun k hk => (HO4.out.lt k hk).1)); have HO5 := Lib.hid hown5; clear hg5 hown5 hloc5))
        rw [← HPP.out]
        refine ⟨⟨_, rfl, ?_⟩, HB5.out⟩
        have h5 := ownsRow_mono HO5.out hbase
        rw [List.append_assoc] at h5
        have hlen : (l.take k ++ x :: l.drop k).length = k + 1 + (l.length - k) := by rw [List.length_append, List.length_cons, List.length_take, List.length_drop]; omega
        rw [HPF.out HM.out]
        show World.ownsRow _ _ _ 1 _ (l.take k ++ x :: l.drop k).length _
        rw [hlen]
        show World.ownsRow _ _ _ 1 _ _ (List.map (Value.int .i64) (l.take k ++ x :: l.drop k))
        rw [List.map_append, List.map_cons]
        exact h5
set_option maxRecDepth 100000 in
set_option maxHeartbeats 8000000 in
theorem refWordO_any (w : World) (base : Nat) (v : Value) (l : List ByteArray) (x : ByteArray) (hO : SRow w base v l) (hbase : base ≤ w.heap.size) (hs : l.Pairwise ltB) (hl : l.length ≤ 100000000) :
    Calls Tryz.prog 83 #[v, Value.string x] w fun e w' => (∃ v', e = .returned v' ∧ SRow w' base v' (putL ltB l x)) ∧ Below w.heap.size w w' := by
  obtain ⟨PP, hPP⟩ : ∃ PP : Ending → World → Prop, (fun e w' => (∃ v', e = .returned v' ∧ SRow w' base v' (putL ltB l x)) ∧ Below w.heap.size w w') = PP := ⟨_, rfl⟩
  rw [hPP]
  have HPP := Lib.hid hPP
  have h := Sl.of_owns hO
  have HIS := Lib.hid h
  have HIR := Lib.hid hO
  clear hO
  obtain ⟨p, cap, rfl, ha1, ha2, -⟩ := h
  obtain ⟨i0, hi, hz0, hz1, hz2⟩ := info_parts info_string
  have HS := Lib.hid hs
  have hcl := cntL_le (lt := ltB) l x
  have HPT : Hid (x ∈ l → putL ltB l x = l) := fun h => if_pos h
  have HPF : Hid (x ∉ l → putL ltB l x = l.take (cntL ltB l x) ++ x :: l.drop (cntL ltB l x)) := fun h => if_neg h
  have HG := Lib.hid (cntL_get ord_text (x := x) hs)
  have HB : Hid (∀ {j : Nat} {y : ByteArray}, l[j]? = some y → (ltB y x ↔ j < cntL ltB l x)) := Lib.hid (cntL_before ord_text hs)
  obtain ⟨c, hc⟩ : ∃ c, cntL ltB l x = c := ⟨_, rfl⟩
  rw [hc] at hcl HPF HG HB
  clear hPP hs hc
  go_enter Tryz.func83, Tryz.ntmps83
  go_wp2_with fail
  go_loop [5] (fun s5 => ∃ k : Nat, s5 = .int .i64 (k : Nat) ∧ k ≤ c) (fun s5 => c - (intOf s5).toNat)
  case atStart => exact ⟨0, rfl, Nat.zero_le _⟩
  case round =>
    obtain ⟨k, rfl, hk⟩ := hrel
    have hk0 : (0 : Int) ≤ (k : Int) := by omega
    by_cases hkc : k < c
    · obtain ⟨y, hy⟩ : ∃ y, l[k]? = some y := ⟨_, List.getElem?_eq_getElem (by omega)⟩
      obtain ⟨b, o, rfl, k1⟩ := Sl_cell HIS.out hy
      have g1 : b < w.heap.size := World.block_lt_of_cell? w _ k1
      have hltI : (k : Int) < (l.length : Int) := by omega
      have hltD : decide (k < l.length) = true := decide_eq_true (by omega)
      have hyx := (HB.out hy).2 hkc
      have t1 : Op.bytesLess y.toList x.toList = true := by rw [bytesLess_eq, ByteArray.toList_eq, ByteArray.toList_eq]; exact decide_eq_true hyx
      clear hy
      go_wp2_with fail
      go_round
      case rel => exact ⟨k + 1, by go_num, by omega⟩
      case measure => simp [intOf]; omega
    · obtain rfl : k = c := by omega
      by_cases hkl : k < l.length
      · obtain ⟨y, hy⟩ : ∃ y, l[k]? = some y := ⟨_, List.getElem?_eq_getElem (by omega)⟩
        obtain ⟨b, o, rfl, k1⟩ := Sl_cell HIS.out hy
        have g1 : b < w.heap.size := World.block_lt_of_cell? w _ k1
        have hltI : (k : Int) < (l.length : Int) := by omega
        have hltD : decide (k < l.length) = true := decide_eq_true (by omega)
        have hyx : ¬ (ltB y x) := fun e => hkc ((HB.out hy).1 e)
        have t1 : Op.bytesLess y.toList x.toList = false := by rw [bytesLess_eq, ByteArray.toList_eq, ByteArray.toList_eq]; exact decide_eq_false hyx
        by_cases hyeq : y = x
        · have HM : Hid (x ∈ l) := HG.out.2 (by rw [hy, hyeq])
          have t2 : (y.toList == x.toList) = true := is_same.2 hyeq
          clear hy hyeq
          go_wp2_with fail
          rw [← HPP.out]
          refine ⟨⟨_, rfl, ?_⟩, Below.refl _ _⟩
          rw [HPT.out HM.out]; exact HIR.out
        · have HM : Hid (x ∉ l) := fun hm => hyeq (by have h1 := HG.out.1 hm; rw [hy] at h1; injection h1)
          have t2 : (y.toList == x.toList) = false := by rw [beq_eq_false_iff_ne]; intro e; rw [ByteArray.toList_eq, ByteArray.toList_eq] at e; exact hyeq (bytes_inj e)
          clear hy hyeq
          obtain ⟨q1, cq1, hrun1, hf1⟩ := (Sl_fl HIS.out).cut (P := Tryz.prog) 55 9 i0 Tryz.underlying55 hi (i := k) hcl
          obtain ⟨q2, cq2, hrun2, hf2⟩ := (Sl_fl HIS.out).rest (P := Tryz.prog) 55 9 i0 Tryz.underlying55 hi hz1 (i := k) hcl
          rw [Nat.mul_one, ← List.map_take] at hf1
          rw [Nat.mul_one, ← List.map_drop] at hf2
          have HF1 := Lib.hid hf1
          have HF2 := Lib.hid hf2
          clear hf1 hf2
          go_wp2_with (first
            | (at_builtin; refine wpList_append_fl _ rfl (.tmp 34) (.tmp 37) 55 9 rfl w.heap.size 1 16 i0 (.string ByteArray.empty) Tryz.underlying55 hi hz0 hz1 hz2 rfl (by decide) _ 0 [] rfl (World.ownsRow_nil _ _ _ _) _ rfl k _ HF1.out (by intro u hu; obtain ⟨y, -, rfl⟩ := List.mem_map.1 hu; rfl) (by unfold maxLen; omega) (by omega) (Nat.le_refl _) ?_; intro v3 w3 hown3 hg3 hloc3; rw [Nat.zero_add, List.nil_append] at hown3; have HB3 := Lib.hid ((Below.refl w.heap.size w).grown hg3 (Nat.le_refl _) (fun k hk => by cases hk)); have hs3 := HB3.out.size; have HO3 := Lib.hid hown3; clear hg3 hown3 hloc3)
            | (at_builtin; refine wpList_append_own _ rfl (.tmp 39) (.tmp 41) 55 rfl w.heap.size 9 i0 (.string ByteArray.empty) 1 16 Tryz.underlying55 hi hz0 hz1 hz2 rfl (by decide) _ _ _ rfl (HO3.out.alloc _) ⟨w3.heap.size, 0, none⟩ 1 1 [Value.string x] rfl rfl (cell_one_new _ _ _) (by intro u hu; simp at hu; subst hu; rfl) (by unfold maxLen; omega) (by omega) (by simp; omega) ?_; intro v4 w4 hown4 hg4 hnil4; have HB4 := Lib.hid ((HB3.out.alloc hs3 _).grown hg4 (by simp; omega) (fun k hk => (HO3.out.lt k hk).1)); have hs4 := HB4.out.size; have HO4 := Lib.hid hown4; clear hg4 hown4 hnil4)
            | (at_builtin; refine wpList_append_fl _ rfl (.tmp 43) (.tmp 46) 55 9 rfl w.heap.size 1 16 i0 (.string ByteArray.empty) Tryz.underlying55 hi hz0 hz1 hz2 rfl (by decide) _ _ _ rfl HO4.out _ rfl (l.length - k) _ (HF2.out.below HB4.out) (by intro u hu; obtain ⟨y, -, rfl⟩ := List.mem_map.1 hu; rfl) (by unfold maxLen; omega) (by omega) hs4 ?_; intro v5 w5 hown5 hg5 hloc5; have HB5 := Lib.hid (HB4.out.grown hg5 hs4 (fun k hk => (HO4.out.lt k hk).1)); have HO5 := Lib.hid hown5; clear hg5 hown5 hloc5))
          rw [← HPP.out]
          refine ⟨⟨_, rfl, ?_⟩, HB5.out⟩
          have h5 := ownsRow_mono HO5.out hbase
          rw [List.append_assoc] at h5
          have hlen : (l.take k ++ x :: l.drop k).length = k + 1 + (l.length - k) := by rw [List.length_append, List.length_cons, List.length_take, List.length_drop]; omega
          rw [HPF.out HM.out]
          show World.ownsRow _ _ _ 1 _ (l.take k ++ x :: l.drop k).length _
          rw [hlen]
          show World.ownsRow _ _ _ 1 _ _ (List.map Value.string (l.take k ++ x :: l.drop k))
          rw [List.map_append, List.map_cons]
          exact h5
      · have HM : Hid (x ∉ l) := fun hm => hkl (List.getElem?_eq_some_iff.1 (HG.out.1 hm)).1
        have hltI : ¬ ((k : Int) < (l.length : Int)) := by omega
        have hltD : decide (k < l.length) = false := decide_eq_false (by omega)
        obtain ⟨q1, cq1, hrun1, hf1⟩ := (Sl_fl HIS.out).cut (P := Tryz.prog) 55 9 i0 Tryz.underlying55 hi (i := k) hcl
        obtain ⟨q2, cq2, hrun2, hf2⟩ := (Sl_fl HIS.out).rest (P := Tryz.prog) 55 9 i0 Tryz.underlying55 hi hz1 (i := k) hcl
        rw [Nat.mul_one, ← List.map_take] at hf1
        rw [Nat.mul_one, ← List.map_drop] at hf2
        have HF1 := Lib.hid hf1
        have HF2 := Lib.hid hf2
        clear hf1 hf2
        go_wp2_with (first
          | (at_builtin; refine wpList_append_fl _ rfl (.tmp 34) (.tmp 37) 55 9 rfl w.heap.size 1 16 i0 (.string ByteArray.empty) Tryz.underlying55 hi hz0 hz1 hz2 rfl (by decide) _ 0 [] rfl (World.ownsRow_nil _ _ _ _) _ rfl k _ HF1.out (by intro u hu; obtain ⟨y, -, rfl⟩ := List.mem_map.1 hu; rfl) (by unfold maxLen; omega) (by omega) (Nat.le_refl _) ?_; intro v3 w3 hown3 hg3 hloc3; rw [Nat.zero_add, List.nil_append] at hown3; have HB3 := Lib.hid ((Below.refl w.heap.size w).grown hg3 (Nat.le_refl _) (fun k hk => by cases hk)); have hs3 := HB3.out.size; have HO3 := Lib.hid hown3; clear hg3 hown3 hloc3)
          | (at_builtin; refine wpList_append_own _ rfl (.tmp 39) (.tmp 41) 55 rfl w.heap.size 9 i0 (.string ByteArray.empty) 1 16 Tryz.underlying55 hi hz0 hz1 hz2 rfl (by decide) _ _ _ rfl (HO3.out.alloc _) ⟨w3.heap.size, 0, none⟩ 1 1 [Value.string x] rfl rfl (cell_one_new _ _ _) (by intro u hu; simp at hu; subst hu; rfl) (by unfold maxLen; omega) (by omega) (by simp; omega) ?_; intro v4 w4 hown4 hg4 hnil4; have HB4 := Lib.hid ((HB3.out.alloc hs3 _).grown hg4 (by simp; omega) (fun k hk => (HO3.out.lt k hk).1)); have hs4 := HB4.out.size; have HO4 := Lib.hid hown4; clear hg4 hown4 hnil4)
          | (at_builtin; refine wpList_append_fl _ rfl (.tmp 43) (.tmp 46) 55 9 rfl w.heap.size 1 16 i0 (.string ByteArray.empty) Tryz.underlying55 hi hz0 hz1 hz2 rfl (by decide) _ _ _ rfl HO4.out _ rfl (l.length - k) _ (HF2.out.below HB4.out) (by intro u hu; obtain ⟨y, -, rfl⟩ := List.mem_map.1 hu; rfl) (by unfold maxLen; omega) (by omega) hs4 ?_; intro v5 w5 hown5 hg5 hloc5; have HB5 := Lib.hid (HB4.out.grown hg5 hs4 (fun k hk => (HO4.out.lt k hk).1)); have HO5 := Lib.hid hown5; clear hg5 hown5 hloc5))
        rw [← HPP.out]
        refine ⟨⟨_, rfl, ?_⟩, HB5.out⟩
        have h5 := ownsRow_mono HO5.out hbase
        rw [List.append_assoc] at h5
        have hlen : (l.take k ++ x :: l.drop k).length = k + 1 + (l.length - k) := by rw [List.length_append, List.length_cons, List.length_take, List.length_drop]; omega
        rw [HPF.out HM.out]
        show World.ownsRow _ _ _ 1 _ (l.take k ++ x :: l.drop k).length _
        rw [hlen]
        show World.ownsRow _ _ _ 1 _ _ (List.map Value.string (l.take k ++ x :: l.drop k))
        rw [List.map_append, List.map_cons]
        exact h5
set_option maxRecDepth 100000 in
set_option maxHeartbeats 8000000 in
theorem refListMatchO_any (w : World) (base rb : Nat) (x1 x2 v : Value) (l : Subs) (f : ByteArray) (h : RL w base rb x1 x2 v l) (hl : l.length ≤ 100000000) (hT : Tabs w) (hfs : f.size ≤ 1048576) (hsz : ∀ x ∈ l, x.1.size ≤ 1048576) :
    Calls Tryz.prog 81 #[.pointer (some ⟨rb, 0, none⟩), .string f] w fun e w' => (∃ v' ids, e = .returned v' ∧ IRow w' w.heap.size v' ids ∧ ids.Pairwise (fun a b : Int => a < b) ∧ ids.length ≤ l.length ∧ ∀ z, z ∈ ids ↔ ∃ f', (f', z) ∈ l ∧ matchB f' f = true) ∧ Below w.heap.size w w' := by
  obtain ⟨PP, hPP⟩ : ∃ PP : Ending → World → Prop, (fun e w' => (∃ v' ids, e = .returned v' ∧ IRow w' w.heap.size v' ids ∧ ids.Pairwise (fun a b : Int => a < b) ∧ ids.length ≤ l.length ∧ ∀ z, z ∈ ids ↔ ∃ f', (f', z) ∈ l ∧ matchB f' f = true) ∧ Below w.heap.size w w') = PP := ⟨_, rfl⟩
  rw [hPP]
  have HPP := Lib.hid hPP
  have HR := Lib.hid h
  obtain ⟨q, c, rfl⟩ := h.form
  have c0 := h.cell0
  have hb := World.block_lt_of_cell? w _ c0
  have HSZ : Hid (∀ {i : Nat} (x : ByteArray × Int), l[i]? = some x → x.1.size ≤ 1048576) := fun x hx => hsz x (List.mem_of_getElem? hx)
  clear hsz
  clear hPP h
  go_enter Tryz.func81, Tryz.ntmps81
  go_wp2_with fail
  go_loopw [5, 6] (fun so si wr => ∃ (i : Nat) (q2 : Option Addr) (c2 : Nat) (ids : List Int), so = .slice q2 ids.length c2 ∧ si = .int .i64 (i : Nat) ∧ i ≤ l.length ∧ Hid (IRow wr w.heap.size (.slice q2 ids.length c2) ids) ∧ Hid (ids.Pairwise (fun a b : Int => a < b)) ∧ Hid (∀ z, z ∈ ids ↔ ∃ f', (f', z) ∈ l.take i ∧ matchB f' f = true) ∧ ids.length ≤ i ∧ Hid (Below w.heap.size w wr)) (fun _ si _ => l.length - (intOf si).toNat)
  case atStart => exact ⟨0, none, 0, [], rfl, rfl, Nat.zero_le _, IRow.nil _ _, List.Pairwise.nil, fun z => by simp, Nat.le_refl _, Below.refl _ _⟩
  case round =>
    obtain ⟨i, q2, c2, ids, rfl, rfl, hi, hS, hW, hM, hL, hB⟩ := hrel
    have k0 := (hB.out.cell (p := ⟨rb, 0, none⟩) hb).trans c0
    have kb : rb < wr.heap.size := World.block_lt_of_cell? wr _ k0
    by_cases hlt : i < l.length
    · obtain ⟨x, hx⟩ : ∃ x, l[i]? = some x := ⟨_, List.getElem?_eq_getElem hlt⟩
      obtain ⟨g, rfl, e1', e2'⟩ := HR.out.at_ hx
      have e1 := (hB.out.cell (World.block_lt_of_cell? w _ e1')).trans e1'
      have e2 := (hB.out.cell (World.block_lt_of_cell? w _ e2')).trans e2'
      have hgl : g < wr.heap.size := World.block_lt_of_cell? wr _ e1
      have hltI : (i : Int) < (l.length : Int) := by omega
      have hi0 : (0 : Int) ≤ (i : Int) := by omega
      have HTM := Lib.hid (take_snoc_mem hx)
      have HX := Lib.hid hx
      clear hx e1' e2'
      cases hm : matchB x.1 f with
      | false =>
        have HNO : Hid (¬ matchB x.1 f = true) := by rw [hm]; exact Bool.false_ne_true
        have CM := refMatch_any valid_said x.1 f wr (HSZ.out _ HX.out) hfs (hT.below hB.out)
        rw [hm] at CM
        have CM' := Lib.hid CM
        clear CM hm
        go_wp2_with (go_at_call 82; refine CM'.out.mono ?_; rintro e w1 ⟨rfl, hb1⟩; have HB1 := Lib.hid (hB.out.trans (hb1.mono hB.out.size)); have HS1 := Lib.hid (irow_below hS.out hb1); clear hb1)
        go_roundw
        case rel =>
          refine ⟨i + 1, q2, c2, ids, rfl, by go_num, by omega, HS1.out, hW.out, fun z => ?_, by omega, HB1.out⟩
          rw [hM.out]
          constructor
          · rintro ⟨f', h1, h2⟩; exact ⟨f', (HTM.out _).2 (.inl h1), h2⟩
          · rintro ⟨f', h1, h2⟩
            rcases (HTM.out _).1 h1 with h1 | h1
            · exact ⟨f', h1, h2⟩
            · exact absurd h2 (by subst h1; exact HNO.out)
        case measure => simp [intOf]; omega
      | true =>
        have HYES : Hid (matchB x.1 f = true) := hm
        have CM := refMatch_any valid_said x.1 f wr (HSZ.out _ HX.out) hfs (hT.below hB.out)
        rw [hm] at CM
        have CM' := Lib.hid CM
        clear CM hm
        go_wp2_with (go_at_call 82; refine CM'.out.mono ?_; rintro e w1 ⟨rfl, hb1⟩; have HB1 := Lib.hid (hB.out.trans (hb1.mono hB.out.size)); have HS1 := Lib.hid (irow_below hS.out hb1); have k1 := (hb1.cell (p := ⟨rb, 0, none⟩) kb).trans k0; have e3 := (hb1.cell (p := ⟨g, i * 2 + 1, none⟩) hgl).trans e2; have kb1 : rb < w1.heap.size := World.block_lt_of_cell? w1 _ k1; have hgl1 : g < w1.heap.size := World.block_lt_of_cell? w1 _ e3; clear hb1)
        have HMEM : Hid (∀ z, z ∈ putL (fun a b : Int => a < b) ids x.2 ↔ ∃ f', (f', z) ∈ l.take (i + 1) ∧ matchB f' f = true) := fun z => by
          rw [putL_mem, hM.out]
          constructor
          · rintro (h1 | ⟨f', h1, h2⟩)
            · subst h1; exact ⟨x.1, (HTM.out _).2 (.inr rfl), HYES.out⟩
            · exact ⟨f', (HTM.out _).2 (.inl h1), h2⟩
          · rintro ⟨f', h1, h2⟩
            rcases (HTM.out _).1 h1 with h1 | h1
            · exact .inr ⟨f', h1, h2⟩
            · exact .inl (by subst h1; rfl)
        have HWP := Lib.hid (putL_sorted ord_int hW.out x.2)
        have hLP := putL_len (lt := fun a b : Int => a < b) ids x.2
        go_wp2_with fail
        refine (refPutO_any w1 w.heap.size _ ids x.2 HS1.out HB1.out.size hW.out (by omega)).mono ?_
        rintro e wp ⟨⟨vp, rfl, hp⟩, hbp⟩
        obtain ⟨qp, cp, rfl⟩ : ∃ qp cp, vp = .slice qp (putL (fun a b : Int => a < b) ids x.2).length cp := (Fl.of_own hp).form
        have HBP := Lib.hid (HB1.out.trans (hbp.mono HB1.out.size))
        have HP := Lib.hid hp
        clear hbp hp
        generalize putL (fun a b : Int => a < b) ids x.2 = idp at *
        go_wp2_with fail
        go_roundw
        case rel => exact ⟨i + 1, qp, cp, idp, rfl, by go_num, by omega, HP.out, HWP.out, HMEM.out, by omega, HBP.out⟩
        case measure => simp [intOf]; omega
    · have hltI : ¬ ((i : Int) < (l.length : Int)) := by omega
      have hge : i = l.length := by omega
      go_wp2_with fail
      rw [← HPP.out]
      refine ⟨⟨_, ids, rfl, hS.out, hW.out, by omega, fun z => ?_⟩, hB.out⟩
      have h1 := hM.out z
      rw [hge, List.take_length] at h1
      exact h1
end
section
open Go Go.RowKit
attribute [local go_sem ↓] Go.wp_at_zero Go.wp_at_succ

theorem filter_size {f : ByteArray} (h : filterB f = true) : f.size ≤ 65535 := by
  unfold filterB plainB at h
  rw [Bool.and_eq_true, Bool.and_eq_true, Bool.and_eq_true, Bool.and_eq_true] at h
  have h2 := of_decide_eq_true h.1.1.1.2
  have e : f.data.toList.length = f.size := Array.length_toList
  omega
theorem match_name {f n : ByteArray} (h : matchB f n = true) : nameB n.data.toList = true := by
  unfold matchB at h
  simp only [Bool.and_eq_true] at h
  exact h.2.1
/-- sendOne turns neither keys nor filters -/
def kf (a : AG) : ByteArray × ByteArray := (a.key, a.fil)
theorem findA_mem {G : List AG} {k : ByteArray} {a : AG} (h : findA G k = some a) : a ∈ G ∧ a.key = k := by
  unfold findA at h
  have h2 := List.find?_some h
  exact ⟨List.mem_of_find?_eq_some h, ByteArray.ext (Array.ext' (of_decide_eq_true h2))⟩
theorem setA_kf {G : List AG} {k : ByteArray} {a a' : AG} (hn : (G.map (·.key)).Nodup) (h : findA G k = some a) (e : kf a' = kf a) : (setA G k a').map kf = G.map kf := by
  obtain ⟨h1, h2⟩ := findA_mem h
  unfold setA
  rw [List.map_map]
  refine List.map_congr_left fun b hb => ?_
  show kf (if b.key.data.toList = k.data.toList then a' else b) = kf b
  split
  · rename_i hk
    have hbk : b.key = k := ByteArray.ext (Array.ext' hk)
    obtain ⟨i, hi, e1⟩ := List.mem_iff_getElem.1 hb
    obtain ⟨j, hj, e2⟩ := List.mem_iff_getElem.1 h1
    have hij := nodup_at hn (List.getElem?_eq_getElem hi) (List.getElem?_eq_getElem hj) (by rw [e1, e2, hbk, h2])
    subst hij
    rw [e, ← e2, ← e1]
  · rfl
theorem kf_key {G G' : List AG} (h : G'.map kf = G.map kf) : G'.map (·.key) = G.map (·.key) := by
  have := congrArg (List.map Prod.fst) h
  rw [List.map_map, List.map_map] at this
  exact this
theorem sendOne_kf {s k : ByteArray} {r : List AG × List Int} (hn : (r.1.map (·.key)).Nodup) : (sendOne s r k).1.map kf = r.1.map kf := by
  unfold sendOne
  cases h : findA r.1 k with
  | none => rfl
  | some a =>
    show (if _ then _ else r).1.map kf = _
    split
    · exact setA_kf hn h rfl
    · rfl
/-- is a key one of a group whose filter has the name? -/
def Hit (G : List AG) (s k : ByteArray) : Prop := ∃ a ∈ G, a.key = k ∧ matchB a.fil s = true
theorem hit_kf {G G' : List AG} (h : G'.map kf = G.map kf) (s k : ByteArray) : Hit G' s k ↔ Hit G s k := by
  have go : ∀ {G G' : List AG}, G'.map kf = G.map kf → Hit G' s k → Hit G s k := fun {G G'} h ⟨a, ha, h1, h2⟩ => by
    have hm : kf a ∈ G.map kf := by rw [← h]; exact List.mem_map.2 ⟨a, ha, rfl⟩
    obtain ⟨b, hb, e⟩ := List.mem_map.1 hm
    injection e with e1 e2
    exact ⟨b, hb, e1.trans h1, by rw [e2]; exact h2⟩
  exact ⟨go h, go h.symm⟩
theorem sendOne_miss {s k : ByteArray} {r : List AG × List Int} (h : ¬ Hit r.1 s k) : sendOne s r k = r := by
  unfold sendOne
  cases hf : findA r.1 k with
  | none => rfl
  | some a =>
    obtain ⟨h1, h2⟩ := findA_mem hf
    exact if_neg fun e => h ⟨a, h1, h2, e⟩
open Classical in
theorem fold_hits {G : List AG} {s : ByteArray} (hn : (G.map (·.key)).Nodup) : ∀ (K : List ByteArray) (r : List AG × List Int), r.1.map kf = G.map kf → (K.filter fun k => decide (Hit G s k)).foldl (sendOne s) r = K.foldl (sendOne s) r
  | [], _, _ => rfl
  | k :: K, r, h => by
    have hnr : (r.1.map (·.key)).Nodup := by rw [kf_key h]; exact hn
    by_cases hk : Hit G s k
    · rw [List.filter_cons_of_pos (by simpa using hk)]
      exact fold_hits hn K _ ((sendOne_kf hnr).trans h)
    · rw [List.filter_cons_of_neg (by simpa using hk)]
      rw [List.foldl_cons, sendOne_miss fun e => hk ((hit_kf h s k).1 e)]
      exact fold_hits hn K r h
theorem fold_keys {G : List AG} {s : ByteArray} {K : List ByteArray} (hn : (G.map (·.key)).Nodup) (hK : K.Pairwise ltB) (hm : ∀ k, k ∈ K ↔ Hit G s k) (o : List Int) : K.foldl (sendOne s) (G, o) = (keysA G).foldl (sendOne s) (G, o) := by
  classical
  have e : K = (keysA G).filter fun k => decide (Hit G s k) := by
    refine sorted_ext ord_text hK ((sortS_rising hn).filter _) fun k => ?_
    rw [List.mem_filter, hm, decide_eq_true_iff]
    unfold keysA
    rw [mem_sortS]
    exact ⟨fun h => ⟨by obtain ⟨a, ha, h1, -⟩ := h; exact List.mem_map.2 ⟨a, ha, h1⟩, h⟩, fun h => h.2⟩
  rw [e, fold_hits hn _ _ rfl]
theorem sendA_fun {st a b : HSt} {s : ByteArray} {i j o p : List Int} (h : SendA st s i o a) (k : SendA st s j p b) : o = p ∧ a = b := by
  have e : i = j := sorted_ext ord_int h.rise k.rise fun z => (h.mem z).trans (k.mem z).symm
  subst e
  have h1 := h.eq.trans k.eq.symm
  injection h1 with h1 h2
  exact ⟨h2, Prod.ext (h.subs.trans k.subs.symm) h1⟩
/-- the reference's second loop -/
structure RSnd (w W : World) (base rb : Nat) (vs vg vm : Value) (l : Subs) (gs : List RG) (ms : List Mg) (KB : Nat → Prop) (s : ByteArray) (K : List ByteArray) (ids0 : List Int) (i : Nat) (gsi : List RG) (v : Value) (out : List Int) (kv : Value) : Prop where
  t : Turned w base rb vs vg vm l gs ms KB vg gsi W
  fold : (gsi.map RG.ag, out) = (K.take i).foldl (sendOne s) (gs.map RG.ag, ids0)
  row : IRow W w.heap.size v out
  keys : SRow W w.heap.size kv K
  rf : ∀ b, RF0 rb vs vg vm gsi b → RF0 rb vs vg vm gs b
  kf_ : (gsi.map RG.ag).map kf = (gs.map RG.ag).map kf
  each : ∀ g ∈ gsi, g.tn < g.ids.length ∧ g.ids.length ≤ 256
  len : out.length ≤ ids0.length + i
section
variable {w W W' : World} {base rb : Nat} {vs vg vm v kv : Value} {l : Subs} {gs gsi : List RG} {ms : List Mg} {KB : Nat → Prop} {s : ByteArray} {K : List ByteArray} {ids0 out : List Int} {i : Nat}
theorem RSnd.below (h : RSnd w W base rb vs vg vm l gs ms KB s K ids0 i gsi v out kv) (hb : Below W.heap.size W W') : RSnd w W' base rb vs vg vm l gs ms KB s K ids0 i gsi v out kv :=
  ⟨h.t.below hb, h.fold, irow_below h.row hb, row_of_heap h.keys fun b hv => hb.block b (h.keys.lt b hv).2, h.rf, h.kf_, h.each, h.len⟩
/-- a number is appended, and the turn goes on -/
theorem RSnd.next {w4 : World} {v2 : Value} {gb n cap j : Nat} {x : RG} (h : RSnd w W base rb vs (.slice (some ⟨gb, 0, none⟩) n cap) vm l gs ms KB s K ids0 i gsi v out kv) (hR : RHub w base rb vs (.slice (some ⟨gb, 0, none⟩) n cap) vm l gs ms KB) (hn : (gs.map (·.key)).Nodup) (hx : gsi[j]? = some x) (hk : K[i]? = some x.key) (hm : matchB x.fil s = true)
    (hg : W.grownBy w4 v.ownBlock) (hrow : IRow w4 w.heap.size v2 (out ++ [x.ids.getD x.tn 0])) : RSnd w (w4.setCell ⟨gb, j * 4 + 3, none⟩ (.int .i64 ((nextI x.ids.length x.tn : Nat) : Int))) base rb vs (.slice (some ⟨gb, 0, none⟩) n cap) vm l gs ms KB s K ids0 (i + 1) (gsi.set j { x with tn := nextI x.ids.length x.tn }) v2 (out ++ [x.ids.getD x.tn 0]) kv := by
  have hxm := List.mem_of_getElem? hx
  have hs := h.t.fr.size
  have hvb : ∀ b, v.ownBlock = some b → w.heap.size ≤ b := fun b hb => (h.row.lt b hb).1
  have hfr : Frame (fun b => v.ownBlock = some b) W w4 := Frame.of_grown hg fun b hb => hb
  have keep : ∀ b, b < W.heap.size → v.ownBlock ≠ some b → w4.heap[b]? = W.heap[b]? := fun b h1 h2 => hfr.block b h1 h2
  have hT4 : Turned w base rb vs (.slice (some ⟨gb, 0, none⟩) n cap) vm l gs ms KB (.slice (some ⟨gb, 0, none⟩) n cap) gsi w4 := by
    refine ⟨h.t.is.kept hfr.size fun b hb => keep b ?_ ?_, ?_, h.t.own⟩
    · exact hb.elim (fun e => (h.t.is.lt e).2) fun e => (h.t.is.kb b e).2.1
    · intro e
      have h1 := hvb b e
      rcases hb with h2 | h2
      · have := (hR.lt (h.rf b h2)).2; omega
      · have := (hR.kb b h2).2.1; omega
    · refine ⟨hfr.os.trans h.t.fr.os, hfr.tape.trans h.t.fr.tape, hfr.output.trans h.t.fr.output, Nat.le_trans hs hfr.size, fun b h1 h2 => ?_⟩
      exact (keep b (by omega) fun e => by have := hvb b e; omega).trans (h.t.fr.block b h1 h2)
  have hgb : gb < w.heap.size := (hR.grp.lt gb rfl).2
  have kS : ∀ b, b ≠ gb → (w4.setCell ⟨gb, j * 4 + 3, none⟩ (.int .i64 ((nextI x.ids.length x.tn : Nat) : Int))).heap[b]? = w4.heap[b]? := fun b hb => Below.heap_setCell w4 ⟨gb, j * 4 + 3, none⟩ _ b hb
  have hag : (gsi.map RG.ag)[j]? = some x.ag := by rw [List.getElem?_map, hx]; rfl
  have hnk : ((gsi.map RG.ag).map (·.key)).Nodup := by rw [kf_key h.kf_, List.map_map]; exact hn
  have hfd : findA (gsi.map RG.ag) x.key = some x.ag := findA_at hnk hag
  have hone : sendOne s (gsi.map RG.ag, out) x.key = ((gsi.set j { x with tn := nextI x.ids.length x.tn }).map RG.ag, out ++ [x.ids.getD x.tn 0]) := by
    unfold sendOne
    rw [show findA (gsi.map RG.ag, out).1 x.key = some x.ag from hfd]
    refine (if_pos hm).trans (Prod.ext ?_ rfl)
    refine (setA_at hnk hag _).trans ?_
    rw [map_set_ag]
    rfl
  refine ⟨hT4.turn hx _, ?_, row_of_heap hrow fun b hb => kS b fun e => ?_, row_of_heap h.keys fun b hb => (kS b fun e => ?_).trans (keep b (h.keys.lt b hb).2 (rows_ne h.keys h.row (by decide) hb)), fun b hb => ?_, ?_, fun g hgg => ?_, ?_⟩
  · rw [fold_snoc hk, ← h.fold, hone]
  · have := (hrow.lt b hb).1; omega
  · have := (h.keys.lt b hb).1; omega
  · rcases hb with e | e | e | e | ⟨g, hgg, e⟩
    · exact .inl e
    · exact .inr (.inl e)
    · exact .inr (.inr (.inl e))
    · exact .inr (.inr (.inr (.inl e)))
    · rcases List.mem_or_eq_of_mem_set hgg with h1 | h1
      · exact h.rf b (.inr (.inr (.inr (.inr ⟨g, h1, e⟩))))
      · subst h1
        exact h.rf b (.inr (.inr (.inr (.inr ⟨x, hxm, e⟩))))
  · have h1 := sendOne_kf (s := s) (k := x.key) (r := (gsi.map RG.ag, out)) hnk
    rw [hone] at h1
    exact h1.trans h.kf_
  · rcases List.mem_or_eq_of_mem_set hgg with h1 | h1
    · exact h.each g h1
    · subst h1
      obtain ⟨h2, h3⟩ := h.each x hxm
      refine ⟨?_, h3⟩
      show nextI x.ids.length x.tn < x.ids.length
      unfold nextI
      split <;> omega
  · rw [List.length_append]
    have := h.len
    simp only [List.length_cons, List.length_nil]
    omega
end
end
section
open Go Go.RowKit
attribute [local go_sem ↓] Go.wp_at_zero Go.wp_at_succ

def RSendPost (w0 w : World) (P : Nat → Prop) (rb : Nat) (st : HSt) (L : List AM) (s : ByteArray) (e : Ending) (w' : World) : Prop := ∃ v ids0 out st', e = .returned v ∧ IRow w' w.heap.size v out ∧ SendA st s ids0 out st' ∧ RefD w0 w P rb st' L w'
theorem take_mem {α : Type} {l : List α} {i : Nat} {x : α} (hx : l[i]? = some x) (y : α) : y ∈ l.take (i + 1) ↔ y ∈ l.take i ∨ y = x := by
  rw [List.take_add_one, hx, Option.toList_some, List.mem_append, List.mem_singleton]
set_option maxRecDepth 100000 in
set_option maxHeartbeats 8000000 in
theorem refSend_any (w0 w : World) (P : Nat → Prop) (rb : Nat) (st : HSt) (L : List AM) (s : ByteArray) (h : RefS w0 w P rb st L) (hGd : GoodSt st) (hB : Below w0.heap.size w0 w) (hT0 : Tabs w0) (hs : s.size ≤ 1048576) (hl : st.1.length ≤ 100000000) (hgl : st.2.length ≤ 100000000) :
    Calls Tryz.prog 49 #[.pointer (some ⟨rb, 0, none⟩), .string s] w (RSendPost w0 w P rb st L s) := by
  obtain ⟨PP, hPP⟩ : ∃ PP : Ending → World → Prop, RSendPost w0 w P rb st L s = PP := ⟨_, rfl⟩
  rw [hPP]
  have HPP := Lib.hid hPP
  have hT := hT0.below hB
  have HT := Lib.hid hT
  have HB0 := Lib.hid hB
  have HGD := Lib.hid hGd
  obtain ⟨vs, vg, vm, gs, ms, KB, h1, h2, h3, h4, h5⟩ := h
  have HR := Lib.hid h1
  have HAG := Lib.hid h2
  have HAM := Lib.hid h3
  have HOW := Lib.hid h4
  have HPB := Lib.hid h5
  have hgl2 : gs.length ≤ 100000000 := by rw [← h2, List.length_map] at hgl; exact hgl
  have HKN : Hid ((gs.map (·.key)).Nodup) := by rw [ag_keys h2]; exact hGd.keys
  have HEA : Hid (∀ g ∈ gs, (g.tn < g.ids.length ∧ g.ids.length ≤ 256) ∧ g.key.size ≤ 1048576 ∧ g.fil.size ≤ 1048576) := fun g hg => by
    have h := hGd.each g.ag (by rw [← h2]; exact List.mem_map.2 ⟨g, hg, rfl⟩)
    obtain ⟨n, hsp, -⟩ := h.2.2.2.2.2
    have h6 : g.fil.size ≤ g.key.size := split_size hsp
    have h7 : g.key.size ≤ 1048576 := h.2.2.2.2.1
    exact ⟨⟨h.2.1, h.2.2.1⟩, h7, by omega⟩
  obtain ⟨qg, cg, rfl⟩ := h1.form
  have hbl := h1.blt
  have CM : Hid (Calls Tryz.prog 81 #[.pointer (some ⟨rb, 0, none⟩), .string s] w fun e w' => (∃ v' ids, e = .returned v' ∧ IRow w' w.heap.size v' ids ∧ ids.Pairwise (fun a b : Int => a < b) ∧ ids.length ≤ st.1.length ∧ ∀ z, z ∈ ids ↔ ∃ f', (f', z) ∈ st.1 ∧ matchB f' s = true) ∧ Below w.heap.size w w') :=
    refListMatchO_any w w0.heap.size rb _ vm vs st.1 s h1.rl hl hT hs (fun x hx => by have := filter_size (hGd.subs x hx); omega)
  clear hPP hT hT0 hGd hB h1 h2 h3 h4 h5
  go_enter Tryz.func49, Tryz.ntmps49
  go_wp2_with fail
  refine CM.out.mono ?_
  rintro e w1 ⟨⟨v1, ids0, rfl, hrow, hrise, hlen0, hmem⟩, hb1⟩
  have HR1 := Lib.hid (HR.out.below hb1)
  have HB1 := Lib.hid hb1
  have HROW := Lib.hid hrow
  have HRISE := Lib.hid hrise
  have HMEM := Lib.hid hmem
  obtain ⟨q1, c1, rfl⟩ := (Fl.of_own hrow).form
  clear hb1 hrow hrise hmem
  go_wp2_with fail
  go_loopw [6, 7] (fun s6 s7 wr => ∃ (i : Nat) (q2 : Option Addr) (c2 : Nat) (K : List ByteArray), s6 = .slice q2 K.length c2 ∧ s7 = .int .i64 (i : Nat) ∧ i ≤ gs.length ∧ Hid (SRow wr w1.heap.size (.slice q2 K.length c2) K) ∧ Hid (K.Pairwise ltB) ∧ Hid (∀ k, k ∈ K ↔ ∃ g ∈ gs.take i, g.key = k ∧ matchB g.fil s = true) ∧ K.length ≤ i ∧ Hid (Below w1.heap.size w1 wr)) (fun _ s7 _ => gs.length - (intOf s7).toNat)
  case atStart => exact ⟨0, none, 0, [], rfl, rfl, Nat.zero_le _, SRow.nil _ _, List.Pairwise.nil, fun k => by simp, Nat.le_refl _, Below.refl _ _⟩
  case round =>
    obtain ⟨i, q2, c2, K, rfl, rfl, hi, hS, hW, hM, hL, hB⟩ := hrel
    have HRr := Lib.hid (HR1.out.below hB.out)
    have k0 := HRr.out.cells.2.1
    have kb := HRr.out.blt
    by_cases hlt : i < gs.length
    · obtain ⟨x, hx⟩ : ∃ x, gs[i]? = some x := ⟨_, List.getElem?_eq_getElem hlt⟩
      obtain ⟨g, rfl, e0, e1, -, -⟩ := HRr.out.at_ hx
      have hgl3 : g < wr.heap.size := World.block_lt_of_cell? wr _ e0
      have hltI : (i : Int) < (gs.length : Int) := by omega
      have hi0 : (0 : Int) ≤ (i : Int) := by omega
      have HTM := Lib.hid (take_mem hx)
      obtain ⟨-, hks, hfs⟩ := HEA.out x (List.mem_of_getElem? hx)
      have HX := Lib.hid hx
      clear hx
      have HTw := Lib.hid (HT.out.below (HB1.out.trans (hB.out.mono HB1.out.size)))
      cases hm : matchB x.fil s with
      | false =>
        have HNO : Hid (¬ matchB x.fil s = true) := by rw [hm]; exact Bool.false_ne_true
        have CM' := refMatch_any valid_said x.fil s wr hfs hs HTw.out
        rw [hm] at CM'
        have CM2 := Lib.hid CM'
        clear CM' hm
        go_wp2_with (go_at_call 82; refine CM2.out.mono ?_; rintro e w2 ⟨rfl, hb2⟩; have HB2 := Lib.hid (hB.out.trans (hb2.mono hB.out.size)); have HS2 : Hid (SRow w2 w1.heap.size (.slice q2 K.length c2) K) := row_of_heap hS.out (fun b hv => hb2.block b (hS.out.lt b hv).2); clear hb2)
        go_roundw
        case rel =>
          refine ⟨i + 1, q2, c2, K, rfl, by go_num, by omega, HS2.out, hW.out, fun k => ?_, by omega, HB2.out⟩
          rw [hM.out]
          constructor
          · rintro ⟨g', h1, h2⟩; exact ⟨g', (HTM.out _).2 (.inl h1), h2⟩
          · rintro ⟨g', h1, h2, h3⟩
            rcases (HTM.out _).1 h1 with h1 | h1
            · exact ⟨g', h1, h2, h3⟩
            · exact absurd h3 (by subst h1; exact HNO.out)
        case measure => simp [intOf]; omega
      | true =>
        have HYES : Hid (matchB x.fil s = true) := hm
        have CM' := refMatch_any valid_said x.fil s wr hfs hs HTw.out
        rw [hm] at CM'
        have CM2 := Lib.hid CM'
        clear CM' hm
        go_wp2_with (go_at_call 82; refine CM2.out.mono ?_; rintro e w2 ⟨rfl, hb2⟩; have HB2 := Lib.hid (hB.out.trans (hb2.mono hB.out.size)); have HS2 : Hid (SRow w2 w1.heap.size (.slice q2 K.length c2) K) := row_of_heap hS.out (fun b hv => hb2.block b (hS.out.lt b hv).2); have k2 := (hb2.cell (p := ⟨rb, 1, none⟩) kb).trans k0; have e2 := (hb2.cell (p := ⟨g, i * 4, none⟩) hgl3).trans e0; have kb2 := Nat.lt_of_lt_of_le kb hb2.size; have gl2 := Nat.lt_of_lt_of_le hgl3 hb2.size; clear hb2)
        have HMEM2 : Hid (∀ k, k ∈ putL ltB K x.key ↔ ∃ g' ∈ gs.take (i + 1), g'.key = k ∧ matchB g'.fil s = true) := fun k => by
          rw [putL_mem, hM.out]
          constructor
          · rintro (h1 | ⟨f', h1, h2⟩)
            · subst h1; exact ⟨x, (HTM.out _).2 (.inr rfl), rfl, HYES.out⟩
            · exact ⟨f', (HTM.out _).2 (.inl h1), h2⟩
          · rintro ⟨f', h1, h2, h3⟩
            rcases (HTM.out _).1 h1 with h1 | h1
            · exact .inr ⟨f', h1, h2, h3⟩
            · exact .inl (by subst h1; exact h2.symm)
        have HWP := Lib.hid (putL_sorted ord_text hW.out x.key)
        have hLP := putL_len (lt := ltB) K x.key
        go_wp2_with fail
        refine (refWordO_any w2 w1.heap.size _ K x.key HS2.out HB2.out.size hW.out (by omega)).mono ?_
        rintro e wp ⟨⟨vp, rfl, hp⟩, hbp⟩
        obtain ⟨qp, cp, rfl⟩ : ∃ qp cp, vp = .slice qp (putL ltB K x.key).length cp := (Fl.of_own hp).form
        have HBP := Lib.hid (HB2.out.trans (hbp.mono HB2.out.size))
        have HP := Lib.hid hp
        clear hbp hp
        generalize putL ltB K x.key = idp at *
        go_wp2_with fail
        go_roundw
        case rel => exact ⟨i + 1, qp, cp, idp, rfl, by go_num, by omega, HP.out, HWP.out, HMEM2.out, by omega, HBP.out⟩
        case measure => simp [intOf]; omega
    · have hltI : ¬ ((i : Int) < (gs.length : Int)) := by omega
      obtain rfl : i = gs.length := by omega
      rw [List.take_length] at hM
      go_wp2_with fail
      have HB2 := Lib.hid (HB1.out.trans (hB.out.mono HB1.out.size))
      have HST0 : Hid (RSnd w wr w0.heap.size rb vs (.slice qg gs.length cg) vm st.1 gs ms KB s K ids0 0 gs (.slice q1 ids0.length c1) ids0 (.slice q2 K.length c2)) :=
        ⟨turned_start HR.out HB2.out, by rw [List.take_zero]; rfl, irow_below HROW.out hB.out, ownsRow_mono hS.out HB1.out.size, fun _ e => e, rfl, fun g hg => (HEA.out g hg).1, by omega⟩
      have HKL : Hid (∀ k, k ∈ K → ∃ g ∈ gs, g.key = k ∧ matchB g.fil s = true) := fun k hk => (hM.out k).1 hk
      obtain ⟨i0, hi, hz0, hz1, hz2⟩ := info_parts info_int
      go_loopw [5, 8] (fun s5 s8 W => ∃ (j : Nat) (q5 : Option Addr) (c5 : Nat) (out : List Int) (gsi : List RG), s5 = .slice q5 out.length c5 ∧ s8 = .int .i64 (j : Nat) ∧ j ≤ K.length ∧ Hid (RSnd w W w0.heap.size rb vs (.slice qg gs.length cg) vm st.1 gs ms KB s K ids0 j gsi (.slice q5 out.length c5) out (.slice q2 K.length c2))) (fun _ s8 _ => K.length - (intOf s8).toNat)
      case atStart => exact ⟨0, q1, c1, ids0, gs, rfl, rfl, Nat.zero_le _, HST0.out⟩
      case round =>
        obtain ⟨j, q5, c5, out, gsi, rfl, rfl, hj, HS5⟩ := hrel
        by_cases hlt : j < K.length
        · obtain ⟨k, hk⟩ : ∃ k, K[j]? = some k := ⟨_, List.getElem?_eq_getElem hlt⟩
          obtain ⟨gk, rfl⟩ := HS5.out.keys.some_ptr (by omega)
          have ek := HS5.out.keys.cell hk
          have gkl : gk < wr.heap.size := World.block_lt_of_cell? wr _ ek
          have hltI : (j : Int) < (K.length : Int) := by omega
          have hj0 : (0 : Int) ≤ (j : Int) := by omega
          have HRW := Lib.hid HS5.out.t.is
          have hgl4 : gsi.length ≤ 100000000 := by
            have e := congrArg List.length HS5.out.kf_
            simp only [List.length_map] at e
            omega
          have HK := Lib.hid hk
          clear hk
          go_wp2_with fail
          refine (group_any wr w0.heap.size rb vs _ vm st.1 gsi ms KB k HRW.out hgl4).mono ?_
          rintro e w5 ⟨⟨r, rfl, hr⟩, hb5⟩
          have hfound : ∃ (m : Nat) (x : RG), r = (m : Nat) ∧ gsi[m]? = some x ∧ x.key = k ∧ matchB x.fil s = true := by
            obtain ⟨g, hg, e1, e2⟩ := HKL.out k (List.mem_of_getElem? HK.out)
            have hm : kf g.ag ∈ (gsi.map RG.ag).map kf := by rw [HS5.out.kf_]; exact List.mem_map.2 ⟨g.ag, List.mem_map.2 ⟨g, hg, rfl⟩, rfl⟩
            obtain ⟨a, ha, e3⟩ := List.mem_map.1 hm
            obtain ⟨y, hy, rfl⟩ := List.mem_map.1 ha
            injection e3 with e3 e4
            have e3 : y.key = g.key := e3
            have e4 : y.fil = g.fil := e4
            rcases hr with ⟨-, h⟩ | ⟨m, x, h5, h6, h7⟩
            · exact absurd (e3.trans e1) (h y hy)
            · refine ⟨m, x, h5, h6, h7, ?_⟩
              have hnk : ((gsi.map RG.ag).map (·.key)).Nodup := by rw [kf_key HS5.out.kf_, List.map_map]; exact HKN.out
              obtain ⟨m', hm', e5⟩ := List.mem_iff_getElem.1 hy
              have a1 : (gsi.map RG.ag)[m]? = some x.ag := by rw [List.getElem?_map, h6]; rfl
              have a2 : (gsi.map RG.ag)[m']? = some y.ag := by rw [List.getElem?_map, List.getElem?_eq_getElem hm', e5]; rfl
              have em := nodup_at hnk a1 a2 (h7.trans (e3.trans e1).symm)
              subst em
              rw [List.getElem?_eq_getElem hm', e5] at h6
              injection h6 with h6
              subst h6
              rw [e4]
              exact e2
          obtain ⟨m, x, rfl, hx, hxk, hxm⟩ := hfound
          subst hxk
          have HS6 := Lib.hid (HS5.out.below hb5)
          have HX := Lib.hid hx
          have HXM := Lib.hid hxm
          obtain ⟨gb, rfl, a0, a1, a2, a3⟩ := HS6.out.t.is.at_ hx
          have hmm := HS6.out.t.is.mem x (List.mem_of_getElem? hx)
          obtain ⟨htl, hfew⟩ := HS6.out.each x (List.mem_of_getElem? hx)
          obtain ⟨mb, cm, hqm, hmc⟩ : ∃ mb cm, x.mv = .slice (some ⟨mb, 0, none⟩) x.ids.length cm ∧ w5.cell? ⟨mb, x.tn, none⟩ = some (.int .i64 (x.ids.getD x.tn 0)) := by
            rcases IRow.form hmm with ⟨-, h2⟩ | ⟨g, cap, cur, h2, -, -, -, -, -, -, -, hc⟩
            · rw [h2] at htl; simp at htl
            · exact ⟨g, cap, h2, hc _ htl⟩
          have hmbl : mb < w5.heap.size := World.block_lt_of_cell? w5 _ hmc
          rw [hqm] at a2
          have c6 := HS6.out.t.is.cells.2.1
          have l6 := HS6.out.t.is.blt
          have g6 : gb < w5.heap.size := World.block_lt_of_cell? w5 _ a2
          have hml := (List.getElem?_eq_some_iff.1 hx).1
          have hlenG : gsi.length = gs.length := by
            have e := congrArg List.length HS5.out.kf_
            simp only [List.length_map] at e
            exact e
          have hmI : (m : Int) < (gs.length : Int) := by omega
          have hm0 : (0 : Int) ≤ (m : Int) := by omega
          have HQM := Lib.hid hqm
          clear hb5 hr hx hxm hmm hqm hlenG hml hgl4 ek gkl
          have htn0 : (0 : Int) ≤ (x.tn : Int) := by omega
          have htnI : (x.tn : Int) < (x.ids.length : Int) := by omega
          obtain ⟨z, hz⟩ : ∃ z, x.ids.getD x.tn 0 = z := ⟨_, rfl⟩
          rw [hz] at hmc
          have HZ := Lib.hid hz
          obtain ⟨WA, hWA⟩ : ∃ WA, w5.alloc (.cells #[.string x.key, .string x.fil, .slice (some ⟨mb, 0, none⟩) x.ids.length cm, .int .i64 (x.tn : Int)] 122) = WA := ⟨_, rfl⟩
          obtain ⟨WB, hWB⟩ : ∃ WB, WA.alloc (.cells #[.int .i64 z] 3) = WB := ⟨_, rfl⟩
          have hAs : WA.heap.size = w5.heap.size + 1 := by rw [← hWA]; simp
          have hBA : Below w5.heap.size w5 WA := by rw [← hWA]; exact (Below.refl _ _).alloc (Nat.le_refl _) _
          have hBB : Below w5.heap.size w5 WB := by rw [← hWB]; exact hBA.alloc (by omega) _
          have hBs : WB.heap.size = w5.heap.size + 2 := by rw [← hWB, World.size_alloc, hAs]
          have HS7 := Lib.hid (HS6.out.below hBB)
          have HWW : Hid ((w5.alloc (.cells #[.string x.key, .string x.fil, .slice (some ⟨mb, 0, none⟩) x.ids.length cm, .int .i64 (x.tn : Int)] 122)).alloc (.cells #[.int .i64 z] 3) = WB) := by rw [hWA]; exact hWB
          have hxb : WB.heap[w5.heap.size]? = some (.cells #[.string x.key, .string x.fil, .slice (some ⟨mb, 0, none⟩) x.ids.length cm, .int .i64 (x.tn : Int)] 122 (0, 0)) := by
            rw [← hWB, Below.heap_alloc _ _ _ (by omega), ← hWA]
            exact heap_alloc_new w5 _
          have hzb : ∀ j u, [Value.int .i64 z][j]? = some u → WB.cell? ((⟨w5.heap.size + 1, 0, none⟩ : Addr).add j) = some u := by
            have h := news13 WA [Value.int .i64 z] 3
            rw [hWB, hAs] at h
            exact h
          have HZB := Lib.hid hzb
          have HXB := Lib.hid hxb
          have hwl : w.heap.size ≤ w5.heap.size := HS6.out.t.fr.size
          have hol := HS6.out.len
          have HARM : Hid (∀ (w8 : World) (g3 cap3 : Nat), WB.grownBy w8 (Value.slice q5 out.length c5).ownBlock → w8.ownsRow w.heap.size 3 1 (.slice (some ⟨g3, 0, none⟩) (out.length + 1) cap3) (out.length + 1) (out.map (Value.int .i64) ++ [.int .i64 z]) →
              w8.cell? ⟨w5.heap.size, 2, none⟩ = some (.slice (some ⟨mb, 0, none⟩) x.ids.length cm) ∧ w8.cell? ⟨w5.heap.size, 3, none⟩ = some (.int .i64 (x.tn : Int)) ∧ w5.heap.size < w8.heap.size ∧ w8.cell? ⟨rb, 1, none⟩ = some (.slice (some ⟨gb, 0, none⟩) gs.length cg) ∧ rb < w8.heap.size ∧ w8.frozen? ⟨gb, m * 4 + 3, none⟩ = false ∧ gb < w8.heap.size ∧ w8.cell? ⟨gb, m * 4 + 3, none⟩ = some (.int .i64 (x.tn : Int)) ∧
              RSnd w (w8.setCell ⟨gb, m * 4 + 3, none⟩ (.int .i64 ((nextI x.ids.length x.tn : Nat) : Int))) w0.heap.size rb vs (.slice (some ⟨gb, 0, none⟩) gs.length cg) vm st.1 gs ms KB s K ids0 (j + 1) (gsi.set m { x with tn := nextI x.ids.length x.tn }) (.slice (some ⟨g3, 0, none⟩) (out.length + 1) cap3) (out ++ [z]) (.slice (some ⟨gk, 0, none⟩) K.length c2)) := fun w8 g3 cap3 hg3 hown3 => by
            have hnb : ∀ b, b < w.heap.size → some b ≠ (Value.slice q5 out.length c5).ownBlock := fun b hb e => by have := (HS7.out.row.lt b e.symm).1; omega
            have hnb2 : some w5.heap.size ≠ (Value.slice q5 out.length c5).ownBlock := fun e => by have := (HS6.out.row.lt _ e.symm).2; omega
            have hxb8 := (hg3.block w5.heap.size (by omega) hnb2).trans hxb
            have hbx8 := (hg3.block rb (by have := HR.out.blt; omega) (hnb rb HR.out.blt)).trans HS7.out.t.is.box
            have hgb0 : gb < w.heap.size := (HR.out.grp.lt gb rfl).2
            obtain ⟨cur8, hc8⟩ := row_block HS7.out.t.is.grp
            have hg8 := (hg3.block gb (by omega) (hnb gb hgb0)).trans hc8
            have d8 : w8.cell? ⟨gb, m * 4 + 3, none⟩ = some (.int .i64 (x.tn : Int)) := by
              obtain ⟨g', hg', -, -, -, b3⟩ := HS7.out.t.is.at_ HX.out
              injection hg' with hg'
              injection hg' with hg'
              subst hg'
              exact cell_of_heap (hg3.block gb (by omega) (hnb gb hgb0)) b3
            have hn := HS7.out.next HR.out HKN.out HX.out HK.out HXM.out hg3 (v2 := .slice (some ⟨g3, 0, none⟩) (out.length + 1) cap3) (by
              rw [HZ.out]
              show World.ownsRow _ _ _ 1 _ (out ++ [z]).length _
              rw [List.length_append]
              show World.ownsRow _ _ _ 1 _ _ (List.map (Value.int .i64) (out ++ [z]))
              rw [List.map_append]
              exact hown3)
            rw [HZ.out] at hn
            exact ⟨by rw [cell_of_row w8 _ 2 _ _ _ hxb8]; rfl, by rw [cell_of_row w8 _ 3 _ _ _ hxb8]; rfl, (Array.getElem?_eq_some_iff.1 hxb8).1, by rw [cell_of_row w8 _ 1 _ _ _ hbx8]; rfl, (Array.getElem?_eq_some_iff.1 hbx8).1, frozen_of_row w8 gb _ _ _ hg8, (Array.getElem?_eq_some_iff.1 hg8).1, d8, hn⟩
          clear hWA hWB hxb hzb hAs hBA hz
          go_wp2_with (first
            | (at_builtin; rw [HWW.out]; refine wpList_append_own_at _ rfl _ _ 26 rfl w.heap.size 3 i0 (.int .i64 0) 1 8 Tryz.underlying26 hi hz0 hz1 hz2 rfl (by decide) _ _ _ rfl HS7.out.row ⟨w5.heap.size + 1, 0, none⟩ 1 1 [.int .i64 z] rfl rfl HZB.out (by intro u hu; simp at hu; subst hu; rfl) (by unfold maxLen; omega) (by omega) (by omega) ?_; intro v3 w8 hown3 hg3' hnil3 hloc; obtain ⟨g3, cap3, rfl⟩ := ownsRow_succ hown3; obtain ⟨k8, t8, x8, c8, l8, f8, g8, d8, hn8⟩ := HARM.out w8 g3 cap3 hg3' hown3; have HN8 := Lib.hid hn8; clear hown3 hg3' hnil3 hloc hn8)
            | fail)
          have hlen8 : (x.ids.length : Int) ≠ 0 := by omega
          have HNX : Hid (((nextI x.ids.length x.tn : Nat) : Int) = ((x.tn : Int) + 1) % (x.ids.length : Int)) := by
            show _ = _
            unfold nextI
            split
            · rw [Int.emod_eq_of_lt (by omega) (by omega)]; omega
            · rw [show (x.tn : Int) + 1 = (x.ids.length : Int) by omega, Int.emod_self]; rfl
          rw [HNX.out] at HN8
          have hmd : IntKind.i64.wrap (((x.tn : Int) + 1).tmod (x.ids.length : Int)) = ((x.tn : Int) + 1) % (x.ids.length : Int) := by
            rw [Int.tmod_eq_emod_of_nonneg (by omega), ← HNX.out, IntKind.wrap_i64]
            have : nextI x.ids.length x.tn ≤ 256 := by unfold nextI; split <;> omega
            omega
          have hmd2 : IntKind.i64.wrap ((x.tn : Int) + 1) = (x.tn : Int) + 1 := by rw [IntKind.wrap_i64]; omega
          go_region
          go_simp
          go_wp2_with fail
          go_roundw
          case rel =>
            refine ⟨j + 1, some ⟨g3, 0, none⟩, cap3, out ++ [z], gsi.set m { x with tn := nextI x.ids.length x.tn }, ?_, by go_num, by omega, ?_⟩
            · rw [List.length_append]; rfl
            · have h := HN8.out.below (Below.drew_of _)
              rw [List.length_append]
              exact h
          case measure => simp [intOf]; omega
        · have hltI : ¬ ((j : Int) < (K.length : Int)) := by omega
          obtain rfl : j = K.length := by omega
          go_wp2_with fail
          rw [← HPP.out]
          have hf := HS5.out.fold
          rw [List.take_length] at hf
          refine ⟨_, ids0, out, (st.1, gsi.map RG.ag), rfl, HS5.out.row, ⟨HRISE.out, fun z => (HMEM.out z).trans (heard_match HGD.out.subs s z).symm, ?_, rfl⟩, ?_⟩
          · have hk : ∀ k, k ∈ K ↔ Hit st.2 s k := fun k => by
              rw [hM.out, ← HAG.out]
              constructor
              · rintro ⟨g, h1, h2, h3⟩; exact ⟨g.ag, List.mem_map.2 ⟨g, h1, rfl⟩, h2, h3⟩
              · rintro ⟨a, h1, h2, h3⟩
                obtain ⟨g, h4, rfl⟩ := List.mem_map.1 h1
                exact ⟨g, h4, h2, h3⟩
            show (gsi.map RG.ag, out) = _
            rw [hf, HAG.out]
            by_cases hnm : nameB s.data.toList = true
            · rw [if_pos hnm]
              exact fold_keys HGD.out.keys hW.out hk ids0
            · rw [if_neg hnm]
              have hK0 : K = [] := by
                cases hK : K with
                | nil => rfl
                | cons k K' =>
                  obtain ⟨a, -, -, h3⟩ := (hk k).1 (by rw [hK]; exact List.mem_cons_self ..)
                  exact absurd (match_name h3) hnm
              rw [hK0]
              rfl
          · exact HS5.out.t.done (st := st) HOW.out HB0.out.size HPB.out HAM.out rfl
end
end Go.Proofs.YtincmegllckcjaaGreatDoor
