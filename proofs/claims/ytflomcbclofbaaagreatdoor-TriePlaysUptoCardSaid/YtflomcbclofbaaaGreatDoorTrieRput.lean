/- TRIE: the reference's Put: into a rising list, once. TRIE: the reference's Word: into a rising list, once. -/
import Derived.Deep.QuietTactic
import Derived.BigQuiet
import Derived.WalkLawsBesides
import Derived.Sort.Walk0
import Derived.Test.YtflomcbclofbaaaGreatDoorTrieRefL
namespace Go.Proofs.YtflomcbclofbaaaGreatDoor
open Go Go.RowKit
attribute [local go_sem ↓] Go.wp_at_zero Go.wp_at_succ

set_option maxRecDepth 100000 in
set_option maxHeartbeats 8000000 in
theorem refPut_any (w : World) (v : Value) (l : List Int) (x : Int) (h : IS w v l) (hs : l.Pairwise (fun a b : Int => a < b)) (hl : l.length ≤ 100000000) :
    Calls Tryz.prog 21 #[v, (Value.int .i64) x] w fun e w' => (∃ v', e = .returned v' ∧ IS w' v' (putL (fun a b : Int => a < b) l x)) ∧ Below w.heap.size w w' := by
  obtain ⟨PP, hPP⟩ : ∃ PP : Ending → World → Prop, (fun e w' => (∃ v', e = .returned v' ∧ IS w' v' (putL (fun a b : Int => a < b) l x)) ∧ Below w.heap.size w w') = PP := ⟨_, rfl⟩
  rw [hPP]
  have HPP := Lib.hid hPP
  have HIS := Lib.hid h
  obtain ⟨p, cap, rfl, ha1, ha2, -⟩ := h
  obtain ⟨i0, hi, hz0, hz1, hz2⟩ := info_parts info_int
  have HS := Lib.hid hs
  have hcl := cntL_le (lt := (fun a b : Int => a < b)) l x
  have HPT : Hid (x ∈ l → putL (fun a b : Int => a < b) l x = l) := fun h => if_pos h
  have HPF : Hid (x ∉ l → putL (fun a b : Int => a < b) l x = l.take (cntL (fun a b : Int => a < b) l x) ++ x :: l.drop (cntL (fun a b : Int => a < b) l x)) := fun h => if_neg h
  have HG := Lib.hid (cntL_get ord_int (x := x) hs)
  have HB : Hid (∀ {j : Nat} {y : Int}, l[j]? = some y → (y < x ↔ j < cntL (fun a b : Int => a < b) l x)) := Lib.hid (cntL_before ord_int hs)
  obtain ⟨c, hc⟩ : ∃ c, cntL (fun a b : Int => a < b) l x = c := ⟨_, rfl⟩
  rw [hc] at hcl HPF HG HB
  clear hPP hs hc
  go_enter Tryz.func21, Tryz.ntmps21
  go_wp2_with fail
  go_loop [5] (fun s5 => ∃ k : Nat, s5 = .int .i64 (k : Nat) ∧ k ≤ c) (fun s5 => c - (intOf s5).toNat)
  case atStart => exact ⟨0, rfl, Nat.zero_le _⟩
  case round =>
    obtain ⟨k, rfl, hk⟩ := hrel
    have hk0 : (0 : Int) ≤ (k : Int) := by omega
    by_cases hkc : k < c
    · obtain ⟨y, hy⟩ : ∃ y, l[k]? = some y := ⟨_, List.getElem?_eq_getElem (by omega)⟩
      obtain ⟨b, o, rfl, k1⟩ := IS_cell HIS.out hy
      have g1 : b < w.heap.size := World.block_lt_of_cell? w _ k1
      have hltI : (k : Int) < (l.length : Int) := by omega
      have hltD : decide (k < l.length) = true := decide_eq_true (by omega)
      have hyx := (HB.out hy).2 hkc
      clear hy
      go_wp2_with fail
      go_round
      case rel => exact ⟨k + 1, by go_num, by omega⟩
      case measure => simp [intOf]; omega
    · obtain rfl : k = c := by omega
      by_cases hkl : k < l.length
      · obtain ⟨y, hy⟩ : ∃ y, l[k]? = some y := ⟨_, List.getElem?_eq_getElem (by omega)⟩
        obtain ⟨b, o, rfl, k1⟩ := IS_cell HIS.out hy
        have g1 : b < w.heap.size := World.block_lt_of_cell? w _ k1
        have hltI : (k : Int) < (l.length : Int) := by omega
        have hltD : decide (k < l.length) = true := decide_eq_true (by omega)
        have hyx : ¬ (y < x) := fun e => hkc ((HB.out hy).1 e)
        have hyx' : x ≤ y := by omega
        by_cases hyeq : y = x
        · have HM : Hid (x ∈ l) := HG.out.2 (by rw [hy, hyeq])
          have t2 : (y == x) = true := by simp [hyeq]
          clear hy hyeq
          go_wp2_with fail
          rw [← HPP.out]
          refine ⟨⟨_, rfl, ?_⟩, Below.refl _ _⟩
          rw [HPT.out HM.out]; exact HIS.out
        · have HM : Hid (x ∉ l) := fun hm => hyeq (by have h1 := HG.out.1 hm; rw [hy] at h1; injection h1)
          have t2 : (y == x) = false := by simp [hyeq]
          clear hy hyeq
          obtain ⟨q1, cq1, hrun1, hf1⟩ := (IS_fl HIS.out).cut (P := Tryz.prog) 36 3 i0 Tryz.underlying36 hi (i := k) hcl
          obtain ⟨q2, cq2, hrun2, hf2⟩ := (IS_fl HIS.out).rest (P := Tryz.prog) 36 3 i0 Tryz.underlying36 hi hz1 (i := k) hcl
          rw [Nat.mul_one, ← List.map_take] at hf1
          rw [Nat.mul_one, ← List.map_drop] at hf2
          have HF1 := Lib.hid hf1
          have HF2 := Lib.hid hf2
          clear hf1 hf2
          go_wp2_with (first
            | (at_builtin; refine wpList_append_fl _ rfl (.tmp 34) (.tmp 37) 36 3 rfl w.heap.size 1 8 i0 (.int .i64 0) Tryz.underlying36 hi hz0 hz1 hz2 rfl (by decide) _ 0 [] rfl (World.ownsRow_nil _ _ _ _) _ rfl k _ HF1.out (by intro u hu; obtain ⟨y, -, rfl⟩ := List.mem_map.1 hu; rfl) (by unfold maxLen; omega) (by omega) (Nat.le_refl _) ?_; intro v3 w3 hown3 hg3 hloc3; rw [Nat.zero_add, List.nil_append] at hown3; have HB3 := Lib.hid ((Below.refl w.heap.size w).grown hg3 (Nat.le_refl _) (fun k hk => by cases hk)); have hs3 := HB3.out.size; have HO3 := Lib.hid hown3; clear hg3 hown3 hloc3)
            | (at_builtin; refine wpList_append_own _ rfl (.tmp 39) (.tmp 41) 36 rfl w.heap.size 3 i0 (.int .i64 0) 1 8 Tryz.underlying36 hi hz0 hz1 hz2 rfl (by decide) _ _ _ rfl (HO3.out.alloc _) ⟨w3.heap.size, 0, none⟩ 1 1 [(Value.int .i64) x] rfl rfl (cell_one_new _ _ _) (by intro u hu; simp at hu; subst hu; rfl) (by unfold maxLen; omega) (by omega) (by simp; omega) ?_; intro v4 w4 hown4 hg4 hnil4; have HB4 := Lib.hid ((HB3.out.alloc hs3 _).grown hg4 (by simp; omega) (fun k hk => (HO3.out.lt k hk).1)); have hs4 := HB4.out.size; have HO4 := Lib.hid hown4; clear hg4 hown4 hnil4)
            | (at_builtin; refine wpList_append_fl _ rfl (.tmp 43) (.tmp 46) 36 3 rfl w.heap.size 1 8 i0 (.int .i64 0) Tryz.underlying36 hi hz0 hz1 hz2 rfl (by decide) _ _ _ rfl HO4.out _ rfl (l.length - k) _ (HF2.out.below HB4.out) (by intro u hu; obtain ⟨y, -, rfl⟩ := List.mem_map.1 hu; rfl) (by unfold maxLen; omega) (by omega) hs4 ?_; intro v5 w5 hown5 hg5 hloc5; have HB5 := Lib.hid (HB4.out.grown hg5 hs4 (fun k hk => (HO4.out.lt k hk).1)); have HO5 := Lib.hid hown5; clear hg5 hown5 hloc5))
          rw [← HPP.out]
          refine ⟨⟨_, rfl, IS_of (n := k + 1 + (l.length - k)) ?_ ?_⟩, HB5.out⟩
          · rw [HPF.out HM.out, List.map_append, List.map_cons]
            have h5 := Fl.of_own HO5.out
            rw [List.append_assoc] at h5
            exact h5
          · rw [HPF.out HM.out, List.length_append, List.length_cons, List.length_take, List.length_drop]; omega
      · have HM : Hid (x ∉ l) := fun hm => hkl (List.getElem?_eq_some_iff.1 (HG.out.1 hm)).1
        have hltI : ¬ ((k : Int) < (l.length : Int)) := by omega
        have hltD : decide (k < l.length) = false := decide_eq_false (by omega)
        obtain ⟨q1, cq1, hrun1, hf1⟩ := (IS_fl HIS.out).cut (P := Tryz.prog) 36 3 i0 Tryz.underlying36 hi (i := k) hcl
        obtain ⟨q2, cq2, hrun2, hf2⟩ := (IS_fl HIS.out).rest (P := Tryz.prog) 36 3 i0 Tryz.underlying36 hi hz1 (i := k) hcl
        rw [Nat.mul_one, ← List.map_take] at hf1
        rw [Nat.mul_one, ← List.map_drop] at hf2
        have HF1 := Lib.hid hf1
        have HF2 := Lib.hid hf2
        clear hf1 hf2
        go_wp2_with (first
          | (at_builtin; refine wpList_append_fl _ rfl (.tmp 34) (.tmp 37) 36 3 rfl w.heap.size 1 8 i0 (.int .i64 0) Tryz.underlying36 hi hz0 hz1 hz2 rfl (by decide) _ 0 [] rfl (World.ownsRow_nil _ _ _ _) _ rfl k _ HF1.out (by intro u hu; obtain ⟨y, -, rfl⟩ := List.mem_map.1 hu; rfl) (by unfold maxLen; omega) (by omega) (Nat.le_refl _) ?_; intro v3 w3 hown3 hg3 hloc3; rw [Nat.zero_add, List.nil_append] at hown3; have HB3 := Lib.hid ((Below.refl w.heap.size w).grown hg3 (Nat.le_refl _) (fun k hk => by cases hk)); have hs3 := HB3.out.size; have HO3 := Lib.hid hown3; clear hg3 hown3 hloc3)
          | (at_builtin; refine wpList_append_own _ rfl (.tmp 39) (.tmp 41) 36 rfl w.heap.size 3 i0 (.int .i64 0) 1 8 Tryz.underlying36 hi hz0 hz1 hz2 rfl (by decide) _ _ _ rfl (HO3.out.alloc _) ⟨w3.heap.size, 0, none⟩ 1 1 [(Value.int .i64) x] rfl rfl (cell_one_new _ _ _) (by intro u hu; simp at hu; subst hu; rfl) (by unfold maxLen; omega) (by omega) (by simp; omega) ?_; intro v4 w4 hown4 hg4 hnil4; have HB4 := Lib.hid ((HB3.out.alloc hs3 _).grown hg4 (by simp; omega) (fun k hk => (HO3.out.lt k hk).1)); have hs4 := HB4.out.size; have HO4 := Lib.hid hown4; clear hg4 hown4 hnil4)
          | (at_builtin; refine wpList_append_fl _ rfl (.tmp 43) (.tmp 46) 36 3 rfl w.heap.size 1 8 i0 (.int .i64 0) Tryz.underlying36 hi hz0 hz1 hz2 rfl (by decide) _ _ _ rfl HO4.out _ rfl (l.length - k) _ (HF2.out.below HB4.out) (by intro u hu; obtain ⟨y, -, rfl⟩ := List.mem_map.1 hu; rfl) (by unfold maxLen; omega) (by omega) hs4 ?_; intro v5 w5 hown5 hg5 hloc5; have HB5 := Lib.hid (HB4.out.grown hg5 hs4 (fun k hk => (HO4.out.lt k hk).1)); have HO5 := Lib.hid hown5; clear hg5 hown5 hloc5))
        rw [← HPP.out]
        refine ⟨⟨_, rfl, IS_of (n := k + 1 + (l.length - k)) ?_ ?_⟩, HB5.out⟩
        · rw [HPF.out HM.out, List.map_append, List.map_cons]
          have h5 := Fl.of_own HO5.out
          rw [List.append_assoc] at h5
          exact h5
        · rw [HPF.out HM.out, List.length_append, List.length_cons, List.length_take, List.length_drop]; omega

set_option maxRecDepth 100000 in
set_option maxHeartbeats 8000000 in
theorem refWord_any (w : World) (v : Value) (l : List ByteArray) (x : ByteArray) (h : Sl w v l) (hs : l.Pairwise ltB) (hl : l.length ≤ 100000000) :
    Calls Tryz.prog 57 #[v, Value.string x] w fun e w' => (∃ v', e = .returned v' ∧ Sl w' v' (putL ltB l x)) ∧ Below w.heap.size w w' := by
  obtain ⟨PP, hPP⟩ : ∃ PP : Ending → World → Prop, (fun e w' => (∃ v', e = .returned v' ∧ Sl w' v' (putL ltB l x)) ∧ Below w.heap.size w w') = PP := ⟨_, rfl⟩
  rw [hPP]
  have HPP := Lib.hid hPP
  have HIS := Lib.hid h
  obtain ⟨p, cap, rfl, ha1, ha2, -⟩ := h
  obtain ⟨i0, hi, hz0, hz1, hz2⟩ := info_parts info_string
  have HS := Lib.hid hs
  have hcl := cntL_le (lt := ltB) l x
  have HPT : Hid (x ∈ l → putL ltB l x = l) := fun h => if_pos h
  have HPF : Hid (x ∉ l → putL ltB l x = l.take (cntL ltB l x) ++ x :: l.drop (cntL ltB l x)) := fun h => if_neg h
  have HG := Lib.hid (cntL_get ord_text (x := x) hs)
  have HB : Hid (∀ {j : Nat} {y : ByteArray}, l[j]? = some y → (ltB y x ↔ j < cntL ltB l x)) := Lib.hid (cntL_before ord_text hs)
  obtain ⟨c, hc⟩ : ∃ c, cntL ltB l x = c := ⟨_, rfl⟩
  rw [hc] at hcl HPF HG HB
  clear hPP hs hc
  go_enter Tryz.func57, Tryz.ntmps57
  go_wp2_with fail
  go_loop [5] (fun s5 => ∃ k : Nat, s5 = .int .i64 (k : Nat) ∧ k ≤ c) (fun s5 => c - (intOf s5).toNat)
  case atStart => exact ⟨0, rfl, Nat.zero_le _⟩
  case round =>
    obtain ⟨k, rfl, hk⟩ := hrel
    have hk0 : (0 : Int) ≤ (k : Int) := by omega
    by_cases hkc : k < c
    · obtain ⟨y, hy⟩ : ∃ y, l[k]? = some y := ⟨_, List.getElem?_eq_getElem (by omega)⟩
      obtain ⟨b, o, rfl, k1⟩ := Sl_cell HIS.out hy
      have g1 : b < w.heap.size := World.block_lt_of_cell? w _ k1
      have hltI : (k : Int) < (l.length : Int) := by omega
      have hltD : decide (k < l.length) = true := decide_eq_true (by omega)
      have hyx := (HB.out hy).2 hkc
      have t1 : Op.bytesLess y.toList x.toList = true := by rw [bytesLess_eq, ByteArray.toList_eq, ByteArray.toList_eq]; exact decide_eq_true hyx
      clear hy
      go_wp2_with fail
      go_round
      case rel => exact ⟨k + 1, by go_num, by omega⟩
      case measure => simp [intOf]; omega
    · obtain rfl : k = c := by omega
      by_cases hkl : k < l.length
      · obtain ⟨y, hy⟩ : ∃ y, l[k]? = some y := ⟨_, List.getElem?_eq_getElem (by omega)⟩
        obtain ⟨b, o, rfl, k1⟩ := Sl_cell HIS.out hy
        have g1 : b < w.heap.size := World.block_lt_of_cell? w _ k1
        have hltI : (k : Int) < (l.length : Int) := by omega
        have hltD : decide (k < l.length) = true := decide_eq_true (by omega)
        have hyx : ¬ (ltB y x) := fun e => hkc ((HB.out hy).1 e)
        have t1 : Op.bytesLess y.toList x.toList = false := by rw [bytesLess_eq, ByteArray.toList_eq, ByteArray.toList_eq]; exact decide_eq_false hyx
        by_cases hyeq : y = x
        · have HM : Hid (x ∈ l) := HG.out.2 (by rw [hy, hyeq])
          have t2 : (y.toList == x.toList) = true := is_same.2 hyeq
          clear hy hyeq
          go_wp2_with fail
          rw [← HPP.out]
          refine ⟨⟨_, rfl, ?_⟩, Below.refl _ _⟩
          rw [HPT.out HM.out]; exact HIS.out
        · have HM : Hid (x ∉ l) := fun hm => hyeq (by have h1 := HG.out.1 hm; rw [hy] at h1; injection h1)
          have t2 : (y.toList == x.toList) = false := by rw [beq_eq_false_iff_ne]; intro e; rw [ByteArray.toList_eq, ByteArray.toList_eq] at e; exact hyeq (bytes_inj e)
          clear hy hyeq
          obtain ⟨q1, cq1, hrun1, hf1⟩ := (Sl_fl HIS.out).cut (P := Tryz.prog) 23 9 i0 Tryz.underlying23 hi (i := k) hcl
          obtain ⟨q2, cq2, hrun2, hf2⟩ := (Sl_fl HIS.out).rest (P := Tryz.prog) 23 9 i0 Tryz.underlying23 hi hz1 (i := k) hcl
          rw [Nat.mul_one, ← List.map_take] at hf1
          rw [Nat.mul_one, ← List.map_drop] at hf2
          have HF1 := Lib.hid hf1
          have HF2 := Lib.hid hf2
          clear hf1 hf2
          go_wp2_with (first
            | (at_builtin; refine wpList_append_fl _ rfl (.tmp 34) (.tmp 37) 23 9 rfl w.heap.size 1 16 i0 (.string ByteArray.empty) Tryz.underlying23 hi hz0 hz1 hz2 rfl (by decide) _ 0 [] rfl (World.ownsRow_nil _ _ _ _) _ rfl k _ HF1.out (by intro u hu; obtain ⟨y, -, rfl⟩ := List.mem_map.1 hu; rfl) (by unfold maxLen; omega) (by omega) (Nat.le_refl _) ?_; intro v3 w3 hown3 hg3 hloc3; rw [Nat.zero_add, List.nil_append] at hown3; have HB3 := Lib.hid ((Below.refl w.heap.size w).grown hg3 (Nat.le_refl _) (fun k hk => by cases hk)); have hs3 := HB3.out.size; have HO3 := Lib.hid hown3; clear hg3 hown3 hloc3)
            | (at_builtin; refine wpList_append_own _ rfl (.tmp 39) (.tmp 41) 23 rfl w.heap.size 9 i0 (.string ByteArray.empty) 1 16 Tryz.underlying23 hi hz0 hz1 hz2 rfl (by decide) _ _ _ rfl (HO3.out.alloc _) ⟨w3.heap.size, 0, none⟩ 1 1 [Value.string x] rfl rfl (cell_one_new _ _ _) (by intro u hu; simp at hu; subst hu; rfl) (by unfold maxLen; omega) (by omega) (by simp; omega) ?_; intro v4 w4 hown4 hg4 hnil4; have HB4 := Lib.hid ((HB3.out.alloc hs3 _).grown hg4 (by simp; omega) (fun k hk => (HO3.out.lt k hk).1)); have hs4 := HB4.out.size; have HO4 := Lib.hid hown4; clear hg4 hown4 hnil4)
            | (at_builtin; refine wpList_append_fl _ rfl (.tmp 43) (.tmp 46) 23 9 rfl w.heap.size 1 16 i0 (.string ByteArray.empty) Tryz.underlying23 hi hz0 hz1 hz2 rfl (by decide) _ _ _ rfl HO4.out _ rfl (l.length - k) _ (HF2.out.below HB4.out) (by intro u hu; obtain ⟨y, -, rfl⟩ := List.mem_map.1 hu; rfl) (by unfold maxLen; omega) (by omega) hs4 ?_; intro v5 w5 hown5 hg5 hloc5; have HB5 := Lib.hid (HB4.out.grown hg5 hs4 (fun k hk => (HO4.out.lt k hk).1)); have HO5 := Lib.hid hown5; clear hg5 hown5 hloc5))
          rw [← HPP.out]
          refine ⟨⟨_, rfl, Sl_of (n := k + 1 + (l.length - k)) ?_ ?_⟩, HB5.out⟩
          · rw [HPF.out HM.out, List.map_append, List.map_cons]
            have h5 := Fl.of_own HO5.out
            rw [List.append_assoc] at h5
            exact h5
          · rw [HPF.out HM.out, List.length_append, List.length_cons, List.length_take, List.length_drop]; omega
      · have HM : Hid (x ∉ l) := fun hm => hkl (List.getElem?_eq_some_iff.1 (HG.out.1 hm)).1
        have hltI : ¬ ((k : Int) < (l.length : Int)) := by omega
        have hltD : decide (k < l.length) = false := decide_eq_false (by omega)
        obtain ⟨q1, cq1, hrun1, hf1⟩ := (Sl_fl HIS.out).cut (P := Tryz.prog) 23 9 i0 Tryz.underlying23 hi (i := k) hcl
        obtain ⟨q2, cq2, hrun2, hf2⟩ := (Sl_fl HIS.out).rest (P := Tryz.prog) 23 9 i0 Tryz.underlying23 hi hz1 (i := k) hcl
        rw [Nat.mul_one, ← List.map_take] at hf1
        rw [Nat.mul_one, ← List.map_drop] at hf2
        have HF1 := Lib.hid hf1
        have HF2 := Lib.hid hf2
        clear hf1 hf2
        go_wp2_with (first
          | (at_builtin; refine wpList_append_fl _ rfl (.tmp 34) (.tmp 37) 23 9 rfl w.heap.size 1 16 i0 (.string ByteArray.empty) Tryz.underlying23 hi hz0 hz1 hz2 rfl (by decide) _ 0 [] rfl (World.ownsRow_nil _ _ _ _) _ rfl k _ HF1.out (by intro u hu; obtain ⟨y, -, rfl⟩ := List.mem_map.1 hu; rfl) (by unfold maxLen; omega) (by omega) (Nat.le_refl _) ?_; intro v3 w3 hown3 hg3 hloc3; rw [Nat.zero_add, List.nil_append] at hown3; have HB3 := Lib.hid ((Below.refl w.heap.size w).grown hg3 (Nat.le_refl _) (fun k hk => by cases hk)); have hs3 := HB3.out.size; have HO3 := Lib.hid hown3; clear hg3 hown3 hloc3)
          | (at_builtin; refine wpList_append_own _ rfl (.tmp 39) (.tmp 41) 23 rfl w.heap.size 9 i0 (.string ByteArray.empty) 1 16 Tryz.underlying23 hi hz0 hz1 hz2 rfl (by decide) _ _ _ rfl (HO3.out.alloc _) ⟨w3.heap.size, 0, none⟩ 1 1 [Value.string x] rfl rfl (cell_one_new _ _ _) (by intro u hu; simp at hu; subst hu; rfl) (by unfold maxLen; omega) (by omega) (by simp; omega) ?_; intro v4 w4 hown4 hg4 hnil4; have HB4 := Lib.hid ((HB3.out.alloc hs3 _).grown hg4 (by simp; omega) (fun k hk => (HO3.out.lt k hk).1)); have hs4 := HB4.out.size; have HO4 := Lib.hid hown4; clear hg4 hown4 hnil4)
          | (at_builtin; refine wpList_append_fl _ rfl (.tmp 43) (.tmp 46) 23 9 rfl w.heap.size 1 16 i0 (.string ByteArray.empty) Tryz.underlying23 hi hz0 hz1 hz2 rfl (by decide) _ _ _ rfl HO4.out _ rfl (l.length - k) _ (HF2.out.below HB4.out) (by intro u hu; obtain ⟨y, -, rfl⟩ := List.mem_map.1 hu; rfl) (by unfold maxLen; omega) (by omega) hs4 ?_; intro v5 w5 hown5 hg5 hloc5; have HB5 := Lib.hid (HB4.out.grown hg5 hs4 (fun k hk => (HO4.out.lt k hk).1)); have HO5 := Lib.hid hown5; clear hg5 hown5 hloc5))
        rw [← HPP.out]
        refine ⟨⟨_, rfl, Sl_of (n := k + 1 + (l.length - k)) ?_ ?_⟩, HB5.out⟩
        · rw [HPF.out HM.out, List.map_append, List.map_cons]
          have h5 := Fl.of_own HO5.out
          rw [List.append_assoc] at h5
          exact h5
        · rw [HPF.out HM.out, List.length_append, List.length_cons, List.length_take, List.length_drop]; omega
end Go.Proofs.YtflomcbclofbaaaGreatDoor
