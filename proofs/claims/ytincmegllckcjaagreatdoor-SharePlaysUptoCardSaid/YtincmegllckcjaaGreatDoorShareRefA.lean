/- TRIE: the reference's Word: into a rising list, once. SHARE: the reference's hub in memory: three lists. SHARE: how the reference's lists turn in memory. -/
import Derived.Deep.QuietTactic
import Derived.BigQuiet
import Derived.WalkLawsBesides
import Derived.Sort.Walk0
import Derived.Test.YtincmegllckcjaaGreatDoorMTrieRefR
import Derived.Test.YtincmegllckcjaaGreatDoorMShareHNew
import Derived.Test.YtincmegllckcjaaGreatDoorMShareSplitR
namespace Go.Proofs.YtincmegllckcjaaGreatDoor
section
open Go Go.RowKit
attribute [local go_sem ↓] Go.wp_at_zero Go.wp_at_succ

set_option maxRecDepth 100000 in
set_option maxHeartbeats 8000000 in
theorem refWord_any (w : World) (v : Value) (l : List ByteArray) (x : ByteArray) (h : Sl w v l) (hs : l.Pairwise ltB) (hl : l.length ≤ 100000000) :
    Calls Tryz.prog 83 #[v, Value.string x] w fun e w' => (∃ v', e = .returned v' ∧ Sl w' v' (putL ltB l x)) ∧ Below w.heap.size w w' := by
  obtain ⟨PP, hPP⟩ : ∃ PP : Ending → World → Prop, (fun e w' => (∃ v', e = .returned v' ∧ Sl w' v' (putL ltB l x)) ∧ Below w.heap.size w w') = PP := ⟨_, rfl⟩
  rw [hPP]
  have HPP := Lib.hid hPP
  have HIS := Lib.hid h
  obtain ⟨p, cap, rfl, ha1, ha2, -⟩ := h
  obtain ⟨i0, hi, hz0, hz1, hz2⟩ := info_parts info_string
  have HS := Lib.hid hs
  have hcl := cntL_le (lt := ltB) l x
  have HPT : Hid (x ∈ l → putL ltB l x = l) := fun h => if_pos h
  have HPF : Hid (x ∉ l → putL ltB l x = l.take (cntL ltB l x) ++ x :: l.drop (cntL ltB l x)) := fun h => if_neg h
  have HG := Lib.hid (cntL_get ord_text (x := x) hs)
  have HB : Hid (∀ {j : Nat} {y : ByteArray}, l[j]? = some y → (ltB y x ↔ j < cntL ltB l x)) := Lib.hid (cntL_before ord_text hs)
  obtain ⟨c, hc⟩ : ∃ c, cntL ltB l x = c := ⟨_, rfl⟩
  rw [hc] at hcl HPF HG HB
  clear hPP hs hc
  go_enter Tryz.func83, Tryz.ntmps83
  go_wp2_with fail
  go_loop [5] (fun s5 => ∃ k : Nat, s5 = .int .i64 (k : Nat) ∧ k ≤ c) (fun s5 => c - (intOf s5).toNat)
  case atStart => exact ⟨0, rfl, Nat.zero_le _⟩
  case round =>
    obtain ⟨k, rfl, hk⟩ := hrel
    have hk0 : (0 : Int) ≤ (k : Int) := by omega
    by_cases hkc : k < c
    · obtain ⟨y, hy⟩ : ∃ y, l[k]? = some y := ⟨_, List.getElem?_eq_getElem (by omega)⟩
      obtain ⟨b, o, rfl, k1⟩ := Sl_cell HIS.out hy
      have g1 : b < w.heap.size := World.block_lt_of_cell? w _ k1
      have hltI : (k : Int) < (l.length : Int) := by omega
      have hltD : decide (k < l.length) = true := decide_eq_true (by omega)
      have hyx := (HB.out hy).2 hkc
      have t1 : Op.bytesLess y.toList x.toList = true := by rw [bytesLess_eq, ByteArray.toList_eq, ByteArray.toList_eq]; exact decide_eq_true hyx
      clear hy
      go_wp2_with fail
      go_round
      case rel => exact ⟨k + 1, by go_num, by omega⟩
      case measure => simp [intOf]; omega
    · obtain rfl : k = c := by omega
      by_cases hkl : k < l.length
      · obtain ⟨y, hy⟩ : ∃ y, l[k]? = some y := ⟨_, List.getElem?_eq_getElem (by omega)⟩
        obtain ⟨b, o, rfl, k1⟩ := Sl_cell HIS.out hy
        have g1 : b < w.heap.size := World.block_lt_of_cell? w _ k1
        have hltI : (k : Int) < (l.length : Int) := by omega
        have hltD : decide (k < l.length) = true := decide_eq_true (by omega)
        have hyx : ¬ (ltB y x) := fun e => hkc ((HB.out hy).1 e)
        have t1 : Op.bytesLess y.toList x.toList = false := by rw [bytesLess_eq, ByteArray.toList_eq, ByteArray.toList_eq]; exact decide_eq_false hyx
        by_cases hyeq : y = x
        · have HM : Hid (x ∈ l) := HG.out.2 (by rw [hy, hyeq])
          have t2 : (y.toList == x.toList) = true := is_same.2 hyeq
          clear hy hyeq
          go_wp2_with fail
          rw [← HPP.out]
          refine ⟨⟨_, rfl, ?_⟩, Below.refl _ _⟩
          rw [HPT.out HM.out]; exact HIS.out
        · have HM : Hid (x ∉ l) := fun hm => hyeq (by have h1 := HG.out.1 hm; rw [hy] at h1; injection h1)
          have t2 : (y.toList == x.toList) = false := by rw [beq_eq_false_iff_ne]; intro e; rw [ByteArray.toList_eq, ByteArray.toList_eq] at e; exact hyeq (bytes_inj e)
          clear hy hyeq
          obtain ⟨q1, cq1, hrun1, hf1⟩ := (Sl_fl HIS.out).cut (P := Tryz.prog) 55 9 i0 Tryz.underlying55 hi (i := k) hcl
          obtain ⟨q2, cq2, hrun2, hf2⟩ := (Sl_fl HIS.out).rest (P := Tryz.prog) 55 9 i0 Tryz.underlying55 hi hz1 (i := k) hcl
          rw [Nat.mul_one, ← List.map_take] at hf1
          rw [Nat.mul_one, ← List.map_drop] at hf2
          have HF1 := Lib.hid hf1
          have HF2 := Lib.hid hf2
          clear hf1 hf2
          go_wp2_with (first
            | (at_builtin; refine wpList_append_fl _ rfl (.tmp 34) (.tmp 37) 55 9 rfl w.heap.size 1 16 i0 (.string ByteArray.empty) Tryz.underlying55 hi hz0 hz1 hz2 rfl (by decide) _ 0 [] rfl (World.ownsRow_nil _ _ _ _) _ rfl k _ HF1.out (by intro u hu; obtain ⟨y, -, rfl⟩ := List.mem_map.1 hu; rfl) (by unfold maxLen; omega) (by omega) (Nat.le_refl _) ?_; intro v3 w3 hown3 hg3 hloc3; rw [Nat.zero_add, List.nil_append] at hown3; have HB3 := Lib.hid ((Below.refl w.heap.size w).grown hg3 (Nat.le_refl _) (fun k hk => by cases hk)); have hs3 := HB3.out.size; have HO3 := Lib.hid hown3; clear hg3 hown3 hloc3)
            | (at_builtin; refine wpList_append_own _ rfl (.tmp 39) (.tmp 41) 55 rfl w.heap.size 9 i0 (.string ByteArray.empty) 1 16 Tryz.underlying55 hi hz0 hz1 hz2 rfl (by decide) _ _ _ rfl (HO3.out.alloc _) ⟨w3.heap.size, 0, none⟩ 1 1 [Value.string x] rfl rfl (cell_one_new _ _ _) (by intro u hu; simp at hu; subst hu; rfl) (by unfold maxLen; omega) (by omega) (by simp; omega) ?_; intro v4 w4 hown4 hg4 hnil4; have HB4 := Lib.hid ((HB3.out.alloc hs3 _).grown hg4 (by simp; omega) (fun k hk => (HO3.out.lt k hk).1)); have hs4 := HB4.out.size; have HO4 := Lib.hid hown4; clear hg4 hown4 hnil4)
            | (at_builtin; refine wpList_append_fl _ rfl (.tmp 43) (.tmp 46) 55 9 rfl w.heap.size 1 16 i0 (.string ByteArray.empty) Tryz.underlying55 hi hz0 hz1 hz2 rfl (by decide) _ _ _ rfl HO4.out _ rfl (l.length - k) _ (HF2.out.below HB4.out) (by intro u hu; obtain ⟨y, -, rfl⟩ := List.mem_map.1 hu; rfl) (by unfold maxLen; omega) (by omega) hs4 ?_; intro v5 w5 hown5 hg5 hloc5; have HB5 := Lib.hid (HB4.out.grown hg5 hs4 (fun k hk => (HO4.out.lt k hk).1)); have HO5 := Lib.hid hown5; clear hg5 hown5 hloc5))
          rw [← HPP.out]
          refine ⟨⟨_, rfl, Sl_of (n := k + 1 + (l.length - k)) ?_ ?_⟩, HB5.out⟩
          · rw [HPF.out HM.out, List.map_append, List.map_cons]
            have h5 := Fl.of_own HO5.out
            rw [List.append_assoc] at h5
            exact h5
          · rw [HPF.out HM.out, List.length_append, List.length_cons, List.length_take, List.length_drop]; omega
      · have HM : Hid (x ∉ l) := fun hm => hkl (List.getElem?_eq_some_iff.1 (HG.out.1 hm)).1
        have hltI : ¬ ((k : Int) < (l.length : Int)) := by omega
        have hltD : decide (k < l.length) = false := decide_eq_false (by omega)
        obtain ⟨q1, cq1, hrun1, hf1⟩ := (Sl_fl HIS.out).cut (P := Tryz.prog) 55 9 i0 Tryz.underlying55 hi (i := k) hcl
        obtain ⟨q2, cq2, hrun2, hf2⟩ := (Sl_fl HIS.out).rest (P := Tryz.prog) 55 9 i0 Tryz.underlying55 hi hz1 (i := k) hcl
        rw [Nat.mul_one, ← List.map_take] at hf1
        rw [Nat.mul_one, ← List.map_drop] at hf2
        have HF1 := Lib.hid hf1
        have HF2 := Lib.hid hf2
        clear hf1 hf2
        go_wp2_with (first
          | (at_builtin; refine wpList_append_fl _ rfl (.tmp 34) (.tmp 37) 55 9 rfl w.heap.size 1 16 i0 (.string ByteArray.empty) Tryz.underlying55 hi hz0 hz1 hz2 rfl (by decide) _ 0 [] rfl (World.ownsRow_nil _ _ _ _) _ rfl k _ HF1.out (by intro u hu; obtain ⟨y, -, rfl⟩ := List.mem_map.1 hu; rfl) (by unfold maxLen; omega) (by omega) (Nat.le_refl _) ?_; intro v3 w3 hown3 hg3 hloc3; rw [Nat.zero_add, List.nil_append] at hown3; have HB3 := Lib.hid ((Below.refl w.heap.size w).grown hg3 (Nat.le_refl _) (fun k hk => by cases hk)); have hs3 := HB3.out.size; have HO3 := Lib.hid hown3; clear hg3 hown3 hloc3)
          | (at_builtin; refine wpList_append_own _ rfl (.tmp 39) (.tmp 41) 55 rfl w.heap.size 9 i0 (.string ByteArray.empty) 1 16 Tryz.underlying55 hi hz0 hz1 hz2 rfl (by decide) _ _ _ rfl (HO3.out.alloc _) ⟨w3.heap.size, 0, none⟩ 1 1 [Value.string x] rfl rfl (cell_one_new _ _ _) (by intro u hu; simp at hu; subst hu; rfl) (by unfold maxLen; omega) (by omega) (by simp; omega) ?_; intro v4 w4 hown4 hg4 hnil4; have HB4 := Lib.hid ((HB3.out.alloc hs3 _).grown hg4 (by simp; omega) (fun k hk => (HO3.out.lt k hk).1)); have hs4 := HB4.out.size; have HO4 := Lib.hid hown4; clear hg4 hown4 hnil4)
          | (at_builtin; refine wpList_append_fl _ rfl (.tmp 43) (.tmp 46) 55 9 rfl w.heap.size 1 16 i0 (.string ByteArray.empty) Tryz.underlying55 hi hz0 hz1 hz2 rfl (by decide) _ _ _ rfl HO4.out _ rfl (l.length - k) _ (HF2.out.below HB4.out) (by intro u hu; obtain ⟨y, -, rfl⟩ := List.mem_map.1 hu; rfl) (by unfold maxLen; omega) (by omega) hs4 ?_; intro v5 w5 hown5 hg5 hloc5; have HB5 := Lib.hid (HB4.out.grown hg5 hs4 (fun k hk => (HO4.out.lt k hk).1)); have HO5 := Lib.hid hown5; clear hg5 hown5 hloc5))
        rw [← HPP.out]
        refine ⟨⟨_, rfl, Sl_of (n := k + 1 + (l.length - k)) ?_ ?_⟩, HB5.out⟩
        · rw [HPF.out HM.out, List.map_append, List.map_cons]
          have h5 := Fl.of_own HO5.out
          rw [List.append_assoc] at h5
          exact h5
        · rw [HPF.out HM.out, List.length_append, List.length_cons, List.length_take, List.length_drop]; omega
end
section
open Go Go.RowKit
attribute [local go_sem ↓] Go.wp_at_zero Go.wp_at_succ

structure RG where
  key : ByteArray
  fil : ByteArray
  ids : List Int
  tn : Nat
  mv : Value
def RG.ag (g : RG) : AG := ⟨g.key, g.fil, g.ids, g.tn⟩
def RG.cells (g : RG) : List Value := [.string g.key, .string g.fil, g.mv, .int .i64 (g.tn : Int)]
def rowG (gs : List RG) : List Value := (gs.map RG.cells).flatten
theorem rowG_cons (g : RG) (gs : List RG) : rowG (g :: gs) = .string g.key :: .string g.fil :: g.mv :: .int .i64 (g.tn : Int) :: rowG gs := rfl
theorem rowG_append (a b : List RG) : rowG (a ++ b) = rowG a ++ rowG b := by unfold rowG; rw [List.map_append, List.flatten_append]
theorem rowG_len (gs : List RG) : (rowG gs).length = gs.length * 4 := by
  induction gs with
  | nil => rfl
  | cons g gs ih => rw [rowG_cons]; simp only [List.length_cons, ih]; omega
theorem rowG_at : ∀ {gs : List RG} {i : Nat} {g : RG}, gs[i]? = some g → (rowG gs)[i * 4]? = some (.string g.key) ∧ (rowG gs)[i * 4 + 1]? = some (.string g.fil) ∧ (rowG gs)[i * 4 + 2]? = some g.mv ∧ (rowG gs)[i * 4 + 3]? = some (.int .i64 (g.tn : Int))
  | [], _, _, h => by cases h
  | y :: gs, 0, g, h => by injection h with h; subst h; exact ⟨rfl, rfl, rfl, rfl⟩
  | y :: gs, i + 1, g, h => by
    have ih := rowG_at (gs := gs) (i := i) h
    rw [rowG_cons]
    rw [show (i + 1) * 4 = i * 4 + 1 + 1 + 1 + 1 by omega, show i * 4 + 1 + 1 + 1 + 1 + 1 = (i * 4 + 1) + 1 + 1 + 1 + 1 by omega, show i * 4 + 1 + 1 + 1 + 1 + 2 = (i * 4 + 2) + 1 + 1 + 1 + 1 by omega, show i * 4 + 1 + 1 + 1 + 1 + 3 = (i * 4 + 3) + 1 + 1 + 1 + 1 by omega]
    exact ih
theorem rowG_set2 : ∀ {gs : List RG} {i : Nat} {g : RG} (ids : List Int) (v : Value), gs[i]? = some g → (rowG gs).set (i * 4 + 2) v = rowG (gs.set i { g with ids := ids, mv := v })
  | [], _, _, _, _, h => by cases h
  | y :: gs, 0, g, _, _, h => by injection h with h; subst h; rfl
  | y :: gs, i + 1, g, ids, v, h => by
    have ih := rowG_set2 (gs := gs) (i := i) ids v h
    rw [rowG_cons, show (i + 1) * 4 + 2 = (i * 4 + 2) + 1 + 1 + 1 + 1 by omega]
    simp only [List.set_cons_succ, ih, rowG_cons]
theorem rowG_set3 : ∀ {gs : List RG} {i : Nat} {g : RG} (t : Nat), gs[i]? = some g → (rowG gs).set (i * 4 + 3) (.int .i64 (t : Int)) = rowG (gs.set i { g with tn := t })
  | [], _, _, _, h => by cases h
  | y :: gs, 0, g, _, h => by injection h with h; subst h; rfl
  | y :: gs, i + 1, g, t, h => by
    have ih := rowG_set3 (gs := gs) (i := i) t h
    rw [rowG_cons, show (i + 1) * 4 + 3 = (i * 4 + 3) + 1 + 1 + 1 + 1 by omega]
    simp only [List.set_cons_succ, ih, rowG_cons]
theorem rowG_take : ∀ (gs : List RG) (i : Nat), rowG (gs.take i) = (rowG gs).take (i * 4)
  | [], i => by simp [rowG]
  | g :: gs, 0 => by simp [rowG]
  | g :: gs, i + 1 => by
    rw [List.take_succ_cons, rowG_cons, rowG_cons, rowG_take gs i, show (i + 1) * 4 = i * 4 + 1 + 1 + 1 + 1 by omega]
    simp only [List.take_succ_cons]
theorem rowG_drop : ∀ (gs : List RG) (i : Nat), rowG (gs.drop i) = (rowG gs).drop (i * 4)
  | [], i => by simp [rowG]
  | g :: gs, 0 => by simp
  | g :: gs, i + 1 => by
    rw [List.drop_succ_cons, rowG_cons, rowG_drop gs i, show (i + 1) * 4 = i * 4 + 1 + 1 + 1 + 1 by omega]
    simp only [List.drop_succ_cons]
/-- the blocks of its own, but for the bodies' -/
def RF0 (rb : Nat) (vs vg vm : Value) (gs : List RG) (b : Nat) : Prop := b = rb ∨ vs.ownBlock = some b ∨ vg.ownBlock = some b ∨ vm.ownBlock = some b ∨ ∃ g ∈ gs, g.mv.ownBlock = some b
structure RHub (W : World) (base rb : Nat) (vs vg vm : Value) (l : Subs) (gs : List RG) (ms : List Mg) (KB : Nat → Prop) : Prop where
  box : W.heap[rb]? = some (.cells #[vs, vg, vm] 50 (0, 0))
  subs : W.ownsRow base 157 2 vs l.length (subCells l)
  grp : W.ownsRow base 122 4 vg gs.length (rowG gs)
  mem : ∀ g ∈ gs, W.ownsRow base 3 1 g.mv g.ids.length (g.ids.map (Value.int .i64))
  dis : ∀ (i j : Nat) (gi gj : RG) (b : Nat), gs[i]? = some gi → gs[j]? = some gj → i ≠ j → gi.mv.ownBlock = some b → gj.mv.ownBlock ≠ some b
  msgs : W.ownsRow base 36 13 vm ms.length (rowM ms)
  body : ∀ m ∈ ms, DvIn KB W m.f m.body m.t ∧ DvSm m.f m.t ∧ m.tp.size ≤ 1048576
  kb : ∀ b, KB b → base ≤ b ∧ b < W.heap.size ∧ ¬ RF0 rb vs vg vm gs b
  lo : base ≤ rb
theorem ty_eq {W : World} {b : Nat} {cs cs' : Array Value} {t t' : TypeId} {z z' : Nat × Nat} (h : W.heap[b]? = some (.cells cs t z)) (h' : W.heap[b]? = some (.cells cs' t' z')) : t = t' := by
  rw [h] at h'
  injection h' with h'
  injection h'
theorem rows_ne {W : World} {B B' k k' n n' : Nat} {e e' : TypeId} {v v' : Value} {cs cs' : List Value} (h : W.ownsRow B e k v n cs) (h' : W.ownsRow B' e' k' v' n' cs') (hne : e ≠ e') {b : Nat} (hb : v.ownBlock = some b) : v'.ownBlock ≠ some b := fun e2 => by
  obtain ⟨c1, h1⟩ := own_type h hb
  obtain ⟨c2, h2⟩ := own_type h' e2
  exact hne (ty_eq h1 h2)
section
variable {W W' : World} {base rb : Nat} {vs vg vm : Value} {l : Subs} {gs : List RG} {ms : List Mg} {KB : Nat → Prop}
theorem RHub.blt (h : RHub W base rb vs vg vm l gs ms KB) : rb < W.heap.size := (Array.getElem?_eq_some_iff.1 h.box).1
theorem RHub.lt (h : RHub W base rb vs vg vm l gs ms KB) {b : Nat} (hb : RF0 rb vs vg vm gs b) : base ≤ b ∧ b < W.heap.size := by
  rcases hb with rfl | hb | hb | hb | ⟨g, hg, hb⟩
  · exact ⟨h.lo, h.blt⟩
  · exact h.subs.lt b hb
  · exact h.grp.lt b hb
  · exact h.msgs.lt b hb
  · exact (h.mem g hg).lt b hb
theorem RHub.kept (h : RHub W base rb vs vg vm l gs ms KB) (hs : W.heap.size ≤ W'.heap.size) (hk : ∀ b, RF0 rb vs vg vm gs b ∨ KB b → W'.heap[b]? = W.heap[b]?) : RHub W' base rb vs vg vm l gs ms KB :=
  ⟨(hk rb (.inl (.inl rfl))).trans h.box, row_of_heap h.subs fun b hb => hk b (.inl (.inr (.inl hb))), row_of_heap h.grp fun b hb => hk b (.inl (.inr (.inr (.inl hb)))), fun g hg => row_of_heap (h.mem g hg) fun b hb => hk b (.inl (.inr (.inr (.inr (.inr ⟨g, hg, hb⟩))))),
    h.dis, row_of_heap h.msgs fun b hb => hk b (.inl (.inr (.inr (.inr (.inl hb))))), fun m hm => ⟨(h.body m hm).1.kept fun b hb _ => ⟨hk b (.inr hb), hb⟩, (h.body m hm).2⟩, fun b hb => ⟨(h.kb b hb).1, by have := (h.kb b hb).2.1; omega, (h.kb b hb).2.2⟩, h.lo⟩
theorem RHub.below (h : RHub W base rb vs vg vm l gs ms KB) (hb : Below W.heap.size W W') : RHub W' base rb vs vg vm l gs ms KB :=
  h.kept hb.size fun b hf => hb.block b (hf.elim (fun e => (h.lt e).2) fun e => (h.kb b e).2.1)
theorem RHub.off_box (h : RHub W base rb vs vg vm l gs ms KB) : vs.ownBlock ≠ some rb ∧ vg.ownBlock ≠ some rb ∧ vm.ownBlock ≠ some rb ∧ ∀ g ∈ gs, g.mv.ownBlock ≠ some rb := by
  refine ⟨fun e => ?_, fun e => ?_, fun e => ?_, fun g hg e => ?_⟩
  · obtain ⟨c, hc⟩ := own_type h.subs e; have := ty_eq hc h.box; revert this; decide
  · obtain ⟨c, hc⟩ := own_type h.grp e; have := ty_eq hc h.box; revert this; decide
  · obtain ⟨c, hc⟩ := own_type h.msgs e; have := ty_eq hc h.box; revert this; decide
  · obtain ⟨c, hc⟩ := own_type (h.mem g hg) e; have := ty_eq hc h.box; revert this; decide
theorem RHub.rl (h : RHub W base rb vs vg vm l gs ms KB) : RL W base rb vg vm vs l := ⟨h.box, h.subs, h.lo⟩
/-- the subscriptions turn -/
theorem RHub.subs_to {vs' : Value} {l' : Subs} (h : RHub W base rb vs vg vm l gs ms KB) (ht : RLTo W base rb vg vm vs l' W' vs') : RHub W' base rb vs' vg vm l' gs ms KB := by
  obtain ⟨o1, o2, o3, o4⟩ := h.off_box
  have keep : ∀ b, b < W.heap.size → b ≠ rb → vs.ownBlock ≠ some b → W'.heap[b]? = W.heap[b]? := fun b h1 h2 h3 => ht.fr.block b h1 fun e => e.elim h2 h3
  have hg : ∀ b, vg.ownBlock = some b → W'.heap[b]? = W.heap[b]? := fun b hb => keep b (h.grp.lt b hb).2 (fun e => o2 (e ▸ hb)) (rows_ne h.grp h.subs (by decide) hb)
  have hm : ∀ b, vm.ownBlock = some b → W'.heap[b]? = W.heap[b]? := fun b hb => keep b (h.msgs.lt b hb).2 (fun e => o3 (e ▸ hb)) (rows_ne h.msgs h.subs (by decide) hb)
  have hi : ∀ g ∈ gs, ∀ b, g.mv.ownBlock = some b → W'.heap[b]? = W.heap[b]? := fun g hgs b hb => keep b ((h.mem g hgs).lt b hb).2 (fun e => o4 g hgs (e ▸ hb)) (rows_ne (h.mem g hgs) h.subs (by decide) hb)
  refine ⟨ht.rl.box, ht.rl.row, row_of_heap h.grp hg, fun g hgs => row_of_heap (h.mem g hgs) (hi g hgs), h.dis, row_of_heap h.msgs hm, fun m hmm => ⟨(h.body m hmm).1.kept fun b hb _ => ⟨keep b (h.kb b hb).2.1 (fun e => (h.kb b hb).2.2 (.inl e)) (fun e => (h.kb b hb).2.2 (.inr (.inl e))), hb⟩, (h.body m hmm).2⟩, fun b hb => ?_, h.lo⟩
  obtain ⟨k1, k2, k3⟩ := h.kb b hb
  refine ⟨k1, by have := ht.fr.size; omega, fun e => k3 ?_⟩
  rcases e with e | e | e | e | e
  · exact .inl e
  · rcases ht.own b e with h1 | h1
    · exact .inr (.inl h1)
    · omega
  · exact .inr (.inr (.inl e))
  · exact .inr (.inr (.inr (.inl e)))
  · exact .inr (.inr (.inr (.inr e)))
end
/-- the reference's hub, and what it owns -/
def RefS (w0 W : World) (P : Nat → Prop) (rb : Nat) (st : HSt) (L : List AM) : Prop :=
  ∃ (vs vg vm : Value) (gs : List RG) (ms : List Mg) (KB : Nat → Prop), RHub W w0.heap.size rb vs vg vm st.1 gs ms KB ∧ gs.map RG.ag = st.2 ∧ ms.map Mg.am = L ∧ Owns w0 W P ∧ ∀ b, RF0 rb vs vg vm gs b ∨ KB b → P b
theorem RefS.owns {w0 W : World} {P : Nat → Prop} {rb : Nat} {st : HSt} {L : List AM} (h : RefS w0 W P rb st L) : Owns w0 W P := by
  obtain ⟨vs, vg, vm, gs, ms, KB, -, -, -, h1, -⟩ := h
  exact h1
theorem RefS.frame {w0 W W' : World} {P F : Nat → Prop} {rb : Nat} {st : HSt} {L : List AM} (h : RefS w0 W P rb st L) (hf : Frame F W W') (hF : ∀ b, P b → ¬ F b) : RefS w0 W' P rb st L := by
  obtain ⟨vs, vg, vm, gs, ms, KB, h1, h2, h3, h4, h5⟩ := h
  exact ⟨vs, vg, vm, gs, ms, KB, h1.kept hf.size fun b hb => hf.block b (h4.hi b (h5 b hb)) (hF b (h5 b hb)), h2, h3, h4.more hf.size, h5⟩
theorem RefS.below {w0 W W' : World} {P : Nat → Prop} {rb : Nat} {st : HSt} {L : List AM} (h : RefS w0 W P rb st L) (hb : Below W.heap.size W W') : RefS w0 W' P rb st L := h.frame (F := fun _ => False) (Frame.of_below hb) fun _ _ e => e
def RefD (w0 w : World) (P : Nat → Prop) (rb : Nat) (st : HSt) (L : List AM) (w' : World) : Prop := RefS w0 w' (Grow P w w') rb st L ∧ Frame P w w'
/-- what a change of the lists in memory leaves -/
theorem refD_of {w0 w W' : World} {P F : Nat → Prop} {rb : Nat} {vs vg vm vs' vg' vm' : Value} {gs gs' : List RG} {ms' : List Mg} {KB KB' : Nat → Prop} {st' : HSt} {L' : List AM} (h4 : Owns w0 w P) (h0 : w0.heap.size ≤ w.heap.size) (h5 : ∀ b, RF0 rb vs vg vm gs b ∨ KB b → P b)
    (h : RHub W' w0.heap.size rb vs' vg' vm' st'.1 gs' ms' KB') (hg : gs'.map RG.ag = st'.2) (hm : ms'.map Mg.am = L') (hf : Frame F w W') (hF : ∀ b, F b → RF0 rb vs vg vm gs b ∨ w.heap.size ≤ b) (hown : ∀ b, RF0 rb vs' vg' vm' gs' b ∨ KB' b → RF0 rb vs vg vm gs b ∨ KB b ∨ w.heap.size ≤ b) : RefD w0 w P rb st' L' W' := by
  refine ⟨⟨vs', vg', vm', gs', ms', KB', h, hg, hm, h4.grow h0 hf.size, fun b hb => ?_⟩, ⟨hf.os, hf.tape, hf.output, hf.size, fun b hb hP => hf.block b hb fun e => ?_⟩⟩
  · rcases hown b hb with h1 | h1 | h1
    · exact .inl (h5 b (.inl h1))
    · exact .inl (h5 b (.inr h1))
    · exact .inr ⟨h1, hb.elim (fun e => (h.lt e).2) fun e => (h.kb b e).2.1⟩
  · rcases hF b e with h1 | h1
    · exact hP (h5 b (.inl h1))
    · omega
/-- what the look for a group answers -/
def PlaceG (gs : List RG) (s : ByteArray) (r : Int) : Prop := (r = -1 ∧ ∀ g ∈ gs, g.key ≠ s) ∨ ∃ (i : Nat) (g : RG), r = (i : Nat) ∧ gs[i]? = some g ∧ g.key = s
def AtR (l : List Int) (x r : Int) : Prop := (r = -1 ∧ x ∉ l) ∨ ∃ i : Nat, r = (i : Nat) ∧ l[i]? = some x
theorem RHub.at_ {W : World} {base rb n c : Nat} {vs vm : Value} {q : Option Addr} {l : Subs} {gs : List RG} {ms : List Mg} {KB : Nat → Prop} (h : RHub W base rb vs (.slice q n c) vm l gs ms KB) {i : Nat} {x : RG} (hx : gs[i]? = some x) :
    ∃ g, q = some ⟨g, 0, none⟩ ∧ W.cell? ⟨g, i * 4, none⟩ = some (.string x.key) ∧ W.cell? ⟨g, i * 4 + 1, none⟩ = some (.string x.fil) ∧ W.cell? ⟨g, i * 4 + 2, none⟩ = some x.mv ∧ W.cell? ⟨g, i * 4 + 3, none⟩ = some (.int .i64 (x.tn : Int)) := by
  have hil := (List.getElem?_eq_some_iff.1 hx).1
  obtain ⟨a0, a1, a2, a3⟩ := rowG_at hx
  rcases h.grp.2 with ⟨-, h2⟩ | ⟨g, cap, cur, h2, h3, h4⟩
  · omega
  · injection h2 with e1 e2 e3
    subst e1
    have hc := h.grp.cells (g := g) rfl
    refine ⟨g, rfl, ?_, ?_, ?_, ?_⟩
    · have := hc _ _ a0; rw [flat_add, Nat.zero_add] at this; exact this
    · have := hc _ _ a1; rw [flat_add, Nat.zero_add] at this; exact this
    · have := hc _ _ a2; rw [flat_add, Nat.zero_add] at this; exact this
    · have := hc _ _ a3; rw [flat_add, Nat.zero_add] at this; exact this
theorem RHub.form {W : World} {base rb : Nat} {vs vg vm : Value} {l : Subs} {gs : List RG} {ms : List Mg} {KB : Nat → Prop} (h : RHub W base rb vs vg vm l gs ms KB) : ∃ q c, vg = .slice q gs.length c := (Fl.of_own h.grp).form
theorem RHub.cells {W : World} {base rb : Nat} {vs vg vm : Value} {l : Subs} {gs : List RG} {ms : List Mg} {KB : Nat → Prop} (h : RHub W base rb vs vg vm l gs ms KB) : W.cell? ⟨rb, 0, none⟩ = some vs ∧ W.cell? ⟨rb, 1, none⟩ = some vg ∧ W.cell? ⟨rb, 2, none⟩ = some vm := by
  refine ⟨?_, ?_, ?_⟩ <;> rw [cell_of_row _ _ _ _ _ _ h.box] <;> rfl
set_option maxRecDepth 100000 in
set_option maxHeartbeats 4000000 in
theorem group_any (w : World) (base rb : Nat) (vs vg vm : Value) (l : Subs) (gs : List RG) (ms : List Mg) (KB : Nat → Prop) (s : ByteArray) (h : RHub w base rb vs vg vm l gs ms KB) (hl : gs.length ≤ 100000000) :
    Calls Tryz.prog 78 #[.pointer (some ⟨rb, 0, none⟩), .string s] w fun e w' => (∃ r, e = .returned (.int .i64 r) ∧ PlaceG gs s r) ∧ Below w.heap.size w w' := by
  obtain ⟨PP, hPP⟩ : ∃ PP : Ending → World → Prop, (fun e w' => (∃ r, e = .returned (.int .i64 r) ∧ PlaceG gs s r) ∧ Below w.heap.size w w') = PP := ⟨_, rfl⟩
  rw [hPP]
  have HPP := Lib.hid hPP
  obtain ⟨q, c, rfl⟩ := h.form
  have HR := Lib.hid h
  clear hPP h
  go_enter Tryz.func78, Tryz.ntmps78
  go_wp2_with fail
  go_loopw [5] (fun s5 wr => ∃ i : Nat, s5 = .int .i64 (i : Nat) ∧ i ≤ gs.length ∧ Hid (∀ j g, j < i → gs[j]? = some g → g.key ≠ s) ∧ Hid (Below w.heap.size w wr)) (fun s5 _ => gs.length - (intOf s5).toNat)
  case atStart => exact ⟨0, rfl, Nat.zero_le _, fun j g h => absurd h (Nat.not_lt_zero j), Below.refl _ _⟩
  case round =>
    obtain ⟨i, rfl, hi, HN, HB⟩ := hrel
    have HR2 := Lib.hid (HR.out.below HB.out)
    have c1 := HR2.out.cells.2.1
    have hlb := HR2.out.blt
    by_cases hlt : i < gs.length
    · obtain ⟨x, hx⟩ : ∃ x, gs[i]? = some x := ⟨_, List.getElem?_eq_getElem hlt⟩
      obtain ⟨g, rfl, e0, -⟩ := HR2.out.at_ hx
      have hgl : g < wr.heap.size := World.block_lt_of_cell? wr _ e0
      have hltI : (i : Int) < (gs.length : Int) := by omega
      have hi0 : (0 : Int) ≤ (i : Int) := by omega
      have HX := Lib.hid hx
      clear hx
      by_cases hk : x.key = s
      · have e1 : (x.key.toList == s.toList) = true := is_same.2 hk
        have HK := Lib.hid hk
        clear hk
        go_wp2_with fail
        rw [← HPP.out]
        exact ⟨⟨_, rfl, .inr ⟨i, x, rfl, HX.out, HK.out⟩⟩, HB.out⟩
      · have e1 : (x.key.toList == s.toList) = false := by rw [← Bool.not_eq_true]; exact fun e => hk (is_same.1 e)
        have HK := Lib.hid hk
        clear hk
        go_wp2_with fail
        go_roundw
        case rel =>
          refine ⟨i + 1, by go_num, by omega, fun j g hj hg => ?_, HB.out⟩
          rcases Nat.lt_or_ge j i with h1 | h1
          · exact HN.out j g h1 hg
          · obtain rfl : j = i := by omega
            rw [HX.out] at hg
            injection hg with hg
            subst hg
            exact HK.out
        case measure => simp [intOf]; omega
    · have hltI : ¬ ((i : Int) < (gs.length : Int)) := by omega
      go_wp2_with fail
      rw [← HPP.out]
      refine ⟨⟨_, rfl, .inl ⟨rfl, fun g hg => ?_⟩⟩, HB.out⟩
      obtain ⟨j, hj, e⟩ := List.mem_iff_getElem.1 hg
      exact HN.out j g (by omega) (by rw [List.getElem?_eq_getElem hj, e])
set_option maxRecDepth 100000 in
set_option maxHeartbeats 4000000 in
theorem at30_any (w : World) (v : Value) (l : List Int) (x : Int) (h : IS w v l) :
    Calls Tryz.prog 79 #[v, .int .i64 x] w fun e w' => (∃ r, e = .returned (.int .i64 r) ∧ AtR l x r) ∧ Below w.heap.size w w' := by
  obtain ⟨PP, hPP⟩ : ∃ PP : Ending → World → Prop, (fun e w' => (∃ r, e = .returned (.int .i64 r) ∧ AtR l x r) ∧ Below w.heap.size w w') = PP := ⟨_, rfl⟩
  rw [hPP]
  have HPP := Lib.hid hPP
  obtain ⟨p, c, rfl, h1, h2, h3⟩ := h
  clear hPP
  go_enter Tryz.func79, Tryz.ntmps79
  go_wp2_with fail
  go_loopw [5] (fun s5 wr => ∃ i : Nat, s5 = .int .i64 (i : Nat) ∧ i ≤ l.length ∧ Hid (x ∉ l.take i) ∧ Hid (Below w.heap.size w wr)) (fun s5 _ => l.length - (intOf s5).toNat)
  case atStart => exact ⟨0, rfl, Nat.zero_le _, (show x ∉ l.take 0 by simp), Below.refl _ _⟩
  case round =>
    obtain ⟨i, rfl, hi, HN, HB⟩ := hrel
    by_cases hlt : i < l.length
    · obtain ⟨y, hy⟩ : ∃ y, l[i]? = some y := ⟨_, List.getElem?_eq_getElem hlt⟩
      obtain ⟨b1, o1, rfl, k1⟩ : ∃ b o, p = some ⟨b, o, none⟩ ∧ wr.cell? ⟨b, o + i, none⟩ = some (.int .i64 y) := by
        rcases h3 with h | ⟨b, o, rfl, h⟩
        · rw [h] at hlt; simp at hlt
        · exact ⟨b, o, rfl, (HB.out.cell (World.block_lt_of_cell? w _ (h i y hy))).trans (h i y hy)⟩
      have g1 : b1 < wr.heap.size := World.block_lt_of_cell? wr _ k1
      have hltI : (i : Int) < (l.length : Int) := by omega
      have hi0 : (0 : Int) ≤ (i : Int) := by omega
      have HY := Lib.hid hy
      clear hy h3
      by_cases hxy : y = x
      · have e1 : (y == x) = true := by simp [hxy]
        have HXY := Lib.hid hxy
        clear hxy
        go_wp2_with fail
        rw [← HPP.out]
        exact ⟨⟨_, rfl, .inr ⟨i, rfl, by rw [HY.out, HXY.out]⟩⟩, HB.out⟩
      · have e1 : (y == x) = false := by simp [hxy]
        have HXY := Lib.hid hxy
        clear hxy
        go_wp2_with fail
        go_roundw
        case rel =>
          refine ⟨i + 1, by go_num, by omega, ?_, HB.out⟩
          show x ∉ l.take (i + 1)
          rw [List.take_add_one, HY.out]
          intro hm
          rcases List.mem_append.1 hm with h | h
          · exact HN.out h
          · exact HXY.out (List.mem_singleton.1 h).symm
        case measure => simp [intOf]; omega
    · have hltI : ¬ ((i : Int) < (l.length : Int)) := by omega
      obtain rfl : i = l.length := by omega
      have HN2 : Hid (x ∉ l) := by have h := HN.out; rw [List.take_length] at h; exact h
      go_wp2_with fail
      rw [← HPP.out]
      exact ⟨⟨_, rfl, .inl ⟨rfl, HN2.out⟩⟩, HB.out⟩
end
section
open Go Go.RowKit

def Dis (gs : List RG) : Prop := ∀ (i j : Nat) (gi gj : RG) (b : Nat), gs[i]? = some gi → gs[j]? = some gj → i ≠ j → gi.mv.ownBlock = some b → gj.mv.ownBlock ≠ some b
section
variable {W WB w3 : World} {base rb : Nat} {vs vg vm vg' : Value} {l : Subs} {gs gs' : List RG} {ms : List Mg} {KB : Nat → Prop} {row : Option Nat}
/-- the row of groups is another one -/
theorem RHub.groups_to (h : RHub W base rb vs vg vm l gs ms KB) (hb : Below W.heap.size W WB) (hg : WB.grownBy w3 row) (hr : ∀ b, row = some b → vg.ownBlock = some b) (hrow : w3.ownsRow base 122 4 vg' gs'.length (rowG gs')) (hloc : ∀ b, vg'.ownBlock = some b → vg.ownBlock = some b ∨ W.heap.size ≤ b)
    (hmem : ∀ g ∈ gs', g ∈ gs ∨ (w3.ownsRow base 3 1 g.mv g.ids.length (g.ids.map (Value.int .i64)) ∧ ∀ b, g.mv.ownBlock = some b → W.heap.size ≤ b)) (hdis : Dis gs') :
    RHub (w3.setCell ⟨rb, 1, none⟩ vg') base rb vs vg' vm l gs' ms KB ∧ Frame (fun b => b = rb ∨ vg.ownBlock = some b) W (w3.setCell ⟨rb, 1, none⟩ vg') := by
  obtain ⟨o1, o2, o3, o4⟩ := h.off_box
  have hbl := h.blt
  have hsz := hb.size
  have k3 : ∀ b, b < W.heap.size → vg.ownBlock ≠ some b → w3.heap[b]? = W.heap[b]? := fun b h1 h2 => (hg.block b (by omega) fun e => h2 (hr b e.symm)).trans (hb.block b h1)
  have kS : ∀ b, b ≠ rb → (w3.setCell ⟨rb, 1, none⟩ vg').heap[b]? = w3.heap[b]? := fun b hb => Below.heap_setCell w3 ⟨rb, 1, none⟩ _ b hb
  have keep : ∀ b, b < W.heap.size → b ≠ rb → vg.ownBlock ≠ some b → (w3.setCell ⟨rb, 1, none⟩ vg').heap[b]? = W.heap[b]? := fun b h1 h2 h3 => (kS b h2).trans (k3 b h1 h3)
  have hbx : w3.heap[rb]? = some (.cells #[vs, vg, vm] 50 (0, 0)) := (k3 rb hbl o2).trans h.box
  have hgs : WB.heap.size ≤ w3.heap.size := hg.size
  have hs3 : (w3.setCell ⟨rb, 1, none⟩ vg').heap.size = w3.heap.size := World.size_setCell ..
  have hv' : vg'.ownBlock ≠ some rb := fun e => by
    rcases hloc rb e with h1 | h1
    · exact o2 h1
    · omega
  refine ⟨⟨heap_setCell_same w3 rb 1 _ _ _ hbx, row_of_heap h.subs fun b hb => keep b (h.subs.lt b hb).2 (fun e => o1 (e ▸ hb)) (rows_ne h.subs h.grp (by decide) hb), row_of_heap hrow fun b hb => kS b fun e => hv' (e ▸ hb), fun g hgg => ?_, hdis,
    row_of_heap h.msgs fun b hb => keep b (h.msgs.lt b hb).2 (fun e => o3 (e ▸ hb)) (rows_ne h.msgs h.grp (by decide) hb), fun m hm => ⟨(h.body m hm).1.kept fun b hb _ => ⟨keep b (h.kb b hb).2.1 (fun e => (h.kb b hb).2.2 (.inl e)) (fun e => (h.kb b hb).2.2 (.inr (.inr (.inl e)))), hb⟩, (h.body m hm).2⟩, fun b hb => ?_, h.lo⟩,
    hb.os ▸ hg.os ▸ rfl, hb.tape ▸ hg.tape ▸ rfl, hb.output ▸ hg.output ▸ rfl, by omega, fun b h1 h2 => keep b h1 (fun e => h2 (.inl e)) (fun e => h2 (.inr e))⟩
  · rcases hmem g hgg with h1 | ⟨h1, h2⟩
    · exact row_of_heap (h.mem g h1) fun b hb => keep b ((h.mem g h1).lt b hb).2 (fun e => o4 g h1 (e ▸ hb)) (rows_ne (h.mem g h1) h.grp (by decide) hb)
    · exact row_of_heap h1 fun b hb => kS b fun e => by have := h2 b hb; omega
  · obtain ⟨k1, k2, k4⟩ := h.kb b hb
    refine ⟨k1, by omega, fun e => ?_⟩
    rcases e with e | e | e | e | ⟨g, hgg, e⟩
    · exact k4 (.inl e)
    · exact k4 (.inr (.inl e))
    · rcases hloc b e with h1 | h1
      · exact k4 (.inr (.inr (.inl h1)))
      · omega
    · exact k4 (.inr (.inr (.inr (.inl e))))
    · rcases hmem g hgg with h1 | ⟨-, h2⟩
      · exact k4 (.inr (.inr (.inr (.inr ⟨g, h1, e⟩))))
      · have := h2 b e; omega
end
section
variable {W WB w3 : World} {base rb gb n cap i : Nat} {vs vm mv2 : Value} {l : Subs} {gs : List RG} {ms : List Mg} {KB : Nat → Prop} {row : Option Nat} {x : RG} {ids2 : List Int}
theorem row_block {base n cap gb k m : Nat} {e : TypeId} {W : World} {xs : List Value} (h : W.ownsRow base e k (.slice (some ⟨gb, 0, none⟩) n cap) m xs) : ∃ cur, W.heap[gb]? = some (.cells cur e (0, 0)) := own_type h rfl
/-- a group has other members -/
theorem RHub.member_to (h : RHub W base rb vs (.slice (some ⟨gb, 0, none⟩) n cap) vm l gs ms KB) (hx : gs[i]? = some x) (hb : Below W.heap.size W WB) (hg : WB.grownBy w3 row) (hr : ∀ b, row = some b → x.mv.ownBlock = some b)
    (hrow : w3.ownsRow base 3 1 mv2 ids2.length (ids2.map (Value.int .i64))) (hloc : ∀ b, mv2.ownBlock = some b → x.mv.ownBlock = some b ∨ W.heap.size ≤ b) :
    RHub (w3.setCell ⟨gb, i * 4 + 2, none⟩ mv2) base rb vs (.slice (some ⟨gb, 0, none⟩) n cap) vm l (gs.set i { x with ids := ids2, mv := mv2 }) ms KB ∧ Frame (fun b => b = gb ∨ x.mv.ownBlock = some b) W (w3.setCell ⟨gb, i * 4 + 2, none⟩ mv2) := by
  have hxm : x ∈ gs := List.mem_of_getElem? hx
  have hil := (List.getElem?_eq_some_iff.1 hx).1
  have hn : n = gs.length := by
    obtain ⟨q, c, e⟩ := h.form
    injection e
  have hmx := h.mem x hxm
  have hgbl : gb < W.heap.size := (h.grp.lt gb rfl).2
  have hsz := hb.size
  have hgs : WB.heap.size ≤ w3.heap.size := hg.size
  have hs3 : (w3.setCell ⟨gb, i * 4 + 2, none⟩ mv2).heap.size = w3.heap.size := World.size_setCell ..
  have xne : x.mv.ownBlock ≠ some gb := rows_ne h.grp hmx (by decide) rfl
  have k3 : ∀ b, b < W.heap.size → x.mv.ownBlock ≠ some b → w3.heap[b]? = W.heap[b]? := fun b h1 h2 => (hg.block b (by omega) fun e => h2 (hr b e.symm)).trans (hb.block b h1)
  have kS : ∀ b, b ≠ gb → (w3.setCell ⟨gb, i * 4 + 2, none⟩ mv2).heap[b]? = w3.heap[b]? := fun b hb => Below.heap_setCell w3 ⟨gb, i * 4 + 2, none⟩ _ b hb
  have keep : ∀ b, b < W.heap.size → b ≠ gb → x.mv.ownBlock ≠ some b → (w3.setCell ⟨gb, i * 4 + 2, none⟩ mv2).heap[b]? = W.heap[b]? := fun b h1 h2 h3 => (kS b h2).trans (k3 b h1 h3)
  have hgrp3 : w3.ownsRow base 122 4 (.slice (some ⟨gb, 0, none⟩) n cap) gs.length (rowG gs) := row_of_heap h.grp fun b hb => by
    injection hb with hb
    subst hb
    exact k3 _ hgbl xne
  have mvne : mv2.ownBlock ≠ some gb := fun e => by
    rcases hloc gb e with h1 | h1
    · exact xne h1
    · omega
  refine ⟨⟨(keep rb h.blt (fun e => h.off_box.2.1 (by rw [e]; rfl)) (h.off_box.2.2.2 x hxm)).trans h.box, row_of_heap h.subs fun b hb => keep b (h.subs.lt b hb).2 (fun e => rows_ne h.subs h.grp (by decide) hb (by rw [e]; rfl)) (rows_ne h.subs hmx (by decide) hb), ?_, fun g hgg => ?_, fun j k gj gk b hj hk hjk h1 h2 => ?_,
    row_of_heap h.msgs fun b hb => keep b (h.msgs.lt b hb).2 (fun e => rows_ne h.msgs h.grp (by decide) hb (by rw [e]; rfl)) (rows_ne h.msgs hmx (by decide) hb), fun m hm => ⟨(h.body m hm).1.kept fun b hb _ => ⟨keep b (h.kb b hb).2.1 (fun e => (h.kb b hb).2.2 (.inr (.inr (.inl (by rw [e]; rfl))))) (fun e => (h.kb b hb).2.2 (.inr (.inr (.inr (.inr ⟨x, hxm, e⟩))))), hb⟩, (h.body m hm).2⟩, fun b hb => ?_, h.lo⟩,
    hb.os ▸ hg.os ▸ rfl, hb.tape ▸ hg.tape ▸ rfl, hb.output ▸ hg.output ▸ rfl, by omega, fun b h1 h2 => keep b h1 (fun e => h2 (.inl e)) (fun e => h2 (.inr e))⟩
  · have hst := (World.ownsRow.stored (n := gs.length) (by rw [← hn]; rw [← hn] at hgrp3; exact hgrp3) (i * 4 + 2) mv2).1
    rw [rowG_set2 ids2 mv2 hx] at hst
    rw [List.length_set, hn]
    exact hst
  · obtain ⟨j, hj, e⟩ := List.mem_iff_getElem.1 hgg
    rw [List.length_set] at hj
    rw [List.getElem_set] at e
    by_cases hij : i = j
    · rw [if_pos hij] at e
      subst e
      exact row_of_heap hrow fun b hb => kS b fun e => mvne (e ▸ hb)
    · rw [if_neg hij] at e
      have hgj : gs[j]? = some g := by rw [List.getElem?_eq_getElem hj, e]
      have hgm := List.mem_of_getElem? hgj
      exact row_of_heap (h.mem g hgm) fun b hb => keep b ((h.mem g hgm).lt b hb).2 (fun e => rows_ne (h.mem g hgm) h.grp (by decide) hb (by rw [e]; rfl)) (h.dis j i g x b hgj hx (fun e => hij e.symm) hb)
  · rw [List.getElem?_set] at hj hk
    by_cases ij : i = j
    · rw [if_pos ij, if_pos (by omega)] at hj
      injection hj with hj
      subst hj
      have ik : ¬ i = k := fun e => hjk (ij.symm.trans e)
      rw [if_neg ik] at hk
      rcases hloc b h1 with h3 | h3
      · exact h.dis i k x gk b hx hk ik h3 h2
      · have := ((h.mem gk (List.mem_of_getElem? hk)).lt b h2).2; omega
    · rw [if_neg ij] at hj
      by_cases ik : i = k
      · rw [if_pos ik, if_pos (by omega)] at hk
        injection hk with hk
        subst hk
        rcases hloc b h2 with h3 | h3
        · exact h.dis j i gj x b hj hx (fun e => ij e.symm) h1 h3
        · have := ((h.mem gj (List.mem_of_getElem? hj)).lt b h1).2; omega
      · rw [if_neg ik] at hk
        exact h.dis j k gj gk b hj hk hjk h1 h2
  · obtain ⟨k1, k2, k4⟩ := h.kb b hb
    refine ⟨k1, by omega, fun e => ?_⟩
    rcases e with e | e | e | e | ⟨g, hgg, e⟩
    · exact k4 (.inl e)
    · exact k4 (.inr (.inl e))
    · exact k4 (.inr (.inr (.inl e)))
    · exact k4 (.inr (.inr (.inr (.inl e))))
    · obtain ⟨j, hj, ej⟩ := List.mem_iff_getElem.1 hgg
      rw [List.length_set] at hj
      rw [List.getElem_set] at ej
      by_cases hij : i = j
      · rw [if_pos hij] at ej
        subst ej
        rcases hloc b e with h1 | h1
        · exact k4 (.inr (.inr (.inr (.inr ⟨x, hxm, h1⟩))))
        · omega
      · rw [if_neg hij] at ej
        exact k4 (.inr (.inr (.inr (.inr ⟨g, by rw [← ej]; exact List.getElem_mem hj, e⟩))))
/-- a group's turn -/
theorem RHub.turn_to (h : RHub W base rb vs (.slice (some ⟨gb, 0, none⟩) n cap) vm l gs ms KB) (hx : gs[i]? = some x) (t : Nat) :
    RHub (W.setCell ⟨gb, i * 4 + 3, none⟩ (.int .i64 (t : Int))) base rb vs (.slice (some ⟨gb, 0, none⟩) n cap) vm l (gs.set i { x with tn := t }) ms KB ∧ Frame (fun b => b = gb) W (W.setCell ⟨gb, i * 4 + 3, none⟩ (.int .i64 (t : Int))) := by
  have hxm : x ∈ gs := List.mem_of_getElem? hx
  have hn : n = gs.length := by
    obtain ⟨q, c, e⟩ := h.form
    injection e
  have keep : ∀ b, b ≠ gb → (W.setCell ⟨gb, i * 4 + 3, none⟩ (.int .i64 (t : Int))).heap[b]? = W.heap[b]? := fun b hb => Below.heap_setCell W ⟨gb, i * 4 + 3, none⟩ _ b hb
  have hs3 : (W.setCell ⟨gb, i * 4 + 3, none⟩ (.int .i64 (t : Int))).heap.size = W.heap.size := World.size_setCell ..
  have hil := (List.getElem?_eq_some_iff.1 hx).1
  have old : ∀ (j : Nat) g, (gs.set i { x with tn := t })[j]? = some g → ∃ g0, gs[j]? = some g0 ∧ g.mv = g0.mv ∧ g.ids = g0.ids := fun j g hj => by
    rw [List.getElem?_set] at hj
    by_cases ij : i = j
    · rw [if_pos ij, if_pos (by omega)] at hj
      injection hj with hj
      subst hj
      exact ⟨x, ij ▸ hx, rfl, rfl⟩
    · rw [if_neg ij] at hj
      exact ⟨g, hj, rfl, rfl⟩
  refine ⟨⟨(keep rb (fun e => h.off_box.2.1 (by rw [e]; rfl))).trans h.box, row_of_heap h.subs fun b hb => keep b (fun e => rows_ne h.subs h.grp (by decide) hb (by rw [e]; rfl)), ?_, fun g hgg => ?_, fun j k gj gk b hj hk hjk h1 h2 => ?_,
    row_of_heap h.msgs fun b hb => keep b (fun e => rows_ne h.msgs h.grp (by decide) hb (by rw [e]; rfl)), fun m hm => ⟨(h.body m hm).1.kept fun b hb _ => ⟨keep b (fun e => (h.kb b hb).2.2 (.inr (.inr (.inl (by rw [e]; rfl))))), hb⟩, (h.body m hm).2⟩, fun b hb => ?_, h.lo⟩,
    rfl, rfl, rfl, by omega, fun b _ h2 => keep b h2⟩
  · have hst := (World.ownsRow.stored (n := gs.length) (by rw [← hn]; have := h.grp; rw [← hn] at this; exact this) (i * 4 + 3) (.int .i64 (t : Int))).1
    rw [rowG_set3 t hx] at hst
    rw [List.length_set, hn]
    exact hst
  · obtain ⟨j, hj, e⟩ := List.mem_iff_getElem.1 hgg
    obtain ⟨g0, k1, k2, k3⟩ := old j g (by rw [List.getElem?_eq_getElem hj, e])
    have hgm := List.mem_of_getElem? k1
    rw [k2, k3]
    exact row_of_heap (h.mem g0 hgm) fun b hb => keep b (fun e => rows_ne (h.mem g0 hgm) h.grp (by decide) hb (by rw [e]; rfl))
  · obtain ⟨a, a1, a2, -⟩ := old j gj hj
    obtain ⟨c, c1, c2, -⟩ := old k gk hk
    rw [a2] at h1
    rw [c2] at h2
    exact h.dis j k a c b a1 c1 hjk h1 h2
  · obtain ⟨k1, k2, k4⟩ := h.kb b hb
    refine ⟨k1, by omega, fun e => k4 ?_⟩
    rcases e with e | e | e | e | ⟨g, hgg, e⟩
    · exact .inl e
    · exact .inr (.inl e)
    · exact .inr (.inr (.inl e))
    · exact .inr (.inr (.inr (.inl e)))
    · obtain ⟨j, hj, ej⟩ := List.mem_iff_getElem.1 hgg
      obtain ⟨g0, c1, c2, -⟩ := old j g (by rw [List.getElem?_eq_getElem hj, ej])
      exact .inr (.inr (.inr (.inr ⟨g0, List.mem_of_getElem? c1, by rw [← c2]; exact e⟩)))
end
end
end Go.Proofs.YtincmegllckcjaaGreatDoor
