/- TRIE: act: one call, done to both. -/
import Derived.Test.YtflomcbclofbaaaGreatDoorTrieLawH
import Derived.Test.YtflomcbclofbaaaGreatDoorTrieRl
namespace Go.Proofs.YtflomcbclofbaaaGreatDoor
open Go Go.RowKit
attribute [local go_sem ↓] Go.wp_at_zero Go.wp_at_succ

section
variable {w0 W W' : World} {sz t rb : Nat} {T : List Nd} {v : Value} {l m : Subs}
theorem Two.keptT (h : Two w0 W sz t T rb v l m) (hf : Frame (fun b => b = t ∨ foot T b) W W') {b : Nat} {cs : Array Value} (hb : W.heap[b]? = some (.cells cs 48 (0, 0))) : W'.heap[b]? = some (.cells cs 48 (0, 0)) := by
  refine (hf.block b (Array.getElem?_eq_some_iff.1 hb).1 (fun e => ?_)).trans hb
  rcases e with rfl | e
  · obtain ⟨x, -, -, hb2⟩ := h.st.of_.tri.root
    rw [hb] at hb2
    injection hb2 with hb2
    injection hb2 with _ hb2 _
    revert hb2
    decide
  · exact not_foot h.st.of_.tri.is hb (by decide) (by decide) e
theorem Two.keptL {v' : Value} {m' : Subs} (h : Two w0 W sz t T rb v l m) (hr : RLTo W w0.heap.size rb v m' W' v') {b : Nat} {cs : Array Value} (hb : W.heap[b]? = some (.cells cs 48 (0, 0))) : W'.heap[b]? = some (.cells cs 48 (0, 0)) := by
  refine (hr.fr.block b (Array.getElem?_eq_some_iff.1 hb).1 (fun e => ?_)).trans hb
  rcases e with rfl | e
  · have hb2 := h.rl.box
    rw [hb] at hb2
    injection hb2 with hb2
    injection hb2 with _ hb2 _
    revert hb2
    decide
  · obtain ⟨cur, hb2⟩ := own_type h.rl.row e
    rw [hb] at hb2
    injection hb2 with hb2
    injection hb2 with _ hb2 _
    revert hb2
    decide
theorem act_add (h : Two w0 W sz t T rb v l m) (hT : Tabs w0) (f : ByteArray) (z : Int) (hf : f.size ≤ 1048576) (hsz : sz ≤ 50000000) (hl : l.length ≤ 100000000) {b : Nat} {cs : Array Value} (hb : W.heap[b]? = some (.cells cs 48 (0, 0))) :
    Calls Tryz.prog 9 #[.pointer (some ⟨t, 0, none⟩), .string f, .int .i64 z] W fun e w' => ∃ (ok : Bool) (T' : List Nd), e = .returned (.bool ok) ∧ (ok = true ↔ filterB f = true ∧ (f, z) ∉ l) ∧ Two w0 w' (sz + f.size + 2) t T' rb v (addS l f z) m ∧ w'.heap[b]? = some (.cells cs 48 (0, 0)) := by
  refine (tof_add f z h.st.of_ hf (h.st.tabs hT) hsz hl).mono ?_
  rintro e w' ⟨ok, T', rfl, h1, h2, h3, -⟩
  exact ⟨ok, T', rfl, h1, h.trie h3 h2, h.keptT h3 hb⟩
theorem act_remove (h : Two w0 W sz t T rb v l m) (hT : Tabs w0) (f : ByteArray) (z : Int) (hf : f.size ≤ 1048576) (hsz : sz ≤ 100000000) (hl : l.length ≤ 100000000) {b : Nat} {cs : Array Value} (hb : W.heap[b]? = some (.cells cs 48 (0, 0))) :
    Calls Tryz.prog 17 #[.pointer (some ⟨t, 0, none⟩), .string f, .int .i64 z] W fun e w' => ∃ (ok : Bool) (T' : List Nd), e = .returned (.bool ok) ∧ (ok = true ↔ (f, z) ∈ l) ∧ Two w0 w' sz t T' rb v (subS l f z) m ∧ w'.heap[b]? = some (.cells cs 48 (0, 0)) := by
  refine (tof_remove f z h.st.of_ hf (h.st.tabs hT) hsz hl).mono ?_
  rintro e w' ⟨ok, T', rfl, h1, h2, h3, -⟩
  exact ⟨ok, T', rfl, h1, h.trie h3 h2, h.keptT h3 hb⟩
theorem act_refAdd (h : Two w0 W sz t T rb v l m) (hT : Tabs w0) (f : ByteArray) (z : Int) (hf : f.size ≤ 1048576) (hl : m.length ≤ 100000000) {b : Nat} {cs : Array Value} (hb : W.heap[b]? = some (.cells cs 48 (0, 0))) :
    Calls Tryz.prog 22 #[.pointer (some ⟨rb, 0, none⟩), .string f, .int .i64 z] W fun e w' => ∃ (ok : Bool) (v' : Value), e = .returned (.bool ok) ∧ (ok = true ↔ filterB f = true ∧ (f, z) ∉ m) ∧ Two w0 w' sz t T rb v' l (addS m f z) ∧ w'.heap[b]? = some (.cells cs 48 (0, 0)) := by
  refine (refAdd_any W w0.heap.size rb v m f z h.rl (h.st.tabs hT) hf hl).mono ?_
  rintro e w' ⟨ok, v', rfl, h1, h2⟩
  exact ⟨ok, v', rfl, h1, h.list h2, h.keptL h2 hb⟩
theorem act_refRemove (h : Two w0 W sz t T rb v l m) (f : ByteArray) (z : Int) (hnd : m.Nodup) (hl : m.length ≤ 100000000) {b : Nat} {cs : Array Value} (hb : W.heap[b]? = some (.cells cs 48 (0, 0))) :
    Calls Tryz.prog 23 #[.pointer (some ⟨rb, 0, none⟩), .string f, .int .i64 z] W fun e w' => ∃ (ok : Bool) (v' : Value), e = .returned (.bool ok) ∧ (ok = true ↔ (f, z) ∈ m) ∧ Two w0 w' sz t T rb v' l (subS m f z) ∧ w'.heap[b]? = some (.cells cs 48 (0, 0)) := by
  refine (refRemove_any W w0.heap.size rb v m f z h.rl hnd hl).mono ?_
  rintro e w' ⟨ok, v', rfl, h1, h2⟩
  exact ⟨ok, v', rfl, h1, h.list h2, h.keptL h2 hb⟩
end
theorem bool_same {a b : Bool} {P : Prop} (h : a = true ↔ P) (k : b = true ↔ P) : a = b := by
  cases a with
  | true => exact (k.2 (h.1 rfl)).symm
  | false =>
    cases b with
    | true => exact h.2 (k.1 rfl)
    | false => rfl
theorem act_box {W : World} {ab : Nat} {k z : Int} {f : ByteArray} (h : W.heap[ab]? = some (.cells #[.int .i64 k, .string f, .int .i64 z] 48 (0, 0))) : W.cell? ⟨ab, 1, none⟩ = some (.string f) ∧ W.cell? ⟨ab, 2, none⟩ = some (.int .i64 z) := by
  exact ⟨by rw [cell_of_row _ _ _ _ _ _ h]; rfl, by rw [cell_of_row _ _ _ _ _ _ h]; rfl⟩
def ActR (w0 : World) (t rb : Nat) (N : Nat) (l : Subs) (r : Ending) (w' : World) : Prop := r = .returned (.bool true) ∧ ∃ sz T v', sz ≤ N ∧ Two w0 w' sz t T rb v' l l
set_option maxRecDepth 100000 in
set_option maxHeartbeats 8000000 in
theorem act_any (w0 W : World) (hT : Tabs w0) (sz t rb : Nat) (T : List Nd) (v : Value) (l : Subs) (k z : Int) (f : ByteArray) (h : Two w0 W sz t T rb v l l) (hk : Known l) (hf : f.size ≤ 1048576) (hz : sz ≤ 4000000) :
    Calls Tryz.prog 18 #[.pointer (some ⟨t, 0, none⟩), .pointer (some ⟨rb, 0, none⟩), .agg #[.int .i64 k, .string f, .int .i64 z]] W (ActR w0 t rb (sz + f.size + 2) (stepA l (k, f, z))) := by
  obtain ⟨PP, hPP⟩ : ∃ PP : Ending → World → Prop, (ActR w0 t rb (sz + f.size + 2) (stepA l (k, f, z))) = PP := ⟨_, rfl⟩
  rw [hPP]
  have HPP := Lib.hid hPP
  have HT := Lib.hid hT
  have HKN := Lib.hid hk
  have hA : Below W.heap.size W (W.alloc (.cells #[.int .i64 k, .string f, .int .i64 z] 48)) := (Below.refl _ _).alloc (Nat.le_refl _) _
  have HTW := Lib.hid (h.below hA)
  have HAB := Lib.hid (heap_alloc_new W (.cells #[.int .i64 k, .string f, .int .i64 z] 48))
  have hll := hk.len
  have htl := hk.tot
  have HFZ : Hid (∀ x ∈ l, x.1.size ≤ 900000) := fun x hx => Nat.le_trans (filter_size (hk.ok x hx)) (by omega)
  clear hPP h hk hT hA
  go_enter Tryz.func18, Tryz.ntmps18
  by_cases k1 : k = 1
  · have HST : Hid (stepA l (k, f, z) = addS l f z) := by unfold stepA; rw [if_pos k1]; exact rfl
    have t1 : (k == 1) = true := by simp [k1]
    obtain ⟨c1, c2⟩ := act_box HAB.out
    have hab : W.heap.size < (W.alloc (.cells #[.int .i64 k, .string f, .int .i64 z] 48)).heap.size := by simp
    clear k1
    go_wp2_with fail
    go_region_held3 (fun W' => W'.cell? ⟨W.heap.size, 1, none⟩ = some (.string f) ∧ W'.cell? ⟨W.heap.size, 2, none⟩ = some (.int .i64 z)) (first | exact ⟨c1, c2⟩ | with_reducible assumption | exact act_box HB5.out | exact act_box HB6.out | (exact ⟨c1, c2⟩)) (first
      | (go_at_call 9; ((refine (act_add (HTW.out.below (Below.refl _ _).drew) HT.out f z hf (by omega) (by omega) (b := W.heap.size) HAB.out).mono ?_); rintro e w5 ⟨ok5, T5, rfl, hok5, htw5, hb5⟩; have HTW5 := Lib.hid htw5; have HB5 := Lib.hid hb5; have HOK5 := Lib.hid hok5; clear hok5 htw5 hb5))
      | (go_at_call 22; ((refine (act_refAdd HTW5.out HT.out f z hf (by omega) HB5.out).mono ?_); rintro e w6 ⟨ok6, v6, rfl, hok6, htw6, hb6⟩; have HTW6 := Lib.hid htw6; have HB6 := Lib.hid hb6; have hoks := bool_same HOK5.out hok6; subst hoks; have hok7 : (ok5 == ok5) = true := (by simp); clear hok6 htw6 hb6)))
    all_goals
      go_simp
      go_wp2_with fail
      rw [← HPP.out]
      exact ⟨rfl, sz + f.size + 2, T5, v6, by omega, by rw [HST.out]; exact HTW6.out⟩
  · by_cases k2 : k = 2
    · have HST : Hid (stepA l (k, f, z) = subS l f z) := by unfold stepA; rw [if_neg k1, if_pos k2]; exact rfl
      have t1 : (k == 1) = false := by simp [k1]
      have t2 : (k == 2) = true := by simp [k2]
      obtain ⟨c1, c2⟩ := act_box HAB.out
      have hab : W.heap.size < (W.alloc (.cells #[.int .i64 k, .string f, .int .i64 z] 48)).heap.size := by simp
      clear k1 k2
      go_wp2_with fail
      go_region_held3 (fun W' => W'.cell? ⟨W.heap.size, 1, none⟩ = some (.string f) ∧ W'.cell? ⟨W.heap.size, 2, none⟩ = some (.int .i64 z)) (first | exact ⟨c1, c2⟩ | with_reducible assumption | exact act_box HB5.out | exact act_box HB6.out | (exact ⟨c1, c2⟩)) (first
        | (go_at_call 17; ((refine (act_remove (HTW.out.below (Below.refl _ _).drew) HT.out f z hf (by omega) (by omega) (b := W.heap.size) HAB.out).mono ?_); rintro e w5 ⟨ok5, T5, rfl, hok5, htw5, hb5⟩; have HTW5 := Lib.hid htw5; have HB5 := Lib.hid hb5; have HOK5 := Lib.hid hok5; clear hok5 htw5 hb5))
        | (go_at_call 23; ((refine (act_refRemove HTW5.out f z HKN.out.nd (by omega) HB5.out).mono ?_); rintro e w6 ⟨ok6, v6, rfl, hok6, htw6, hb6⟩; have HTW6 := Lib.hid htw6; have HB6 := Lib.hid hb6; have hoks := bool_same HOK5.out hok6; subst hoks; have hok7 : (ok5 == ok5) = true := (by simp); clear hok6 htw6 hb6)))
      all_goals
        go_simp
        go_wp2_with fail
        rw [← HPP.out]
        exact ⟨rfl, sz, T5, v6, by omega, by rw [HST.out]; exact HTW6.out⟩
    · by_cases k3 : k = 3
      · have HST : Hid (stepA l (k, f, z) = l) := by unfold stepA; rw [if_neg k1, if_neg k2]; exact rfl
        have t1 : (k == 1) = false := by simp [k1]
        have t2 : (k == 2) = false := by simp [k2]
        have t3 : (k == 3) = true := by simp [k3]
        obtain ⟨c1, c2⟩ := act_box HAB.out
        have hab : W.heap.size < (W.alloc (.cells #[.int .i64 k, .string f, .int .i64 z] 48)).heap.size := by simp
        clear k1 k2 k3
        go_wp2_with fail
        refine (st_match HTW.out.st HT.out f hf (by omega) HKN.out.wf (by omega)).mono ?_
        rintro e w3 ⟨v3, ids, rfl, hr3, hp3, hm3, hb3⟩
        obtain ⟨q3, c3, rfl⟩ := hr3.slice
        have hidl : ids.length ≤ l.length := rise_len2 hp3 fun y hy => by
          obtain ⟨g, h1, -⟩ := (hm3 y).1 hy
          exact ⟨g, h1⟩
        have HTW3 := Lib.hid (HTW.out.below hb3)
        have HI3 := Lib.hid hr3.is
        have HR3 := Lib.hid hr3
        have HP3 := Lib.hid hp3
        have HM3 := Lib.hid hm3
        have HB3 := Lib.hid hb3
        have d1 := (hb3.cell (p := ⟨W.heap.size, 1, none⟩) hab).trans c1
        have hab3 : W.heap.size < w3.heap.size := World.block_lt_of_cell? w3 _ d1
        clear hr3 hp3 hm3 hb3
        go_wp2_with fail
        refine (refListMatch_any w3 _ rb v l f HTW3.out.rl (by omega) (HTW3.out.st.tabs HT.out) hf (fun x hx => by have := HFZ.out x hx; omega)).mono ?_
        rintro e w4 ⟨⟨v4, ids4, rfl, hs4, hp4, -, hm4⟩, hb4⟩
        have HEQ : Hid (ids = ids4) := sorted_ext ord_int HP3.out hp4 fun y => (HM3.out y).trans (hm4 y).symm
        have HB4 := Lib.hid (HB3.out.trans (hb4.mono HB3.out.size))
        have HI4 := Lib.hid hs4
        have HI3b := Lib.hid (HI3.out.below hb4)
        have HR4 : Hid (IRow w4 (W.alloc (.cells #[.int .i64 k, .string f, .int .i64 z] 48)).heap.size (.slice q3 ids.length c3) ids) := row_of_heap HR3.out fun b hb => hb4.block b (World.ownsRow.lt HR3.out b hb).2
        clear hs4 hp4 hm4 hb4
        go_wp2_with fail
        refine (same_any w4 _ _ ids ids4 HI3b.out HI4.out).mono ?_
        rintro e w5 ⟨he5, hb5⟩
        have he5' : e = .returned (.bool true) := by rw [he5, HEQ.out]; simp
        subst he5'
        have HB5 := Lib.hid (HB4.out.trans (hb5.mono HB4.out.size))
        have HR5 : Hid (IRow w5 (W.alloc (.cells #[.int .i64 k, .string f, .int .i64 z] 48)).heap.size (.slice q3 ids.length c3) ids) := row_of_heap HR4.out fun b hb => hb5.block b (World.ownsRow.lt HR4.out b hb).2
        clear he5 hb5
        go_wp2_with fail
        go_loopw [9] (fun s9 wr => ∃ (i : Nat), s9 = .int .i64 (i : Nat) ∧ i ≤ ids.length ∧ Hid (Below (W.alloc (.cells #[.int .i64 k, .string f, .int .i64 z] 48)).heap.size (W.alloc (.cells #[.int .i64 k, .string f, .int .i64 z] 48)) wr) ∧ Hid (∀ g, q3 = some ⟨g, 0, none⟩ → ∃ cur : Array Value, wr.heap[g]? = some (.cells cur 3 (0, 0)) ∧ ids.length ≤ cur.size)) (fun s9 _ => ids.length - (intOf s9).toNat)
        case atStart =>
          refine ⟨0, rfl, Nat.zero_le _, HB5.out, fun g hg => ?_⟩
          rcases HR5.out.2 with ⟨h1, -⟩ | ⟨g', cap, cur, h1, -, h2, h3, -, h5, -⟩
          · injection h1 with h1; rw [hg] at h1; cases h1
          · injection h1 with h1
            rw [hg] at h1
            injection h1 with h1
            injection h1 with h1
            subst h1
            have h3' : ids.length ≤ cap := h3
            have h5' : cur.size = cap * 1 := h5
            exact ⟨cur, h2, by omega⟩
        case round =>
          obtain ⟨i, rfl, hi, hB, hC⟩ := hrel
          by_cases hlt : i < ids.length
          · obtain ⟨g, rfl, hgb⟩ : ∃ g, q3 = some ⟨g, 0, none⟩ ∧ (W.alloc (.cells #[.int .i64 k, .string f, .int .i64 z] 48)).heap.size ≤ g := by
              rcases HR5.out.2 with ⟨h1, h2⟩ | ⟨g', cap, cur, h1, h3, -⟩
              · have h2' : ids.length = 0 := h2
                omega
              · injection h1 with h1; exact ⟨g', h1, h3⟩
            obtain ⟨cur, hg, hcs⟩ := hC.out g rfl
            have hgl : g < wr.heap.size := (Array.getElem?_eq_some_iff.1 hg).1
            have hfz := frozen_of_row wr g i _ _ hg
            obtain ⟨x, hx⟩ : ∃ x, wr.cell? ⟨g, i, none⟩ = some x := by
              rw [cell_of_row wr g i _ _ _ hg]
              exact ⟨_, Array.getElem?_eq_getElem (by omega)⟩
            have hltI : (i : Int) < (ids.length : Int) := by omega
            have hi0 : (0 : Int) ≤ (i : Int) := by omega
            have HG := Lib.hid hg
            clear hg
            go_wp2_with fail
            go_roundw
            case rel =>
              refine ⟨i + 1, by go_num, by omega, hB.out.setCell (p := ⟨g, i, none⟩) hgb _, fun g' hg' => ?_⟩
              injection hg' with hg'
              injection hg' with hg'
              subst hg'
              exact ⟨_, heap_setCell_same wr g i _ _ _ HG.out, by simp; omega⟩
            case measure => simp [intOf]; omega
          · have hltI : ¬ ((i : Int) < (ids.length : Int)) := by omega
            go_wp2_with fail
            rw [← HPP.out]
            exact ⟨rfl, sz, T, v, by omega, by rw [HST.out]; exact HTW.out.below hB.out⟩
      · by_cases k4 : k = 4
        · have HST : Hid (stepA l (k, f, z) = l) := by unfold stepA; rw [if_neg k1, if_neg k2]; exact rfl
          have t1 : (k == 1) = false := by simp [k1]
          have t2 : (k == 2) = false := by simp [k2]
          have t3 : (k == 3) = false := by simp [k3]
          have t4 : (k == 4) = true := by simp [k4]
          obtain ⟨c1, c2⟩ := act_box HAB.out
          have hab : W.heap.size < (W.alloc (.cells #[.int .i64 k, .string f, .int .i64 z] 48)).heap.size := by simp
          have HK : Hid (∀ W', Below (W.alloc (.cells #[.int .i64 k, .string f, .int .i64 z] 48)).heap.size (W.alloc (.cells #[.int .i64 k, .string f, .int .i64 z] 48)) W' → W'.cell? ⟨W.heap.size, 1, none⟩ = some (.string f) ∧ Below (W.alloc (.cells #[.int .i64 k, .string f, .int .i64 z] 48)).heap.size (W.alloc (.cells #[.int .i64 k, .string f, .int .i64 z] 48)) W') := fun W' hb => ⟨(hb.cell (p := ⟨W.heap.size, 1, none⟩) hab).trans c1, hb⟩
          clear k1 k2 k3 k4
          go_wp2_with fail
          go_region_held3 (fun W' => W'.cell? ⟨W.heap.size, 1, none⟩ = some (.string f) ∧ Below (W.alloc (.cells #[.int .i64 k, .string f, .int .i64 z] 48)).heap.size (W.alloc (.cells #[.int .i64 k, .string f, .int .i64 z] 48)) W') (first | exact HK.out _ (Below.refl _ _) | exact HK.out _ (Below.refl _ _).drew | with_reducible assumption | exact HK.out _ (by with_reducible assumption) | exact HK.out _ (Below.drew (by with_reducible assumption))) (first
            | (go_at_call 20; ((refine (tof_under f (HTW.out.below (Below.refl _ _).drew).st.of_ hf ((HTW.out.below (Below.refl _ _).drew).st.tabs HT.out) (by omega)).mono ?_); rintro e w5 ⟨v5, ids5, rfl, hr5, hp5, hm5, hb5'⟩; have hb5 : Below (W.alloc (.cells #[.int .i64 k, .string f, .int .i64 z] 48)).heap.size (W.alloc (.cells #[.int .i64 k, .string f, .int .i64 z] 48)) w5 := (Below.refl _ _).drew.trans hb5'; clear hb5'; have hs5 := hr5.is; obtain ⟨q5, c5, rfl⟩ := (IS_fl hs5).form; clear hr5))
            | (go_at_call 41; ((refine (refListUnder_any _ _ rb v l f (HTW.out.below hb5).rl (by omega)).mono ?_); rintro e w6 ⟨⟨v6, ids6, rfl, hs6, hp6, -, hm6⟩, hb6⟩; have hw6 := hb5.trans (hb6.mono hb5.size); have heq : ids5 = ids6 := sorted_ext ord_int hp5 hp6 (fun y => (hm5 y).trans (Iff.trans (Iff.intro (fun h => ⟨f, h, rfl⟩) (fun ⟨g, h1, h2⟩ => h2 ▸ h1)) (hm6 y).symm)); have HS5 := Lib.hid (hs5.below hb6); have HS6 := Lib.hid hs6; have HEQ := Lib.hid heq; clear hs5 hp5 hm5 hs6 hp6 hm6 hb6 heq))
            | (go_at_call 10; refine (same_any _ _ _ _ _ HS5.out HS6.out).mono ?_; rintro e w7 ⟨he7, hb7⟩; have he7' : e = .returned (.bool true) := (by rw [he7, HEQ.out]; simp); subst he7'; have hw7 := hw6.trans (hb7.mono hw6.size); clear he7 hb7))
          all_goals
            have HO7 := Lib.hid (HTW.out.below hw7)
            clear hb5 hw6 hw7
            go_simp
            go_wp2_with fail
            rw [← HPP.out]
            exact ⟨rfl, sz, T, v, by omega, by rw [HST.out]; exact HO7.out⟩
        · by_cases k5 : k = 5
          · have HST : Hid (stepA l (k, f, z) = l) := by unfold stepA; rw [if_neg k1, if_neg k2]; exact rfl
            have t1 : (k == 1) = false := by simp [k1]
            have t2 : (k == 2) = false := by simp [k2]
            have t3 : (k == 3) = false := by simp [k3]
            have t4 : (k == 4) = false := by simp [k4]
            have t5 : (k == 5) = true := by simp [k5]
            obtain ⟨c1, c2⟩ := act_box HAB.out
            have hab : W.heap.size < (W.alloc (.cells #[.int .i64 k, .string f, .int .i64 z] 48)).heap.size := by simp
            clear k1 k2 k3 k4 k5
            go_wp2_with fail
            refine (whole_any _ _ _ sz t rb T v l l HTW.out.st.of_ HTW.out.rl (fun x => Iff.rfl) HKN.out.nd hll htl htl HFZ.out).mono ?_
            rintro e w7 ⟨rfl, hb7⟩
            have HO7 := Lib.hid (HTW.out.below hb7)
            clear hb7
            go_wp2_with fail
            rw [← HPP.out]
            exact ⟨rfl, sz, T, v, by omega, by rw [HST.out]; exact HO7.out⟩
          · have HST : Hid (stepA l (k, f, z) = l) := by unfold stepA; rw [if_neg k1, if_neg k2]; exact rfl
            have t1 : (k == 1) = false := by simp [k1]
            have t2 : (k == 2) = false := by simp [k2]
            have t3 : (k == 3) = false := by simp [k3]
            have t4 : (k == 4) = false := by simp [k4]
            have t5 : (k == 5) = false := by simp [k5]
            obtain ⟨c1, c2⟩ := act_box HAB.out
            have hab : W.heap.size < (W.alloc (.cells #[.int .i64 k, .string f, .int .i64 z] 48)).heap.size := by simp
            clear k1 k2 k3 k4 k5
            go_wp2_with fail
            rw [← HPP.out]
            exact ⟨rfl, sz, T, v, by omega, by rw [HST.out]; exact HTW.out⟩
end Go.Proofs.YtflomcbclofbaaaGreatDoor
