/- THE LAW ShareFull: a group has so many members at most. THE LAW ShareFair: of any row of messages each member gets as many as any other one, or one more or less. -/
import Derived.Test.YtincmegllckcjaaGreatDoorMShareWays
import Derived.Test.YtincmegllckcjaaGreatDoorMTrieAwake
import Derived.Deep.QuietTactic
import Derived.BigQuiet
import Derived.Laws.MakeOwn
namespace Go.Proofs.YtincmegllckcjaaGreatDoor
section
open Go Go.RowKit
attribute [local go_sem ↓] Go.wp_at_zero Go.wp_at_succ

def idsL (id : Int) (n : Nat) : List Int := (List.range n).map fun j : Nat => wrap64 (id + j)
theorem idsL_succ (id : Int) (n : Nat) : idsL id (n + 1) = idsL id n ++ [wrap64 (id + n)] := by
  unfold idsL
  rw [List.range_succ, List.map_append]
  rfl
theorem idsL_len (id : Int) (n : Nat) : (idsL id n).length = n := by unfold idsL; rw [List.length_map, List.length_range]
theorem wrap_ne {id : Int} {a b : Nat} (h : a ≠ b) (ha : a ≤ 1000) (hb : b ≤ 1000) : wrap64 (id + a) ≠ wrap64 (id + b) := by unfold wrap64; omega
theorem idsL_new {id : Int} {n : Nat} (hn : n ≤ 1000) : wrap64 (id + n) ∉ idsL id n := by
  intro h
  obtain ⟨j, hj, e⟩ := List.mem_map.1 h
  have := List.mem_range.1 hj
  exact wrap_ne (by omega) (by omega) hn e
theorem idsL_first {id : Int} (h : wrap64 id = id) : ∀ n, idsL id (n + 1) = id :: idsL (id + 1) n := by
  intro n
  unfold idsL
  rw [List.range_succ_eq_map, List.map_cons, List.map_map]
  refine List.cons_eq_cons.2 ⟨?_, List.map_congr_left fun j _ => ?_⟩
  · rw [show ((0 : Nat) : Int) = 0 from rfl, Int.add_zero, h]
  · show wrap64 (id + ((j + 1 : Nat) : Int)) = wrap64 (id + 1 + (j : Int))
    rw [show id + ((j + 1 : Nat) : Int) = id + 1 + (j : Int) by omega]
def fullG (ids : List Int) : List AG := if ids = [] then [] else [⟨kM, nA, ids, 0⟩]
theorem full_join {id : Int} {n : Nat} (hn : n < 256) : joinA ([], fullG (idsL id n)) kM (wrap64 (id + n)) = (true, [], fullG (idsL id (n + 1))) := by
  have hs : fullG (idsL id (n + 1)) = [⟨kM, nA, idsL id n ++ [wrap64 (id + n)], 0⟩] := by
    rw [idsL_succ]
    unfold fullG
    rw [if_neg (by simp)]
  rw [hs]
  by_cases h0 : n = 0
  · subst h0
    exact joinA_new split_M (by decide) rfl
  · have e : fullG (idsL id n) = [⟨kM, nA, idsL id n, 0⟩] := by
      unfold fullG
      rw [if_neg fun e => h0 (by have := congrArg List.length e; rw [idsL_len] at this; exact this)]
    rw [e]
    exact joinA_in (a := ⟨kM, nA, idsL id n, 0⟩) split_M (by decide) rfl (idsL_new (by omega)) (by rw [idsL_len]; exact hn)
def G1 (ids : List Int) (t : Nat) : List AG := [⟨kM, nA, ids, t⟩]
theorem full_is (id : Int) : fullG (idsL id 256) = G1 (idsL id 256) 0 := by
  unfold fullG G1
  rw [if_neg fun e => by have := congrArg List.length e; rw [idsL_len] at this; exact absurd this (by decide)]
theorem full_no {ids : List Int} (hl : ids.length = 256) (x : Int) : joinA ([], G1 ids 0) kM x = (false, [], G1 ids 0) := joinA_no (a := ⟨kM, nA, ids, 0⟩) split_M (by decide) rfl (.inr (by show 256 ≤ ids.length; omega))
def G2 (ids : List Int) (id : Int) : List AG := [⟨kM, nA, ids, 0⟩, ⟨kN, nA, [id], 0⟩]
theorem full_two (ids : List Int) (id : Int) : joinA ([], G1 ids 0) kN id = (true, [], G2 ids id) := joinA_new split_N (by decide) (by
  unfold G1 findA
  rw [List.find?_cons]
  rfl)
theorem filt_a : filterB nA = true := by decide +kernel
theorem full_plain (ids : List Int) (id x : Int) : joinA ([], G2 ids id) nA x = (true, [(nA, x)], G2 ids id) := joinA_plain split_a filt_a (by simp)
theorem leaveA_first {st : Subs} {l : List Int} {id x : Int} (hl : l.length = 255) : leaveA (st, G2 (id :: l) x) kM id = (true, st, G2 l x) := by
  unfold leaveA
  rw [split_M]
  show (if bG.size = 0 then _ else _) = _
  rw [if_neg (by decide)]
  have e : findA (G2 (id :: l) x) kM = some ⟨kM, nA, id :: l, 0⟩ := rfl
  rw [e]
  show (if id ∈ id :: l then _ else _) = _
  rw [if_pos (List.mem_cons_self ..), if_neg (by show ¬ (id :: l).length = 1; rw [List.length_cons, hl]; decide)]
  have e0 : (id :: l).idxOf id = 0 := by simp
  have e1 : (id :: l).length = 256 := by rw [List.length_cons, hl]
  refine congrArg (fun y => (true, st, y)) ?_
  show setA (G2 (id :: l) x) kM ⟨kM, nA, (id :: l).eraseIdx ((id :: l).idxOf id), turnL 0 ((id :: l).idxOf id) (id :: l).length⟩ = _
  rw [e0, e1]
  rfl
theorem full_again {x y : Int} {l : List Int} (hl : l.length = 255) (hy : y ∉ l) (m : Int) : joinA ([(nA, m)], G2 l x) kM y = (true, [(nA, m)], G2 (l ++ [y]) x) := by
  rw [joinA_in (a := ⟨kM, nA, l, 0⟩) split_M (by decide) rfl hy (by show l.length < 256; omega)]
  rfl
theorem sortS_two {a b : ByteArray} (h : ltB a b) : sortS [a, b] = [a, b] := by
  have hn : a ≠ b := fun e => by subst e; exact ord_text.ir _ h
  refine sorted_ext ord_text (sortS_rising ?_) (List.pairwise_pair.2 h) fun y => mem_sortS
  rw [List.nodup_cons, List.mem_singleton]
  exact ⟨hn, List.nodup_cons.2 ⟨by simp, List.nodup_nil⟩⟩
theorem full_send {ids0 out : List Int} {l : List Int} {x m : Int} {st' : HSt} (h : SendA ([(nA, m)], G2 l x) nA ids0 out st') : out.length = 3 := by
  have hf : (keysA (G2 l x)).foldl (sendOne nA) (G2 l x, [m]) = ([⟨kM, nA, l, nextI l.length 0⟩, ⟨kN, nA, [x], 0⟩], [m, l.getD 0 0, x]) := by
    have hk : keysA (G2 l x) = [kM, kN] := by unfold keysA; rw [show (G2 l x).map (·.key) = [kM, kN] from rfl]; exact sortS_two (by unfold ltB; decide +kernel)
    rw [hk]
    have hm : matchB nA nA = true := by decide +kernel
    have f1 : findA (G2 l x) kM = some ⟨kM, nA, l, 0⟩ := rfl
    have s1 : sendOne nA (G2 l x, [m]) kM = (setA (G2 l x) kM ⟨kM, nA, l, nextI l.length 0⟩, [m] ++ [l.getD 0 0]) := by
      unfold sendOne
      rw [show findA (G2 l x, [m]).1 kM = some ⟨kM, nA, l, 0⟩ from f1]
      exact if_pos hm
    have e1 : setA (G2 l x) kM ⟨kM, nA, l, nextI l.length 0⟩ = [⟨kM, nA, l, nextI l.length 0⟩, ⟨kN, nA, [x], 0⟩] := rfl
    have f2 : findA [⟨kM, nA, l, nextI l.length 0⟩, ⟨kN, nA, [x], 0⟩] kN = some ⟨kN, nA, [x], 0⟩ := rfl
    show sendOne nA (sendOne nA (G2 l x, [m]) kM) kN = _
    rw [s1, e1]
    unfold sendOne
    rw [show findA (([⟨kM, nA, l, nextI l.length 0⟩, ⟨kN, nA, [x], 0⟩], [m] ++ [l.getD 0 0]) : List AG × List Int).1 kN = some ⟨kN, nA, [x], 0⟩ from f2]
    exact if_pos hm
  have h1 := sendA_to (l := [m]) h (fun y hy => by rw [List.mem_singleton] at hy; subst hy; exact filt_a) (List.pairwise_singleton ..) (fun z => by
    rw [List.mem_singleton]
    constructor
    · rintro rfl; exact ⟨nA, List.mem_singleton.2 rfl, by decide +kernel⟩
    · rintro ⟨f, hf2, -⟩
      rw [List.mem_singleton] at hf2
      injection hf2) (by decide +kernel) hf
  rw [h1.2]
  rfl
set_option maxRecDepth 100000 in
set_option maxHeartbeats 8000000 in
theorem shareFull_any (w : World) (hT : Tabs w) (id more : Int) (hi : (Lit.int .i64 id).wf = true) (hm : (Lit.int .i64 more).wf = true) :
    Calls Tryz.prog 6 #[.int .i64 id, .int .i64 more] w fun e w' => e = .returned (.bool true) ∧ Below w.heap.size w w' := by
  obtain ⟨PP, hPP⟩ : ∃ PP : Ending → World → Prop, (fun e w' => e = .returned (.bool true) ∧ Below w.heap.size w w') = PP := ⟨_, rfl⟩
  rw [hPP]
  have HPP := Lib.hid hPP
  have HT := Lib.hid hT
  have HI := Lib.hid hi
  have HM := Lib.hid hm
  have hid : wrap64 id = id := by have h1 := bounds_i64 hi; unfold wrap64; omega
  have HID := Lib.hid hid
  clear hPP hi hm hid
  go_enter Tryz.func6, Tryz.ntmps6
  go_wp2_with (go_at_call 9; refine (sh_new w).mono ?_; rintro e w1 ⟨hb, rfl, h1, -⟩)
  have HO1 := Lib.hid h1
  clear h1 hT
  go_wp2_with fail
  go_loopw [6] (fun s6 wr => ∃ i : Nat, s6 = .int .i64 (i : Nat) ∧ i ≤ 256 ∧ Hid (ShS w wr hb ([], fullG (idsL id i)) [] (i * 12) i 0)) (fun s6 _ => 256 - (intOf s6).toNat)
  case atStart => exact ⟨0, rfl, by omega, HO1.out⟩
  case round =>
    obtain ⟨i, rfl, hi, HO⟩ := hrel
    by_cases hlt : i < 256
    · have hltI : (i : Int) < 256 := by omega
      go_wp2_with fail
      refine (sh_join HO.out HT.out kM (wrap64 (id + i)) (by decide) (wrap64_wf _) (by omega) (by simp) (by omega)).mono ?_
      rw [full_join hlt]
      rintro e w3 ⟨rfl, h3⟩
      have HO3 : Hid (ShS w w3 hb ([], fullG (idsL id (i + 1))) [] ((i + 1) * 12) (i + 1) 0) := by
        obtain ⟨⟨P, hP⟩, hB⟩ := h3
        exact ⟨⟨P, hP.more (by show i * 12 + 10 + 2 ≤ (i + 1) * 12; omega) (by omega) (by omega)⟩, hB⟩
      clear h3
      go_wp2_with fail
      go_roundw
      case rel => exact ⟨i + 1, by go_num, by omega, HO3.out⟩
      case measure => simp [intOf]; omega
    · obtain rfl : i = 256 := by omega
      rw [full_is] at HO
      obtain ⟨l, hl⟩ : ∃ l, idsL (id + 1) 255 = l := ⟨_, rfl⟩
      have hids : idsL id 256 = id :: l := by rw [← hl]; exact idsL_first HID.out 255
      have hll : l.length = 255 := by rw [← hl, idsL_len]
      have HNW := Lib.hid (show wrap64 (id + 256) ∉ l from fun h => idsL_new (id := id) (n := 256) (by omega) (by rw [hids]; exact List.mem_cons_of_mem _ h))
      rw [hids] at HO
      have HLL := Lib.hid hll
      clear hids hl hll
      go_wp2_with fail
      refine (sh_join HO.out HT.out kM (wrap64 (id + 256)) (by decide) (wrap64_wf _) (by omega) (by simp) (by omega)).mono ?_
      rw [full_no (by rw [List.length_cons, HLL.out])]
      rintro e w3 ⟨rfl, h3⟩
      have HO3 := Lib.hid h3
      clear h3
      go_wp2_with fail
      refine (sh_join HO3.out HT.out kM id (by decide) HI.out (by decide) (by simp) (by omega)).mono ?_
      rw [full_no (by rw [List.length_cons, HLL.out])]
      rintro e w4 ⟨rfl, h4⟩
      have HO4 := Lib.hid h4
      clear h4
      go_wp2_with fail
      refine (sh_join HO4.out HT.out kN id (by decide) HI.out (by decide) (by simp) (by omega)).mono ?_
      rw [full_two]
      rintro e w5 ⟨rfl, h5⟩
      have HO5 := Lib.hid h5
      clear h5
      go_wp2_with fail
      refine (sh_join HO5.out HT.out nA more (by decide) HM.out (by decide) (by simp) (by omega)).mono ?_
      rw [full_plain]
      rintro e w6 ⟨rfl, h6⟩
      have HO6 := Lib.hid h6
      clear h6
      go_wp2_with fail
      refine (sh_leave HO6.out HT.out kM id (by decide) HI.out (by decide) (by simp)).mono ?_
      rw [leaveA_first HLL.out]
      rintro e w7 ⟨rfl, h7⟩
      have HO7 := Lib.hid h7
      clear h7
      go_wp2_with fail
      refine (sh_join HO7.out HT.out kM (wrap64 (id + 256)) (by decide) (wrap64_wf _) (by decide) (by simp) (by omega)).mono ?_
      rw [full_again HLL.out HNW.out]
      rintro e w8 ⟨rfl, h8⟩
      have HO8 := Lib.hid h8
      clear h8
      go_wp2_with fail
      refine (sh_send HO8.out HT.out nA (by decide) (fun x hx => by rw [List.mem_singleton] at hx; subst hx; exact HM.out) (by decide) (by simp) (by simp [G2])).mono ?_
      rintro e w9 ⟨v9, ids9, out9, st9, rfl, hr9, hs9, ho9⟩
      have hl9 := full_send hs9
      obtain ⟨q9, c9, rfl⟩ := (IS_fl hr9).form
      rw [hl9]
      have HO9 := Lib.hid ho9
      clear hr9 hs9 ho9 hl9
      go_wp2_with fail
      refine (shAwake_any w9 (HT.out.below HO9.out.bel)).mono ?_
      rintro e w10 ⟨rfl, hb10⟩
      have HB10 := Lib.hid (HO9.out.bel.trans (hb10.mono HO9.out.bel.size))
      clear hb10
      go_wp2_with fail
      rw [← HPP.out]
      exact ⟨rfl, HB10.out⟩
end
section
open Go Go.RowKit
attribute [local go_sem ↓] Go.wp_at_zero Go.wp_at_succ

theorem wrap64u (n : Int) : IntKind.u64.wrap n = n % 18446744073709551616 := by simp [IntKind.wrap, IntKind.bits, IntKind.signed]
theorem mod_nat (x : Int) (N : Nat) (h0 : 0 < N) (hN : N ≤ 1000000000) : ∃ c : Nat, wrap64 ((IntKind.u64.wrap x).tmod (N : Int)) = (c : Int) ∧ c < N := by
  have hnn : 0 ≤ IntKind.u64.wrap x := by rw [wrap64u]; omega
  rw [Int.tmod_eq_emod_of_nonneg hnn]
  have h1 := Int.emod_lt_of_pos (IntKind.u64.wrap x) (show (0 : Int) < (N : Int) by omega)
  have h2 := Int.emod_nonneg (IntKind.u64.wrap x) (show (N : Int) ≠ 0 by omega)
  refine ⟨(IntKind.u64.wrap x % (N : Int)).toNat, ?_, by omega⟩
  rw [Int.toNat_of_nonneg h2]
  unfold wrap64
  omega
def upTo (m : Nat) : List Int := (List.range m).map fun j : Nat => (j : Int)
theorem upTo_len (m : Nat) : (upTo m).length = m := by unfold upTo; rw [List.length_map, List.length_range]
theorem upTo_succ (m : Nat) : upTo (m + 1) = upTo m ++ [(m : Int)] := by
  unfold upTo
  rw [List.range_succ, List.map_append]
  rfl
theorem upTo_new (m : Nat) : (m : Int) ∉ upTo m := by
  intro h
  obtain ⟨j, hj, e⟩ := List.mem_map.1 h
  have := List.mem_range.1 hj
  omega
theorem upTo_at {m r : Nat} (h : r < m) (d : Int) : (upTo m).getD r d = (r : Int) := by
  unfold upTo List.getD
  rw [List.getElem?_map, List.getElem?_range h]
  rfl
def fairG (m t : Nat) : List AG := [⟨kH, fB, upTo m, t⟩]
def fairG0 (m : Nat) : List AG := if m = 0 then [] else fairG m 0
theorem fair_join {m : Nat} (hm : m < 256) : joinA ([], fairG0 m) kH (m : Int) = (true, [], fairG0 (m + 1)) := by
  have hs : fairG0 (m + 1) = [⟨kH, fB, upTo m ++ [(m : Int)], 0⟩] := by
    unfold fairG0 fairG
    rw [if_neg (by omega), upTo_succ]
  rw [hs]
  by_cases h0 : m = 0
  · subst h0
    exact joinA_new split_H (by decide) rfl
  · have e : fairG0 m = [⟨kH, fB, upTo m, 0⟩] := by
      unfold fairG0 fairG
      rw [if_neg h0]
    rw [e]
    exact joinA_in (a := ⟨kH, fB, upTo m, 0⟩) split_H (by decide) rfl (upTo_new m) (by rw [upTo_len]; exact hm)
theorem fair_send {m t : Nat} (ht : t < m) {ids0 out : List Int} {st' : HSt} (h : SendA ([], fairG m t) fC ids0 out st') : st' = ([], fairG m (nextI m t)) ∧ out = [(t : Int)] := by
  refine sendA_to (l := []) h (fun x hx => by cases hx) List.Pairwise.nil (fun z => ?_) (by decide +kernel) ?_
  · exact ⟨fun h => (by cases h), fun ⟨f, hf, _⟩ => (by cases hf)⟩
  · have hk : keysA (fairG m t) = [kH] := by unfold keysA; rw [show (fairG m t).map (·.key) = [kH] from rfl]; kernel_rfl
    have f1 : findA (fairG m t) kH = some ⟨kH, fB, upTo m, t⟩ := rfl
    have hm : matchB fB fC = true := by decide +kernel
    show (keysA (fairG m t)).foldl (sendOne fC) (fairG m t, []) = _
    rw [hk]
    show sendOne fC (fairG m t, []) kH = _
    unfold sendOne
    rw [show findA (fairG m t, ([] : List Int)).1 kH = some ⟨kH, fB, upTo m, t⟩ from f1]
    refine (if_pos hm).trans ?_
    rw [upTo_at ht, upTo_len]
    rfl
/-- how many each has got: q, the first r one more -/
def cnt (m q r : Nat) : List Int := (List.range m).map fun k => ((q + if k < r then 1 else 0 : Nat) : Int)
theorem cnt_len (m q r : Nat) : (cnt m q r).length = m := by unfold cnt; rw [List.length_map, List.length_range]
theorem cnt_at {m q r k : Nat} (h : k < m) : (cnt m q r)[k]? = some ((q + if k < r then 1 else 0 : Nat) : Int) := by
  unfold cnt
  rw [List.getElem?_map, List.getElem?_range h]
  rfl
theorem cnt_set {m q r : Nat} (hr : r < m) : ∃ q' r', r' < m ∧ r' = nextI m r ∧ q' ≤ q + 1 ∧ (cnt m q r).set r ((q : Int) + 1) = cnt m q' r' := by
  by_cases h : r + 1 < m
  · refine ⟨q, r + 1, h, by unfold nextI; rw [if_pos h], by omega, ?_⟩
    refine List.ext_getElem? fun k => ?_
    by_cases hk : k < m
    · rw [cnt_at hk, List.getElem?_set]
      by_cases e : r = k
      · subst e
        rw [if_pos rfl, if_pos (by rw [cnt_len]; exact hk), if_pos (by omega)]
        congr 1
      · rw [if_neg e, cnt_at hk]
        by_cases hkr : k < r
        · rw [if_pos hkr, if_pos (by omega)]
        · rw [if_neg hkr, if_neg (by omega)]
    · rw [List.getElem?_eq_none (by rw [List.length_set, cnt_len]; omega), List.getElem?_eq_none (by rw [cnt_len]; omega)]
  · refine ⟨q + 1, 0, by omega, by unfold nextI; rw [if_neg h], by omega, ?_⟩
    refine List.ext_getElem? fun k => ?_
    by_cases hk : k < m
    · rw [cnt_at hk, List.getElem?_set]
      by_cases e : r = k
      · subst e
        rw [if_pos rfl, if_pos (by rw [cnt_len]; exact hk), if_neg (by omega)]
        congr 1
      · rw [if_neg e, cnt_at hk, if_pos (by omega), if_neg (by omega)]
    · rw [List.getElem?_eq_none (by rw [List.length_set, cnt_len]; omega), List.getElem?_eq_none (by rw [cnt_len]; omega)]
def NIs (W : World) (g : Nat) (l : List Int) : Prop := W.heap[g]? = some (.cells ((l.map (Value.int .i64)).toArray) 3 (0, 0))
theorem NIs.cell {W : World} {g : Nat} {l : List Int} (h : NIs W g l) {k : Nat} {x : Int} (hx : l[k]? = some x) : W.cell? ⟨g, k, none⟩ = some (.int .i64 x) := by
  rw [cell_of_row _ _ _ _ _ _ h]
  show ((l.map (Value.int .i64)).toArray)[k]? = _
  rw [List.getElem?_toArray, List.getElem?_map, hx]
  rfl
theorem NIs.lt {W : World} {g : Nat} {l : List Int} (h : NIs W g l) : g < W.heap.size := (Array.getElem?_eq_some_iff.1 h).1
theorem NIs.below {W W' : World} {g : Nat} {l : List Int} (h : NIs W g l) (hb : Below W.heap.size W W') : NIs W' g l := (hb.block g h.lt).trans h
theorem NIs.set {W : World} {g : Nat} {l : List Int} (h : NIs W g l) (k : Nat) (x : Int) : NIs (W.setCell ⟨g, k, none⟩ (.int .i64 x)) g (l.set k x) := by
  have e := heap_setCell_same W g k _ _ (.int .i64 x) h
  refine e.trans ?_
  rw [List.map_set]
  simp
theorem mk_ints (N : Nat) (hN : N ≤ 1000) (w : World) : (Instr.makeSlice 26 (.int .i64 (N : Int)) (.int .i64 (N : Int))).run Tryz.prog w = .ok (.slice (some ⟨w.heap.size, 0, none⟩) N N) (w.alloc (.cells (madeCells #[.int .i64 0] N) 3)) := by
  obtain ⟨i0, hi, hz0, hz1, hz2⟩ := info_parts info_int
  have h := run_make w 26 3 i0 _ Tryz.underlying26 hi hz0 .i64 .i64 N N (by omega) (by omega) (by rw [hz2]; omega) (by omega)
  rw [hz1, Nat.mul_one] at h
  exact h
theorem NIs.new (w : World) (N : Nat) : NIs (w.alloc (.cells (madeCells #[.int .i64 0] N) 3)) w.heap.size (cnt N 0 0) := by
  refine (heap_alloc_new _ _).trans ?_
  refine congrArg (fun cs => some (Obj.cells cs 3 (0, 0))) ?_
  refine Array.ext (by simp [madeCells, cnt_len]) fun j h1 h2 => ?_
  simp [madeCells, cnt, Nat.mod_one]
structure FairS (w W : World) (hb nb m t : Nat) (l : List Int) : Prop where
  ex : ∃ P, HubS w W P hb ([], fairG m t) [] 1000 100 0 ∧ ¬ P nb
  bel : Below w.heap.size w W
  row : NIs W nb l
  lo : w.heap.size ≤ nb
theorem FairS.below {w W W' : World} {hb nb m t : Nat} {l : List Int} (h : FairS w W hb nb m t l) (hb2 : Below W.heap.size W W') : FairS w W' hb nb m t l := by
  obtain ⟨P, h1, h2⟩ := h.ex
  exact ⟨⟨P, h1.below hb2, h2⟩, h.bel.trans (hb2.mono h.bel.size), h.row.below hb2, h.lo⟩
theorem FairS.store {w W : World} {hb nb m t : Nat} {l : List Int} (h : FairS w W hb nb m t l) (k : Nat) (x : Int) : FairS w (W.setCell ⟨nb, k, none⟩ (.int .i64 x)) hb nb m t (l.set k x) := by
  obtain ⟨P, h1, h2⟩ := h.ex
  have hf : Frame (fun b => b = nb) W (W.setCell ⟨nb, k, none⟩ (.int .i64 x)) := ⟨rfl, rfl, rfl, by rw [World.size_setCell]; exact Nat.le_refl _, fun b _ hb => Below.heap_setCell W ⟨nb, k, none⟩ _ b hb⟩
  exact ⟨⟨P, h1.frame hf fun b hb e => h2 (e ▸ hb), h2⟩, below_frame h.bel hf fun b e => by rw [e]; exact h.lo, h.row.set k x, h.lo⟩
theorem fairS_send {w W : World} {hb nb m t : Nat} {l : List Int} (h : FairS w W hb nb m t l) (ht : t < m) (hT : Tabs w) :
    Calls Tryz.prog 11 #[.pointer (some ⟨hb, 0, none⟩), .string fC] W fun e w' => ∃ b c, e = .returned (.slice (some ⟨b, 0, none⟩) 1 c) ∧ b ≠ nb ∧ w'.cell? ⟨b, 0, none⟩ = some (.int .i64 (t : Int)) ∧ FairS w w' hb nb m (nextI m t) l := by
  obtain ⟨P, h1, h2⟩ := h.ex
  refine (hs_send h1 h.bel hT fC (by decide) (fun x hx => by cases hx) (by decide) (by simp) (by simp [fairG])).mono ?_
  rintro e w' ⟨v, ids0, out, st', rfl, k1, k2, k3, k4⟩
  obtain ⟨rfl, rfl⟩ := fair_send ht k2
  have hnl := h.row.lt
  have hF : FairS w w' hb nb m (nextI m t) l := ⟨⟨_, k3, fun e => e.elim h2 fun e => by omega⟩, below_frame h.bel k4 h1.owns.lo, (k4.block nb hnl h2).trans h.row, h.lo⟩
  rcases k1.form with ⟨rfl, h⟩ | ⟨g, cap, cur, rfl, h5, -, -, -, -, -, -, hc⟩
  · cases h
  · refine ⟨g, cap, rfl, fun e => ?_, ?_, hF⟩
    · subst e; omega
    · exact hc 0 (Nat.lt_succ_self 0)
set_option maxRecDepth 100000 in
set_option maxHeartbeats 8000000 in
theorem shareFair_any (w : World) (hT : Tabs w) (mem rounds : Int) :
    Calls Tryz.prog 3 #[.int .i64 mem, .int .i64 rounds] w fun e w' => e = .returned (.bool true) ∧ Below w.heap.size w w' := by
  obtain ⟨PP, hPP⟩ : ∃ PP : Ending → World → Prop, (fun e w' => e = .returned (.bool true) ∧ Below w.heap.size w w') = PP := ⟨_, rfl⟩
  rw [hPP]
  have HPP := Lib.hid hPP
  have HT := Lib.hid hT
  obtain ⟨c, hc, hcl⟩ := mod_nat mem 20 (by decide) (by decide)
  obtain ⟨R, hR, hRl⟩ := mod_nat rounds 90 (by decide) (by decide)
  obtain ⟨m, hm⟩ : ∃ m, c + 1 = m := ⟨_, rfl⟩
  have hmI : wrap64 (wrap64 ((IntKind.u64.wrap mem).tmod 20) + 1) = (m : Int) := by
    have h := hc
    rw [show ((20 : Nat) : Int) = 20 from rfl] at h
    rw [h]
    unfold wrap64
    omega
  have hRI : wrap64 ((IntKind.u64.wrap rounds).tmod 90) = (R : Int) := hR
  have hm20 : m ≤ 20 := by omega
  have hm0 : 0 < m := by omega
  clear hPP hT hc hcl hR hm
  go_enter Tryz.func3, Tryz.ntmps3
  go_wp2_with (go_at_call 9; refine (sh_new w).mono ?_; rintro e w1 ⟨hb, rfl, h1, -⟩)
  have HO1 := Lib.hid h1
  clear h1
  go_wp2_with fail
  clear hmI hRI
  go_loopw [6] (fun s6 wr => ∃ i : Nat, s6 = .int .i64 (i : Nat) ∧ i ≤ m ∧ Hid (ShS w wr hb ([], fairG0 i) [] (i * 14) i 0)) (fun s6 _ => m - (intOf s6).toNat)
  case atStart => exact ⟨0, rfl, by omega, HO1.out⟩
  case round =>
    obtain ⟨i, rfl, hi, HO⟩ := hrel
    by_cases hlt : i < m
    · have hltI : (i : Int) < (m : Int) := by omega
      go_wp2_with fail
      refine (sh_join HO.out HT.out kH (i : Int) (by decide) (WalkArith.wf_i64 (by omega)) (by omega) (by simp) (by omega)).mono ?_
      rw [fair_join (by omega)]
      rintro e w3 ⟨rfl, h3⟩
      have HO3 : Hid (ShS w w3 hb ([], fairG0 (i + 1)) [] ((i + 1) * 14) (i + 1) 0) := by
        obtain ⟨⟨P, hP⟩, hB⟩ := h3
        exact ⟨⟨P, hP.more (by show i * 14 + 12 + 2 ≤ (i + 1) * 14; omega) (by omega) (by omega)⟩, hB⟩
      clear h3
      go_wp2_with fail
      go_roundw
      case rel => exact ⟨i + 1, by go_num, by omega, HO3.out⟩
      case measure => simp [intOf]; omega
    · obtain rfl : i = m := by omega
      have hltI : ¬ ((i : Int) < (i : Int)) := by omega
      have HF : Hid (∀ W, Below wr.heap.size wr W → NIs W wr.heap.size (cnt i 0 0) → FairS w W hb wr.heap.size i 0 (cnt i 0 0)) := fun W hb2 hn => by
        obtain ⟨⟨P, hP⟩, hB⟩ := HO.out
        have hP2 : HubS w wr P hb ([], fairG i 0) [] 1000 100 0 := by
          have h := hP.more (show i * 14 ≤ 1000 by omega) (show i ≤ 100 by omega) (Nat.le_refl 0)
          have e : fairG0 i = fairG i 0 := if_neg (by omega)
          rw [e] at h
          exact h
        exact ⟨⟨P, hP2.below hb2, fun e => by have := hP.owns.hi _ e; omega⟩, hB.trans (hb2.mono hB.size), hn, hB.size⟩
      have mk := mk_ints i (by omega) wr
      go_wp2_with fail
      have HF0 := Lib.hid (HF.out _ ((Below.refl _ wr).alloc (Nat.le_refl _) _) (NIs.new wr i))
      obtain ⟨nb, hnb⟩ : ∃ nb, wr.heap.size = nb := ⟨_, rfl⟩
      rw [hnb] at HF0 ⊢
      generalize wr.alloc (.cells (madeCells #[.int .i64 0] i) 3) = W2 at *
      clear mk HF hnb HO
      go_wp2_with fail
      go_loopw [8] (fun s8 wr => ∃ j q r : Nat, s8 = .int .i64 (j : Nat) ∧ j ≤ R ∧ q ≤ j ∧ r < i ∧ Hid (FairS w wr hb nb i r (cnt i q r))) (fun s8 _ => R - (intOf s8).toNat)
      case atStart => exact ⟨0, 0, 0, rfl, by omega, by omega, by omega, HF0.out⟩
      case round =>
        obtain ⟨j, q, r, rfl, hj, hq, hr, HO⟩ := hrel
        by_cases hlt : j < R
        · have hltI : (j : Int) < (R : Int) := by omega
          go_wp2_with fail
          refine (fairS_send HO.out hr HT.out).mono ?_
          rintro e w3 ⟨b3, c3, rfl, hbn, k3, ho3⟩
          have HO3 := Lib.hid ho3
          have HBN := Lib.hid hbn
          have g3 : b3 < w3.heap.size := World.block_lt_of_cell? w3 _ k3
          have n3 := HO3.out.row.cell (cnt_at hr)
          have n3' : w3.cell? ⟨nb, r, none⟩ = some (.int .i64 (q : Int)) := by rw [n3, if_neg (by omega)]; rfl
          have gn : nb < w3.heap.size := HO3.out.row.lt
          have fz : w3.frozen? ⟨nb, r, none⟩ = false := frozen_of_row w3 nb r _ _ HO3.out.row
          have hr0 : (0 : Int) ≤ (r : Int) := by omega
          have hr1 : ¬ ((r : Int) < 0) := by omega
          have hr2 : (r : Int) < (i : Int) := by omega
          have hr3 : ¬ ((i : Int) ≤ (r : Int)) := by omega
          have hr4 : decide (i ≤ r) = false := decide_eq_false (by omega)
          have hr5 : decide ((r : Int) < 0) = false := decide_eq_false hr1
          have hq1 : wrap64 ((q : Int) + 1) = (q : Int) + 1 := by unfold wrap64; omega
          clear ho3 n3 hbn
          go_wp2_with fail
          have HO4 := Lib.hid (HO3.out.store r ((q : Int) + 1))
          have HK4 : Hid ((w3.setCell ⟨nb, r, none⟩ (.int .i64 ((q : Int) + 1))).cell? ⟨b3, 0, none⟩ = some (.int .i64 (r : Int))) := (cell_of_heap (Below.heap_setCell w3 ⟨nb, r, none⟩ _ b3 HBN.out) k3)
          obtain ⟨W4, hW4⟩ : ∃ W4, w3.setCell ⟨nb, r, none⟩ (.int .i64 ((q : Int) + 1)) = W4 := ⟨_, rfl⟩
          rw [hW4] at HO4 HK4 ⊢
          clear hW4 k3 n3' fz HO3 g3 gn
          obtain ⟨q', r', hr', hr2', hq', hset⟩ := cnt_set (q := q) hr
          have HSET := Lib.hid hset
          have HR2 := Lib.hid hr2'
          have HCA : Hid (∀ k, k < i → ((cnt i q r).set r ((q : Int) + 1))[k]? = some (if k = r then ((q : Int) + 1) else ((q + if k < r then 1 else 0 : Nat) : Int))) := fun k hk => by
            rw [List.getElem?_set]
            by_cases e : r = k
            · rw [if_pos e, if_pos (by rw [cnt_len]; omega), if_pos e.symm]
            · rw [if_neg e, if_neg (fun h => e h.symm), cnt_at hk]
          clear hset hr2'
          go_loopw [10] (fun s10 wr => ∃ k : Nat, s10 = .int .i64 (k : Nat) ∧ k ≤ i ∧ Hid (Below W4.heap.size W4 wr)) (fun s10 _ => i - (intOf s10).toNat)
          case atStart => exact ⟨0, rfl, Nat.zero_le _, Below.refl _ _⟩
          case round =>
            obtain ⟨k, rfl, hk, HB⟩ := hrel
            have HO5 := Lib.hid (HO4.out.below HB.out)
            by_cases hkl : k < i
            · have hkI : (k : Int) < (i : Int) := by omega
              have hk0 : (0 : Int) ≤ (k : Int) := by omega
              obtain ⟨x, hx⟩ : ∃ x, (if k = r then ((q : Int) + 1) else ((q + if k < r then 1 else 0 : Nat) : Int)) = x := ⟨_, rfl⟩
              have hx1 : ¬ ((q : Int) + 1 < x) := by rw [← hx]; split <;> (try split) <;> omega
              have hx2 : ¬ (x < (q : Int)) := by rw [← hx]; split <;> (try split) <;> omega
              have hx3 : wrap64 ((q : Int) + 1 - 1) = (q : Int) := by unfold wrap64; omega
              have c1 : wr.cell? ⟨nb, k, none⟩ = some (.int .i64 x) := HO5.out.row.cell (by rw [HCA.out k hkl, hx])
              have c2 : wr.cell? ⟨nb, r, none⟩ = some (.int .i64 ((q : Int) + 1)) := HO5.out.row.cell (by rw [HCA.out r hr, if_pos rfl])
              have b4 := World.block_lt_of_cell? W4 _ HK4.out
              have c3 : wr.cell? ⟨b3, 0, none⟩ = some (.int .i64 (r : Int)) := (HB.out.cell (p := ⟨b3, 0, none⟩) b4).trans HK4.out
              have g1 : nb < wr.heap.size := World.block_lt_of_cell? wr _ c1
              have g2 : b3 < wr.heap.size := World.block_lt_of_cell? wr _ c3
              have hx4 : IntKind.i64.wrap (q : Int) = (q : Int) := by rw [IntKind.wrap_i64]; omega
              have hx5 : (decide ((q : Int) + 1 < x) || decide (x < (q : Int))) = false := by simp only [hx1, hx2, decide_false, Bool.or_false]
              clear hx b4
              go_wp2_with fail
              go_quiet (fail)
              go_wp2_with fail
              go_roundw
              case rel => exact ⟨k + 1, by go_num, by omega, ⟨HB.out.os, HB.out.tape, HB.out.output, HB.out.size, HB.out.block⟩⟩
              case measure => simp [intOf]; omega
            · obtain rfl : k = i := by omega
              have hkI : ¬ ((k : Int) < (k : Int)) := by omega
              go_wp2_with fail
              go_roundw
              case rel =>
                refine ⟨j + 1, q', r', by go_num, by omega, by omega, hr', ?_⟩
                have h := HO5.out
                rw [HSET.out, ← HR2.out] at h
                exact h
              case measure => simp [intOf]; omega
        · have hltI : ¬ ((j : Int) < (R : Int)) := by omega
          go_wp2_with fail
          refine (shAwake_any wr (HT.out.below HO.out.bel)).mono ?_
          rintro e w10 ⟨rfl, hb10⟩
          have HB10 := Lib.hid (HO.out.bel.trans (hb10.mono HO.out.bel.size))
          clear hb10
          go_wp2_with fail
          rw [← HPP.out]
          exact ⟨rfl, HB10.out⟩
end
end Go.Proofs.YtincmegllckcjaaGreatDoor
