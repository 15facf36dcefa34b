/- THE PROGRAM's ITERATOR over a topic's levels, and what ranges over it. -/
import Derived.RangeFuncNested
import Derived.RangeFuncBound
import Derived.RangeFuncCalls
import Derived.Shelf.Abstract
import Derived.Shelf.RegionOpen
import Derived.OwnWalkIn
import Derived.TacticsInMore
import Derived.LoopNIn
import Derived.LoopIn
import Derived.Test.YtflomcbclofbaaaDoorRangeBox
import Derived.Test.YtflomcbclofbaaaDoorTopicRefC
namespace Go.Proofs.YtflomcbclofbaaaDoor
open Go Go.RowKit Go.Shelf
attribute [local go_sem] Oper.semAt_some

/-- how long the text in a box is -/
def boxLen (b : Nat) (w : World) : Nat := match w.cell? ⟨b, 0, none⟩ with | some (.string t) => t.size | _ => 0
theorem boxLen_eq {b : Nat} {w : World} {t : ByteArray} (h : w.cell? ⟨b, 0, none⟩ = some (.string t)) : boxLen b w = t.size := by simp [boxLen, h]

theorem idx47 (hI : IndexByteSaid) (t : ByteArray) (w : World) : Calls Tryd.prog 53 #[.string t, .int .u8 47] w fun e w' => e = .returned (.int .i64 (Lib.indexByte t.data.toList 47)) ∧ w = w' := by
  have := hI t 47 w; simpa using this

set_option maxHeartbeats 1000000 in
set_option maxRecDepth 100000 in
theorem levels1_in (hI : IndexByteSaid) (n : Nat) (hn : 1 ≤ n) (l Bn : Nat) (s : ByteArray) (hs : s.size ≤ 1048576) (L : List ByteArray) (hL : Hid (levels s = L)) (J Jx : List {x // x ∈ L} → World → Prop)
    (hJ : Stands Bn J)
    (hY : ∀ pre x W1, J pre W1 → pre.length < L.length → YieldAt Fence.wide (n - 1) Tryd.prog l #[.string x.1] W1 fun e W' =>
      (e = .returned (.bool true) ∧ J (pre ++ [x]) W' ∧ W'.heap[Bn]? = W1.heap[Bn]?) ∨ (e = .returned (.bool false) ∧ Jx (pre ++ [x]) W'))
    (W : World) (hB : W.heap[Bn]? = some (.cells #[.string s] 9 (0, 0))) (h0 : J [] W) :
    CallsIn Fence.wide n Tryd.prog 54 #[.func (.yield l) #[] #[], .pointer (some ⟨Bn, 0, none⟩)] W fun e W' => (∃ v, e = .returned v) ∧
      ((∃ ys : List {x // x ∈ L}, ys.map Subtype.val = L ∧ J ys W') ∨ (∃ pre : List {x // x ∈ L}, pre.map Subtype.val <+: L ∧ Jx pre W')) := by
  refine callsIn_of_wp Tryd.func54 rfl trivial ?_ rfl
  simp only [Tryd.ntmps54, List.size_toArray, List.length_cons, List.length_nil, Nat.reduceAdd, Nat.reduceSub, Array.replicate_succ, Array.replicate_zero, List.push_toArray, List.append_toArray, List.nil_append, List.cons_append]
  gi_wp2
  gi_loopw [3] (fun _ wr => ∃ (pre : List {x // x ∈ L}) (t : ByteArray), Hid (L = pre.map Subtype.val ++ levels t) ∧ t.size ≤ 1048576 ∧ wr.heap[Bn]? = some (.cells #[.string t] 9 (0, 0)) ∧ J pre wr)
    (fun _ wr => boxLen Bn wr)
  case atStart => exact ⟨[], s, hL.out.symm, hs, hB, h0⟩
  case round =>
    obtain ⟨pre, t, HL, hts, hb, hJs⟩ := hrel
    have hc := cell_of_one hb
    have hf := free_of_one hb
    have hlt := lt_of_block hb
    have C47 := Lib.hid (idx47 hI t)
    by_cases hneg : Lib.indexByte t.data.toList 47 < 0
    · have hl1 := levels_none t hneg
      have hmem : t ∈ L := by rw [HL.out, hl1]; simp
      have hlen : pre.length < L.length := by have := congrArg List.length HL.out; rw [hl1] at this; simp at this; omega
      have hall : (pre ++ [(⟨t, hmem⟩ : {x // x ∈ L})]).map Subtype.val = L := by have := HL.out; rw [hl1] at this; simpa using this.symm
      obtain ⟨fn, tmps, assign, body, hy, hR⟩ := hY pre ⟨t, hmem⟩ wr hJs hlen
      have HALL := Lib.hid hall
      clear hall hl1 HL
      gi_wp2_with (refine ⟨trivial, ?_⟩; gi_at_call 53; refine (callsIn_wide.2 (C47.out _)).mono ?_; rintro e w' ⟨rfl, rfl⟩)
      refine hR.mono ?_
      rintro e W3 (⟨rfl, hJ3, hk3⟩ | ⟨rfl, hJx3⟩)
      · gi_wp2
        refine bodyPost_ret (results_none rfl _ _ _) rfl ?_
        exact ⟨⟨_, rfl⟩, .inl ⟨_, HALL.out, hJ3⟩⟩
      · gi_wp2
        refine bodyPost_ret (results_none rfl _ _ _) rfl ?_
        exact ⟨⟨_, rfl⟩, .inr ⟨_, ⟨[], by rw [List.append_nil]; exact HALL.out⟩, hJx3⟩⟩
    · obtain ⟨k, hk, hkt, hlk⟩ := levels_some t (by omega)
      have hmem : t.extract 0 k ∈ L := by rw [HL.out, hlk]; simp
      have hlen : pre.length < L.length := by have := congrArg List.length HL.out; rw [hlk] at this; simp at this; omega
      have hall : L = (pre ++ [(⟨t.extract 0 k, hmem⟩ : {x // x ∈ L})]).map Subtype.val ++ levels (t.extract (k + 1) t.size) := by have := HL.out; rw [hlk] at this; simpa using this
      obtain ⟨fn, tmps, assign, body, hy, hR⟩ := hY pre ⟨t.extract 0 k, hmem⟩ wr hJs hlen
      have HALL := Lib.hid hall
      have C47' : Hid (∀ w, Calls Tryd.prog 53 #[.string t, .int .u8 47] w fun e w' => e = .returned (.int .i64 k) ∧ w = w') := by rw [← hk]; exact C47
      have hsz : (t.extract (k + 1) t.size).size + (k + 1) = t.size := by simp; omega
      clear hall hlk HL C47 hk hneg
      gi_wp2_with (refine ⟨trivial, ?_⟩; gi_at_call 53; refine (callsIn_wide.2 (C47'.out _)).mono ?_; rintro e w' ⟨rfl, rfl⟩)
      refine hR.mono ?_
      rintro e W3 (⟨rfl, hJ3, hk3⟩ | ⟨rfl, hJx3⟩)
      · have hb3 : W3.heap[Bn]? = some (.cells #[.string t] 9 (0, 0)) := hk3.trans hb
        have hc3 := cell_of_one hb3
        have hf3 := free_of_one hb3
        have hs3 := hJ _ _ (W3.setCell ⟨Bn, 0, none⟩ (.string (t.extract (k + 1) t.size))) hJ3 ⟨rfl, rfl, rfl, by simp [World.setCell], fun j _ hj => Below.heap_setCell _ _ _ _ (fun e => hj (by rw [e]))⟩
        have hb4 := one_setCell (u := .string (t.extract (k + 1) t.size)) hb3
        have hm4 := boxLen_eq (cell_of_one hb4)
        have hm1 := boxLen_eq hc
        have HM := Lib.hid hm4
        have HM1 := Lib.hid hm1
        clear hm4 hm1 hk3
        gi_wp2
        go_roundw
        case rel => exact ⟨_, _, HALL, by omega, hb4, hs3⟩
        case measure => rw [HM.out, HM1.out]; omega
      · gi_wp2
        refine bodyPost_ret (results_none rfl _ _ _) rfl ?_
        exact ⟨⟨_, rfl⟩, .inr ⟨_, ⟨_, HALL.out.symm⟩, hJx3⟩⟩
theorem levels1_seq (hI : IndexByteSaid) (n : Nat) (hn : 1 ≤ n) (Bn : Nat) (s : ByteArray) (hs : s.size ≤ 1048576) (L : List ByteArray) (hL : Hid (levels s = L)) (w : World)
    (hB : w.heap[Bn]? = some (.cells #[.string s] 9 (0, 0))) :
    SeqBox Fence.wide n Tryd.prog 54 #[.pointer (some ⟨Bn, 0, none⟩)] (fun x : {x // x ∈ L} => #[Value.string x.1]) Bn (fun ys => ys.map Subtype.val = L) (fun pre => pre.map Subtype.val <+: L) L.length w :=
  fun l J Jx W hW hJ _ hY h0 => levels1_in hI n hn l Bn s hs L hL J Jx hJ hY W (hW.trans hB) h0

set_option maxHeartbeats 400000 in
theorem levels_fn (n : Nat) (s : ByteArray) (w : World) :
    CallsIn Fence.wide n Tryd.prog 38 #[.string s] w fun e w' => e = .returned (.func (.func 54) #[] #[.pointer (some ⟨w.heap.size, 0, none⟩)]) ∧ w' = w.alloc (.cells #[.string s] 9) := by
  refine callsIn_of_wp Tryd.func38 rfl trivial ?_ rfl
  simp only [Tryd.ntmps38, List.size_toArray, List.length_cons, List.length_nil, Nat.reduceAdd, Nat.reduceSub, Array.replicate_succ, Array.replicate_zero, List.push_toArray, List.append_toArray, List.nil_append, List.cons_append]
  gi_wp2
  go_ret
  exact ⟨rfl, rfl⟩
end Go.Proofs.YtflomcbclofbaaaDoor
