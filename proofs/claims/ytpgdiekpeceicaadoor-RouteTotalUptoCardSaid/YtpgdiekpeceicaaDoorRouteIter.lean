/- ROUTE: routes in memory; route.agree and its iterator. -/
import Derived.Test.YtpgdiekpeceicaaDoorRouteAsked
import Derived.Test.YtpgdiekpeceicaaDoorRangeKnow
import Derived.Test.YtpgdiekpeceicaaDoorTopicIterB
namespace Go.Proofs.YtpgdiekpeceicaaDoor
open Go Go.RowKit Go.Shelf
attribute [local go_sem] Oper.semAt_some

/-- a route -/
structure Rt where
  fi : ByteArray
  want : Wt
  hd : Int
  el : Bool
/-- six cells that read as a route -/
def RtAt (w : World) (k b o : Nat) (r : Rt) : Prop := ∃ (op num : Int) (p : Option Addr) (n c : Nat),
  w.cell? ⟨b, o, none⟩ = some (.string r.fi) ∧ w.cell? ⟨b, o + 1, none⟩ = some (.int .i64 op) ∧ w.cell? ⟨b, o + 2, none⟩ = some (.int .i64 num) ∧ w.cell? ⟨b, o + 3, none⟩ = some (.slice p n c) ∧ w.cell? ⟨b, o + 4, none⟩ = some (.int .i64 r.hd) ∧ w.cell? ⟨b, o + 5, none⟩ = some (.bool r.el) ∧
  WtIs w k [.int .i64 op, .int .i64 num, .slice p n c] r.want
theorem RtAt.below {w w' : World} {k b o : Nat} {r : Rt} (h : RtAt w k b o r) (hb : Below w.heap.size w w') : RtAt w' k b o r := by
  obtain ⟨op, num, p, n, c, q0, q1, q2, q3, q4, q5, ht⟩ := h
  exact ⟨op, num, p, n, c, (hb.cell (World.block_lt_of_cell? w _ q0)).trans q0, (hb.cell (World.block_lt_of_cell? w _ q1)).trans q1, (hb.cell (World.block_lt_of_cell? w _ q2)).trans q2, (hb.cell (World.block_lt_of_cell? w _ q3)).trans q3, (hb.cell (World.block_lt_of_cell? w _ q4)).trans q4, (hb.cell (World.block_lt_of_cell? w _ q5)).trans q5, ht.below hb⟩
/-- a slice of routes -/
def Rts (w : World) (k : Nat) (p : Option Addr) (l : List Rt) : Prop :=
  l.length ≤ 1048576 ∧ (0 < l.length → ∃ b o, p = some ⟨b, o, none⟩ ∧ ∀ j r, l[j]? = some r → RtAt w k b (o + j * 6) r)
theorem Rts.below {w w' : World} {k : Nat} {p : Option Addr} {l : List Rt} (h : Rts w k p l) (hb : Below w.heap.size w w') : Rts w' k p l := by
  obtain ⟨h1, h2⟩ := h
  refine ⟨h1, fun hn => ?_⟩
  obtain ⟨b, o, hp, hc⟩ := h2 hn
  exact ⟨b, o, hp, fun j r hj => (hc j r hj).below hb⟩
def OkR (k : Nat) (r : Rt) : Prop := OkW k r.want ∧ r.fi.size ≤ 1048576
/-- does a route let a message through -/
def agB (k : Nat) (tp : ByteArray) (dk : Nat) (r : Rt) : Bool := matchB r.fi tp && typedB k r.want dk
/-- the places of those that do -/
def agFrom (k : Nat) (tp : ByteArray) (dk : Nat) : Nat → List Rt → List (Nat × Bool)
  | _, [] => []
  | j, r :: l => if agB k tp dk r then (j, r.el) :: agFrom k tp dk (j + 1) l else agFrom k tp dk (j + 1) l
theorem agFrom_drop {k : Nat} {tp : ByteArray} {dk : Nat} {l : List Rt} {j : Nat} {r : Rt} (h : l[j]? = some r) (i : Nat) : agFrom k tp dk i (l.drop j) = if agB k tp dk r then (i, r.el) :: agFrom k tp dk (i + 1) (l.drop (j + 1)) else agFrom k tp dk (i + 1) (l.drop (j + 1)) := by
  obtain ⟨hj, e⟩ := List.getElem?_eq_some_iff.1 h
  rw [List.drop_eq_getElem_cons hj, e]
  rfl
theorem grown_of_below {W W' : World} (hb : Below W.heap.size W W') (row : Option Nat) : W.grownBy W' row := ⟨hb.os, hb.tape, hb.output, hb.size, fun j hj _ => hb.block j hj⟩
theorem ta_take (el : Bool) (w : World) : (Instr.typeAssert (.iface 64 (.agg #[.bool el])) 20 64 true).run Tryd.prog w = .ok (.tuple #[.agg #[.bool el], .bool true]) w := by kernel_rfl
theorem ta_other (s : ByteArray) (w : World) : (Instr.typeAssert (.iface 62 (.agg #[.string s])) 20 64 true).run Tryd.prog w = .ok (.tuple #[.agg #[.bool false], .bool false]) w := by kernel_rfl
theorem askV_no {mt ty el : Bool} (h : (mt && ty) = false) : ∃ s, askV mt ty el = .iface 62 (.agg #[.string s]) := by
  cases mt
  · exact ⟨_, rfl⟩
  · cases ty
    · exact ⟨_, rfl⟩
    · cases h
theorem askV_yes {mt ty el : Bool} (h : (mt && ty) = true) : askV mt ty el = .iface 64 (.agg #[.bool el]) := by
  cases mt
  · cases h
  · cases ty
    · cases h
    · rfl
/-- what the iterator reads -/
def Know (Bs Bm k : Nat) (p : Option Addr) (cap : Nat) (l : List Rt) (mv : Array Value) (W : World) : Prop :=
  Rts W k p l ∧ W.heap[Bs]? = some (.cells #[.slice p l.length cap] 22 (0, 0)) ∧ W.heap[Bm]? = some (.cells mv 28 (0, 0)) ∧ Tabs W

set_option maxHeartbeats 4000000 in
set_option maxRecDepth 100000 in
theorem agree1_in (n : Nat) (hn : 1 ≤ n) (y Bn Bs Bm k : Nat) (p : Option Addr) (cap : Nat) (l : List Rt)
    (dk : Nat) (hdk : dk < 14) (di : Int) (db : Int) (ds : ByteArray) (q : Option Addr) (m c : Nat) (id : Int) (tp : ByteArray) (at_ un : Int) (rp : ByteArray) (co pr hp : Int)
    (htp : tp.size ≤ 1048576) (hok : ∀ r ∈ l, OkR k r) (L : List (Nat × Bool)) (hL : Hid (agFrom k tp dk 0 l = L)) (J Jx : List (Nat × Bool) → World → Prop)
    (hJ : Stands Bn J) (hR : ∀ s W, J s W → Know Bs Bm k p cap l #[.int .i64 id, .string tp, .int .i64 (dk : Nat), .int .i64 di, .int .u64 db, .string ds, .slice q m c, .int .i64 at_, .int .i64 un, .string rp, .int .i64 co, .int .i64 pr, .int .i64 hp] W)
    (hY : ∀ pre x W1, J pre W1 → pre.length < L.length → YieldAt Fence.wide (n - 1) Tryd.prog y #[.int .i64 (x.1 : Nat), .bool x.2] W1 fun e W' =>
      (e = .returned (.bool true) ∧ J (pre ++ [x]) W' ∧ W'.heap[Bn]? = W1.heap[Bn]?) ∨ (e = .returned (.bool false) ∧ Jx (pre ++ [x]) W'))
    (W : World) (h0 : J [] W) :
    CallsIn Fence.wide n Tryd.prog 36 #[.func (.yield y) #[] #[], .pointer (some ⟨Bs, 0, none⟩), .pointer (some ⟨Bm, 0, none⟩)] W fun e W' => (∃ v, e = .returned v) ∧
      ((∃ ys : List (Nat × Bool), ys = L ∧ J ys W') ∨ (∃ pre : List (Nat × Bool), pre <+: L ∧ Jx pre W')) := by
  refine callsIn_of_wp Tryd.func36 rfl trivial ?_ rfl
  simp only [Tryd.ntmps36, List.size_toArray, List.length_cons, List.length_nil, Nat.reduceAdd, Nat.reduceSub, Array.replicate_succ, Array.replicate_zero, List.push_toArray, List.append_toArray, List.nil_append, List.cons_append]
  obtain ⟨k1, k2, k3, k4⟩ := hR _ _ h0
  have s0 : W.cell? ⟨Bs, 0, none⟩ = some (.slice p l.length cap) := cell_of_one k2
  have hll := k1.1
  clear k1 k2 k3 k4
  gi_wp2
  gi_loopw [4, 5, 6, 7, 10] (fun _ _ _ _ i wr => ∃ (pre : List (Nat × Bool)) (j : Nat), i = .int .i64 (j : Nat) ∧ j ≤ l.length ∧ Hid (L = pre ++ agFrom k tp dk j (l.drop j)) ∧ J pre wr)
    (fun _ _ _ _ i _ => l.length - (intOf i).toNat)
  case atStart => exact ⟨[], 0, rfl, by omega, hL.out.symm, h0⟩
  case round =>
    obtain ⟨pre, j, rfl, hj, HL, hJs⟩ := hrel
    obtain ⟨g1, g2, g3, g4⟩ := hR _ _ hJs
    by_cases hlt : j < l.length
    · obtain ⟨r, hr⟩ : ∃ r, l[j]? = some r := ⟨_, List.getElem?_eq_getElem hlt⟩
      obtain ⟨b, o, rfl, hc⟩ := g1.2 (by omega)
      obtain ⟨op, num, p', n', c', q0, q1, q2, q3, q4, q5, hW⟩ := hc j r hr
      have hok1 := hok r (List.mem_of_getElem? hr)
      have CA : Hid (∀ W, Below wr.heap.size wr W → Calls Tryd.prog 29 #[.agg #[.string r.fi, .int .i64 op, .int .i64 num, .slice p' n' c', .int .i64 r.hd, .bool r.el], .agg #[.int .i64 id, .string tp, .int .i64 (dk : Nat), .int .i64 di, .int .u64 db, .string ds, .slice q m c, .int .i64 at_, .int .i64 un, .string rp, .int .i64 co, .int .i64 pr, .int .i64 hp]] W (AskPost W (askV (matchB r.fi tp) (typedB k r.want dk) r.el))) :=
        fun W hb => asked_any k r.want W op num p' n' c' (hW.below hb) hok1.1 r.fi r.hd r.el dk hdk di db ds q m c id tp at_ un rp co pr hp hok1.2 htp (g4.below hb)
      have hbl := World.block_lt_of_cell? wr _ q0
      have hBm := lt_of_block g3
      have m0 : wr.cell? ⟨Bm, 0, none⟩ = some (.int .i64 id) := cell_of_row wr _ 0 _ _ _ g3
      have m1 : wr.cell? ⟨Bm, 1, none⟩ = some (.string tp) := cell_of_row wr _ 1 _ _ _ g3
      have m2 : wr.cell? ⟨Bm, 2, none⟩ = some (.int .i64 (dk : Nat)) := cell_of_row wr _ 2 _ _ _ g3
      have m3 : wr.cell? ⟨Bm, 3, none⟩ = some (.int .i64 di) := cell_of_row wr _ 3 _ _ _ g3
      have m4 : wr.cell? ⟨Bm, 4, none⟩ = some (.int .u64 db) := cell_of_row wr _ 4 _ _ _ g3
      have m5 : wr.cell? ⟨Bm, 5, none⟩ = some (.string ds) := cell_of_row wr _ 5 _ _ _ g3
      have m6 : wr.cell? ⟨Bm, 6, none⟩ = some (.slice q m c) := cell_of_row wr _ 6 _ _ _ g3
      have m7 : wr.cell? ⟨Bm, 7, none⟩ = some (.int .i64 at_) := cell_of_row wr _ 7 _ _ _ g3
      have m8 : wr.cell? ⟨Bm, 8, none⟩ = some (.int .i64 un) := cell_of_row wr _ 8 _ _ _ g3
      have m9 : wr.cell? ⟨Bm, 9, none⟩ = some (.string rp) := cell_of_row wr _ 9 _ _ _ g3
      have m10 : wr.cell? ⟨Bm, 10, none⟩ = some (.int .i64 co) := cell_of_row wr _ 10 _ _ _ g3
      have m11 : wr.cell? ⟨Bm, 11, none⟩ = some (.int .i64 pr) := cell_of_row wr _ 11 _ _ _ g3
      have m12 : wr.cell? ⟨Bm, 12, none⟩ = some (.int .i64 hp) := cell_of_row wr _ 12 _ _ _ g3
      have hlt' : (j : Int) < (l.length : Int) := by omega
      have HS := Lib.hid (HL.out.trans (congrArg (fun z => pre ++ z) (agFrom_drop (k := k) (tp := tp) (dk := dk) hr j)))
      clear hc hW hok1 g1 g2 g3 g4 hr HL
      cases hag : (matchB r.fi tp && typedB k r.want dk) with
      | false =>
        obtain ⟨s, hs⟩ := askV_no (el := r.el) hag
        rw [hs] at CA
        have ta := ta_other s
        have hag' : agB k tp dk r = false := hag
        rw [hag'] at HS
        clear hag hag' hs
        gi_wp2_with fail
        refine ⟨trivial, ?_⟩
        refine (callsIn_wide.2 (CA.out _ (by exact (Below.refl _ _).alloc (Nat.le_refl _) _))).mono ?_
        rintro e w2 ⟨rfl, hb2⟩
        gi_wp2_with fail
        refine ⟨fun f h => (by cases h), ?_⟩
        gi_wp2_with fail
        have hb3 : Below wr.heap.size wr (w2.alloc (.cells #[.bool false] 64)) := (((Below.refl _ wr).alloc (Nat.le_refl _) _).trans (hb2.mono (by simp))).alloc (by have := hb2.size; simp at this; omega) _
        have hJ3 := hJ _ _ _ hJs (grown_of_below hb3 _)
        go_roundw
        case rel => exact ⟨pre, j + 1, by go_num, by omega, HS.out, hJ3⟩
        case measure => simp [intOf]; omega
      | true =>
        rw [askV_yes (el := r.el) hag] at CA
        have ta := ta_take r.el
        have hag' : agB k tp dk r = true := hag
        rw [hag'] at HS
        clear hag hag'
        gi_wp2_with fail
        refine ⟨trivial, ?_⟩
        refine (callsIn_wide.2 (CA.out _ (by exact (Below.refl _ _).alloc (Nat.le_refl _) _))).mono ?_
        rintro e w2 ⟨rfl, hb2⟩
        have hb3 : Below wr.heap.size wr (w2.alloc (.cells #[.bool r.el] 64)) := (((Below.refl _ wr).alloc (Nat.le_refl _) _).trans (hb2.mono (by simp))).alloc (by have := hb2.size; simp at this; omega) _
        have hJ3 := hJ _ _ _ hJs (grown_of_below hb3 _)
        have HL1 : Hid (L = (pre ++ [(j, r.el)]) ++ agFrom k tp dk (j + 1) (l.drop (j + 1))) := by show _ = _; rw [List.append_assoc]; exact HS.out
        obtain ⟨fn, tmps, assign, body, hy, hRR⟩ := hY pre (j, r.el) _ hJ3 (by have := congrArg List.length HL1.out; simp at this; omega)
        clear hY hR hb3 hJ3 HS
        gi_wp2_with fail
        refine hRR.mono ?_
        rintro e W3 (⟨rfl, hJ4, hk3⟩ | ⟨rfl, hJx3⟩)
        · gi_wp2
          go_roundw
          case rel => exact ⟨_, j + 1, by go_num, by omega, HL1, hJ4⟩
          case measure => simp [intOf]; omega
        · gi_wp2
          refine bodyPost_ret (results_none rfl _ _ _) rfl ?_
          exact ⟨⟨_, rfl⟩, .inr ⟨_, ⟨_, HL1.out.symm⟩, hJx3⟩⟩
    · obtain rfl : j = l.length := by omega
      have HE : Hid (pre = L) := by show pre = L; have h := HL.out; rw [List.drop_length] at h; exact (h.trans (List.append_nil _)).symm
      clear HL g1 g2 g3 g4
      gi_wp2
      refine bodyPost_end (results_none rfl _ _ _) rfl ?_
      exact ⟨⟨_, rfl⟩, .inl ⟨_, HE.out, hJs⟩⟩
theorem agree1_seq (n : Nat) (hn : 1 ≤ n) (Bn Bs Bm k : Nat) (p : Option Addr) (cap : Nat) (l : List Rt)
    (dk : Nat) (hdk : dk < 14) (di : Int) (db : Int) (ds : ByteArray) (q : Option Addr) (m c : Nat) (id : Int) (tp : ByteArray) (at_ un : Int) (rp : ByteArray) (co pr hp : Int)
    (htp : tp.size ≤ 1048576) (hok : ∀ r ∈ l, OkR k r) (L : List (Nat × Bool)) (hL : Hid (agFrom k tp dk 0 l = L)) (w : World) :
    SeqKnow (Know Bs Bm k p cap l #[.int .i64 id, .string tp, .int .i64 (dk : Nat), .int .i64 di, .int .u64 db, .string ds, .slice q m c, .int .i64 at_, .int .i64 un, .string rp, .int .i64 co, .int .i64 pr, .int .i64 hp]) Fence.wide n Tryd.prog 36 #[.pointer (some ⟨Bs, 0, none⟩), .pointer (some ⟨Bm, 0, none⟩)] (fun x : Nat × Bool => #[.int .i64 (x.1 : Nat), .bool x.2]) Bn (fun ys => ys = L) (fun pre => pre <+: L) L.length w :=
  fun y J Jx W _ hJ _ hR hY h0 => agree1_in n hn y Bn Bs Bm k p cap l dk hdk di db ds q m c id tp at_ un rp co pr hp htp hok L hL J Jx hJ hR hY W h0

set_option maxHeartbeats 400000 in
theorem agree_fn (n : Nat) (v : Value) (w : World) (dk : Nat) (di : Int) (db : Int) (ds : ByteArray) (q : Option Addr) (m c : Nat) (id : Int) (tp : ByteArray) (at_ un : Int) (rp : ByteArray) (co pr hp : Int) (p : Option Addr) (sz cap : Nat) (hv : v = .slice p sz cap) :
    CallsIn Fence.wide n Tryd.prog 21 #[v, .agg #[.int .i64 id, .string tp, .int .i64 (dk : Nat), .int .i64 di, .int .u64 db, .string ds, .slice q m c, .int .i64 at_, .int .i64 un, .string rp, .int .i64 co, .int .i64 pr, .int .i64 hp]] w fun e w' => e = .returned (.func (.func 36) #[] #[.pointer (some ⟨w.heap.size, 0, none⟩), .pointer (some ⟨w.heap.size + 1, 0, none⟩)]) ∧ w' = (w.alloc (.cells #[v] 22)).alloc (.cells #[.int .i64 id, .string tp, .int .i64 (dk : Nat), .int .i64 di, .int .u64 db, .string ds, .slice q m c, .int .i64 at_, .int .i64 un, .string rp, .int .i64 co, .int .i64 pr, .int .i64 hp] 28) := by
  subst hv
  refine callsIn_of_wp Tryd.func21 rfl trivial ?_ rfl
  simp only [Tryd.ntmps21, List.size_toArray, List.length_cons, List.length_nil, Nat.reduceAdd, Nat.reduceSub, Array.replicate_succ, Array.replicate_zero, List.push_toArray, List.append_toArray, List.nil_append, List.cons_append]
  gi_wp2
  go_ret
  exact ⟨rfl, rfl⟩
end Go.Proofs.YtpgdiekpeceicaaDoor
