/- ROUTE: the law RouteKinds. -/
import Derived.Test.YtpgdiekpeceicaaDoorRouteLawB
namespace Go.Proofs.YtpgdiekpeceicaaDoor
open Go Go.RowKit Go.Shelf Go.Sort
attribute [local go_sem ↓] Go.wp_at_zero Go.wp_at_succ

theorem kept_regrown {W1 : World} {B : Nat} {mv : Array Value} {t : TypeId} (W : World) (hb : Below W1.heap.size W1 W) (h : W1.heap[B]? = some (.cells mv t (0, 0))) (d : Nat) (os : Array Obj) : (grow (redrawn W d) os).heap[B]? = some (.cells mv t (0, 0)) :=
  ((below_regrown W d os).block B (Nat.lt_of_lt_of_le (Array.getElem?_eq_some_iff.1 h).1 hb.size)).trans ((hb.block B (Array.getElem?_eq_some_iff.1 h).1).trans h)
theorem cell_kept {W : World} {a : Addr} {v : Value} (h : W.cell? a = some v) (d : Nat) (os : Array Obj) : (grow (redrawn W d) os).cell? a = some v := cell_regrown h d os
theorem flat26 {a0 a1 a2 a3 a4 a5 a6 a7 a8 a9 a10 a11 a12 a13 a14 a15 a16 a17 a18 a19 a20 a21 a22 a23 a24 a25 : Prop} (x : a0 ∧ a1 ∧ a2 ∧ a3 ∧ a4 ∧ a5 ∧ a6 ∧ a7 ∧ a8 ∧ a9 ∧ a10 ∧ a11 ∧ a12) (y : a13 ∧ a14 ∧ a15 ∧ a16 ∧ a17 ∧ a18 ∧ a19 ∧ a20 ∧ a21 ∧ a22 ∧ a23 ∧ a24 ∧ a25) : a0 ∧ a1 ∧ a2 ∧ a3 ∧ a4 ∧ a5 ∧ a6 ∧ a7 ∧ a8 ∧ a9 ∧ a10 ∧ a11 ∧ a12 ∧ a13 ∧ a14 ∧ a15 ∧ a16 ∧ a17 ∧ a18 ∧ a19 ∧ a20 ∧ a21 ∧ a22 ∧ a23 ∧ a24 ∧ a25 :=
  ⟨x.1, x.2.1, x.2.2.1, x.2.2.2.1, x.2.2.2.2.1, x.2.2.2.2.2.1, x.2.2.2.2.2.2.1, x.2.2.2.2.2.2.2.1, x.2.2.2.2.2.2.2.2.1, x.2.2.2.2.2.2.2.2.2.1, x.2.2.2.2.2.2.2.2.2.2.1, x.2.2.2.2.2.2.2.2.2.2.2.1, x.2.2.2.2.2.2.2.2.2.2.2.2, y⟩
theorem hold_regrown {P : Program} {f : FuncId} {args : Array Value} {w : World} {d : Nat} {os : Array Obj} {b : Bool} (h : Calls P f args (grow (redrawn w d) os) (HoldPost (grow (redrawn w d) os) b)) : Calls P f args (grow (redrawn w d) os) fun e w'' => e = .returned (.bool b) ∧ ∃ p : Regrown, w'' = grow (redrawn w p.d) p.os := Calls.regrown_of h

set_option maxRecDepth 100000 in
set_option maxHeartbeats 4000000 in
theorem kinds_no (k : Nat) (p : Option Addr) (cap : Nat) (l : List Rt) (w : World) (hl : Rts w k p l) (hsz : ∀ r ∈ l, r.fi.size ≤ 1048576) (hT : Tabs w) (k2 : Nat)
    (kd : Int) (di : Int) (db : Int) (ds : ByteArray) (q : Option Addr) (m c : Nat) (id : Int) (tp : ByteArray) (at_ un : Int) (rp : ByteArray) (co pr hp : Int) (htp : tp.size ≤ 1048576) (hD : DtIs w k2 [.int .i64 kd, .int .i64 di, .int .u64 db, .string ds, .slice q m c]) (kd2 : Int) (di2 : Int) (db2 : Int) (ds2 : ByteArray) (q2 : Option Addr) (m2 c2 : Nat) (id2 : Int) (tp2 : ByteArray) (at_2 un2 : Int) (rp2 : ByteArray) (co2 pr2 hp2 : Int)
    (hno : ¬ (l.length ≤ 400 ∧ (∀ r ∈ l, OkW k r.want) ∧ 0 ≤ kd ∧ kd < 14)) :
    Calls Tryd.prog 6 #[.slice p l.length cap, .agg #[.int .i64 id, .string tp, .int .i64 kd, .int .i64 di, .int .u64 db, .string ds, .slice q m c, .int .i64 at_, .int .i64 un, .string rp, .int .i64 co, .int .i64 pr, .int .i64 hp], .agg #[.int .i64 id2, .string tp2, .int .i64 kd2, .int .i64 di2, .int .u64 db2, .string ds2, .slice q2 m2 c2, .int .i64 at_2, .int .i64 un2, .string rp2, .int .i64 co2, .int .i64 pr2, .int .i64 hp2]] w (HoldPost w true) := by
  have HB0 : Hid (Below w.heap.size w ((w.alloc (.cells #[.int .i64 id, .string tp, .int .i64 kd, .int .i64 di, .int .u64 db, .string ds, .slice q m c, .int .i64 at_, .int .i64 un, .string rp, .int .i64 co, .int .i64 pr, .int .i64 hp] 28)).alloc (.cells #[.int .i64 id2, .string tp2, .int .i64 kd2, .int .i64 di2, .int .u64 db2, .string ds2, .slice q2 m2 c2, .int .i64 at_2, .int .i64 un2, .string rp2, .int .i64 co2, .int .i64 pr2, .int .i64 hp2] 28))) := ((Below.refl _ _).alloc (Nat.le_refl _) _).alloc (by simp) _
  have CF : Hid (∀ W, Below w.heap.size w W → Calls Tryd.prog 7 #[.slice p l.length cap, .agg #[.int .i64 id, .string tp, .int .i64 kd, .int .i64 di, .int .u64 db, .string ds, .slice q m c, .int .i64 at_, .int .i64 un, .string rp, .int .i64 co, .int .i64 pr, .int .i64 hp]] W (HoldPost W false)) := fun W hb => fit_not (fit_any k p cap l W (hl.below hb) hsz (hT.below hb) k2 kd di db ds q m c id tp at_ un rp co pr hp htp (hD.below hb)) hno
  have CA : Hid (∀ W, Below w.heap.size w W → Calls Tryd.prog 8 #[] W (HoldPost W true)) := fun W hb => awake_any W (hT.below hb)
  obtain ⟨PP, hPP⟩ : ∃ PP, HoldPost w true = PP := ⟨_, rfl⟩
  rw [hPP]
  have HPP := Lib.hid hPP
  clear hPP hl hT hD hno hsz
  go_enter Tryd.func6, Tryd.ntmps6
  go_wp2_with fail
  refine (CF.out _ HB0.out).mono ?_
  rintro e W1 ⟨rfl, hb1⟩
  have HB1 := Lib.hid (HB0.out.trans (hb1.mono HB0.out.size))
  clear hb1 CF
  go_wp2_with fail
  refine (CA.out _ HB1.out).mono ?_
  rintro e W2 ⟨rfl, hb2⟩
  have HB2 := Lib.hid (HB1.out.trans (hb2.mono HB1.out.size))
  clear hb2 CA
  go_wp2_with fail
  rw [← HPP.out]
  exact ⟨rfl, HB2.out⟩

set_option maxRecDepth 100000 in
set_option maxHeartbeats 16000000 in
theorem kinds_yes (k : Nat) (p : Option Addr) (cap : Nat) (l : List Rt) (w : World) (hl : Rts w k p l) (hsz : ∀ r ∈ l, r.fi.size ≤ 1048576) (hT : Tabs w) (hT2 : Tab10 w) (k2 k3 : Nat)
    (dk : Nat) (di : Int) (db : Int) (ds : ByteArray) (q : Option Addr) (m c : Nat) (id : Int) (tp : ByteArray) (at_ un : Int) (rp : ByteArray) (co pr hp : Int) (htp : tp.size ≤ 1048576) (hD : DtIs w k2 [.int .i64 (dk : Nat), .int .i64 di, .int .u64 db, .string ds, .slice q m c]) (di2 : Int) (db2 : Int) (ds2 : ByteArray) (q2 : Option Addr) (m2 c2 : Nat) (id2 : Int) (tp2 : ByteArray) (at_2 un2 : Int) (rp2 : ByteArray) (co2 pr2 hp2 : Int) (hD2 : DtIs w k3 [.int .i64 (dk : Nat), .int .i64 di2, .int .u64 db2, .string ds2, .slice q2 m2 c2])
    (hok : ∀ r ∈ l, OkW k r.want) (hdk : dk < 14) :
    Calls Tryd.prog 6 #[.slice p l.length cap, .agg #[.int .i64 id, .string tp, .int .i64 (dk : Nat), .int .i64 di, .int .u64 db, .string ds, .slice q m c, .int .i64 at_, .int .i64 un, .string rp, .int .i64 co, .int .i64 pr, .int .i64 hp], .agg #[.int .i64 id2, .string tp2, .int .i64 (dk : Nat), .int .i64 di2, .int .u64 db2, .string ds2, .slice q2 m2 c2, .int .i64 at_2, .int .i64 un2, .string rp2, .int .i64 co2, .int .i64 pr2, .int .i64 hp2]] w (HoldPost w true) := by
  have HOK : Hid (∀ r ∈ l, OkR k r) := fun r hr => ⟨hok r hr, hsz r hr⟩
  have HB0 : Hid (Below w.heap.size w ((w.alloc (.cells #[.int .i64 id, .string tp, .int .i64 (dk : Nat), .int .i64 di, .int .u64 db, .string ds, .slice q m c, .int .i64 at_, .int .i64 un, .string rp, .int .i64 co, .int .i64 pr, .int .i64 hp] 28)).alloc (.cells #[.int .i64 id2, .string tp2, .int .i64 (dk : Nat), .int .i64 di2, .int .u64 db2, .string ds2, .slice q2 m2 c2, .int .i64 at_2, .int .i64 un2, .string rp2, .int .i64 co2, .int .i64 pr2, .int .i64 hp2] 28))) := ((Below.refl _ _).alloc (Nat.le_refl _) _).alloc (by simp) _
  have HA1 : Hid (∀ W, Below (w.heap.size + 2) ((w.alloc (.cells #[.int .i64 id, .string tp, .int .i64 (dk : Nat), .int .i64 di, .int .u64 db, .string ds, .slice q m c, .int .i64 at_, .int .i64 un, .string rp, .int .i64 co, .int .i64 pr, .int .i64 hp] 28)).alloc (.cells #[.int .i64 id2, .string tp2, .int .i64 (dk : Nat), .int .i64 di2, .int .u64 db2, .string ds2, .slice q2 m2 c2, .int .i64 at_2, .int .i64 un2, .string rp2, .int .i64 co2, .int .i64 pr2, .int .i64 hp2] 28)) W → W.heap[w.heap.size]? = some (.cells #[.int .i64 id, .string tp, .int .i64 (dk : Nat), .int .i64 di, .int .u64 db, .string ds, .slice q m c, .int .i64 at_, .int .i64 un, .string rp, .int .i64 co, .int .i64 pr, .int .i64 hp] 28 (0, 0)) ∧ W.heap[w.heap.size + 1]? = some (.cells #[.int .i64 id2, .string tp2, .int .i64 (dk : Nat), .int .i64 di2, .int .u64 db2, .string ds2, .slice q2 m2 c2, .int .i64 at_2, .int .i64 un2, .string rp2, .int .i64 co2, .int .i64 pr2, .int .i64 hp2] 28 (0, 0))) := fun W hb =>
    ⟨(hb.block _ (by omega)).trans ((Below.heap_alloc _ _ _ (by simp)).trans (heap_alloc_new _ _)), (hb.block _ (by omega)).trans (by have h := heap_alloc_new (w.alloc (.cells #[.int .i64 id, .string tp, .int .i64 (dk : Nat), .int .i64 di, .int .u64 db, .string ds, .slice q m c, .int .i64 at_, .int .i64 un, .string rp, .int .i64 co, .int .i64 pr, .int .i64 hp] 28)) (.cells #[.int .i64 id2, .string tp2, .int .i64 (dk : Nat), .int .i64 di2, .int .u64 db2, .string ds2, .slice q2 m2 c2, .int .i64 at_2, .int .i64 un2, .string rp2, .int .i64 co2, .int .i64 pr2, .int .i64 hp2] 28); simpa using h)⟩
  have CF : Hid (∀ W, Below w.heap.size w W → Calls Tryd.prog 7 #[.slice p l.length cap, .agg #[.int .i64 id, .string tp, .int .i64 (dk : Nat), .int .i64 di, .int .u64 db, .string ds, .slice q m c, .int .i64 at_, .int .i64 un, .string rp, .int .i64 co, .int .i64 pr, .int .i64 hp]] W (FitPost W (l.length ≤ 400 ∧ (∀ r ∈ l, OkW k r.want) ∧ (0 : Int) ≤ (dk : Nat) ∧ ((dk : Nat) : Int) < 14))) := fun W hb => fit_any k p cap l W (hl.below hb) hsz (hT.below hb) k2 _ di db ds q m c id tp at_ un rp co pr hp htp (hD.below hb)
  have CV : Hid (∀ W, Below w.heap.size w W → Calls Tryd.prog 18 #[.agg #[.int .i64 (dk : Nat), .int .i64 di2, .int .u64 db2, .string ds2, .slice q2 m2 c2]] W (ValidPost W (dk : Nat))) := fun W hb => valid_any k3 W _ di2 db2 ds2 q2 m2 c2 (hD2.below hb)
  have CA : Hid (∀ W, Below w.heap.size w W → Calls Tryd.prog 8 #[] W (HoldPost W true)) := fun W hb => awake_any W (hT.below hb)
  have CE : Hid (∀ W1 W, Below w.heap.size w W1 → Below W1.heap.size W1 W → Calls Tryd.prog 9 #[.slice p l.length cap, .agg #[.int .i64 id, .string tp, .int .i64 (dk : Nat), .int .i64 di, .int .u64 db, .string ds, .slice q m c, .int .i64 at_, .int .i64 un, .string rp, .int .i64 co, .int .i64 pr, .int .i64 hp]] W (FindPost W1 W (findR (agFrom k tp dk 0 l)))) := fun W1 W h1 h2 => find_behind h2 (find_any k p cap l W (hl.below (h1.trans (h2.mono h1.size))) HOK.out (hT.below (h1.trans (h2.mono h1.size))) dk hdk di db ds q m c id tp at_ un rp co pr hp htp)
  have CR : Hid (∀ W1 W, Below w.heap.size w W1 → Below W1.heap.size W1 W → Calls Tryd.prog 9 #[.slice p l.length cap, .agg #[.int .i64 id2, .string tp, .int .i64 (dk : Nat), .int .i64 di2, .int .u64 db2, .string ds2, .slice q2 m2 c2, .int .i64 at_2, .int .i64 un2, .string rp2, .int .i64 co2, .int .i64 pr2, .int .i64 hp2]] W (FindPost W1 W (findR (agFrom k tp dk 0 l)))) := fun W1 W h1 h2 => find_behind h2 (find_any k p cap l W (hl.below (h1.trans (h2.mono h1.size))) HOK.out (hT.below (h1.trans (h2.mono h1.size))) dk hdk di2 db2 ds2 q2 m2 c2 id2 tp at_2 un2 rp2 co2 pr2 hp2 htp)
  have CX : Hid (∀ W, Below w.heap.size w W → Calls Tryd.prog 16 #[.slice p l.length cap, .agg #[.int .i64 id, .string tp, .int .i64 (dk : Nat), .int .i64 di, .int .u64 db, .string ds, .slice q m c, .int .i64 at_, .int .i64 un, .string rp, .int .i64 co, .int .i64 pr, .int .i64 hp]] W (StrPost W (explR k tp dk (findR (agFrom k tp dk 0 l)).2 0 l))) := fun W hb => explain_any k p cap l W (hl.below hb) HOK.out (hT.below hb) (hT2.below hb) dk hdk di db ds q m c id tp at_ un rp co pr hp htp
  have CY : Hid (∀ W, Below w.heap.size w W → Calls Tryd.prog 16 #[.slice p l.length cap, .agg #[.int .i64 id2, .string tp, .int .i64 (dk : Nat), .int .i64 di2, .int .u64 db2, .string ds2, .slice q2 m2 c2, .int .i64 at_2, .int .i64 un2, .string rp2, .int .i64 co2, .int .i64 pr2, .int .i64 hp2]] W (StrPost W (explR k tp dk (findR (agFrom k tp dk 0 l)).2 0 l))) := fun W hb => explain_any k p cap l W (hl.below hb) HOK.out (hT.below hb) (hT2.below hb) dk hdk di2 db2 ds2 q2 m2 c2 id2 tp at_2 un2 rp2 co2 pr2 hp2 htp
  generalize findR (agFrom k tp dk 0 l) = T at *
  obtain ⟨is, el⟩ := T
  simp only at CE CR CX CY
  generalize explR k tp dk el 0 l = X at *
  obtain ⟨PP, hPP⟩ : ∃ PP, HoldPost w true = PP := ⟨_, rfl⟩
  rw [hPP]
  have HPP := Lib.hid hPP
  clear hPP hl hT hT2 hD hD2 hsz hok
  go_enter Tryd.func6, Tryd.ntmps6
  go_wp2_with fail
  refine (CF.out _ HB0.out).mono ?_
  rintro e W1 ⟨b1, rfl, -, hb1⟩
  have H1 : Hid (Below (w.heap.size + 2) ((w.alloc (.cells #[.int .i64 id, .string tp, .int .i64 (dk : Nat), .int .i64 di, .int .u64 db, .string ds, .slice q m c, .int .i64 at_, .int .i64 un, .string rp, .int .i64 co, .int .i64 pr, .int .i64 hp] 28)).alloc (.cells #[.int .i64 id2, .string tp2, .int .i64 (dk : Nat), .int .i64 di2, .int .u64 db2, .string ds2, .slice q2 m2 c2, .int .i64 at_2, .int .i64 un2, .string rp2, .int .i64 co2, .int .i64 pr2, .int .i64 hp2] 28)) W1) := by show Below _ _ _; simpa using hb1
  have HB1 := Lib.hid (HB0.out.trans (hb1.mono HB0.out.size))
  have hs1 : w.heap.size + 2 ≤ W1.heap.size := by have := hb1.size; simpa using this
  clear hb1 CF
  cases b1 with
  | false =>
    go_wp2_with fail
    refine (CA.out _ HB1.out).mono ?_
    rintro e W2 ⟨rfl, hb2⟩
    have HB2 := Lib.hid (HB1.out.trans (hb2.mono HB1.out.size))
    clear hb2 CA
    go_wp2_with fail
    rw [← HPP.out]
    exact ⟨rfl, HB2.out⟩
  | true =>
    obtain ⟨-, hO⟩ := HA1.out W1 H1.out
    obtain ⟨-, -, o2, o3, o4, o5, o6, -⟩ := msg_cells hO
    clear hO
    go_wp2_with fail
    refine (CV.out _ HB1.out).mono ?_
    rintro e W2 ⟨b2, rfl, -, hb2⟩
    have H2 := Lib.hid (H1.out.trans (hb2.mono hs1))
    have HB2 := Lib.hid (HB1.out.trans (hb2.mono HB1.out.size))
    have hs2 : w.heap.size + 2 ≤ W2.heap.size := Nat.le_trans hs1 hb2.size
    clear hb2 CV o2 o3 o4 o5 o6 H1 HB1
    cases b2 with
    | false =>
      go_wp2_with fail
      refine (CA.out _ HB2.out).mono ?_
      rintro e W3 ⟨rfl, hb3⟩
      have HB3 := Lib.hid (HB2.out.trans (hb3.mono HB2.out.size))
      clear hb3 CA
      go_wp2_with fail
      rw [← HPP.out]
      exact ⟨rfl, HB3.out⟩
    | true =>
      have HH := HA1.out W2 H2.out
      obtain ⟨-, m1, m2x, -⟩ := msg_cells HH.1
      obtain ⟨-, o1, o2, -⟩ := msg_cells HH.2
      have z1 := frz HH.2 1
      have HHX := Lib.hid HH
      clear HH HA1
      go_wp2_with fail
      refine wp_world (fun W => Below w.heap.size w W ∧ W.heap[w.heap.size]? = some (.cells #[.int .i64 id, .string tp, .int .i64 (dk : Nat), .int .i64 di, .int .u64 db, .string ds, .slice q m c, .int .i64 at_, .int .i64 un, .string rp, .int .i64 co, .int .i64 pr, .int .i64 hp] 28 (0, 0)) ∧ W.heap[w.heap.size + 1]? = some (.cells #[.int .i64 id2, .string tp, .int .i64 (dk : Nat), .int .i64 di2, .int .u64 db2, .string ds2, .slice q2 m2 c2, .int .i64 at_2, .int .i64 un2, .string rp2, .int .i64 co2, .int .i64 pr2, .int .i64 hp2] 28 (0, 0)) ∧ w.heap.size + 2 ≤ W.heap.size)
        ⟨HB2.out.setCell (by simp) _, (Below.heap_setCell _ _ _ _ (by simp)).trans HHX.out.1, heap_setCell_same _ _ 1 _ _ _ HHX.out.2, by simpa [World.setCell] using hs2⟩ (fun W1 hW1 => ?_)
      obtain ⟨hbw, hM1, hM2, hs1'⟩ := hW1
      have HB1 := Lib.hid hbw
      have HM1 := Lib.hid hM1
      have HM2 := Lib.hid hM2
      have hw1 : w.heap.size < W1.heap.size := by omega
      have hw2 : w.heap.size + 1 < W1.heap.size := by omega
      have HM : Hid (∀ W, Below W1.heap.size W1 W → W.cell? ⟨w.heap.size, 0, none⟩ = some (.int .i64 id) ∧ W.cell? ⟨w.heap.size, 1, none⟩ = some (.string tp) ∧ W.cell? ⟨w.heap.size, 2, none⟩ = some (.int .i64 (dk : Nat)) ∧ W.cell? ⟨w.heap.size, 3, none⟩ = some (.int .i64 di) ∧ W.cell? ⟨w.heap.size, 4, none⟩ = some (.int .u64 db) ∧ W.cell? ⟨w.heap.size, 5, none⟩ = some (.string ds) ∧ W.cell? ⟨w.heap.size, 6, none⟩ = some (.slice q m c) ∧ W.cell? ⟨w.heap.size, 7, none⟩ = some (.int .i64 at_) ∧ W.cell? ⟨w.heap.size, 8, none⟩ = some (.int .i64 un) ∧ W.cell? ⟨w.heap.size, 9, none⟩ = some (.string rp) ∧ W.cell? ⟨w.heap.size, 10, none⟩ = some (.int .i64 co) ∧ W.cell? ⟨w.heap.size, 11, none⟩ = some (.int .i64 pr) ∧ W.cell? ⟨w.heap.size, 12, none⟩ = some (.int .i64 hp) ∧ W.cell? ⟨w.heap.size + 1, 0, none⟩ = some (.int .i64 id2) ∧ W.cell? ⟨w.heap.size + 1, 1, none⟩ = some (.string tp) ∧ W.cell? ⟨w.heap.size + 1, 2, none⟩ = some (.int .i64 (dk : Nat)) ∧ W.cell? ⟨w.heap.size + 1, 3, none⟩ = some (.int .i64 di2) ∧ W.cell? ⟨w.heap.size + 1, 4, none⟩ = some (.int .u64 db2) ∧ W.cell? ⟨w.heap.size + 1, 5, none⟩ = some (.string ds2) ∧ W.cell? ⟨w.heap.size + 1, 6, none⟩ = some (.slice q2 m2 c2) ∧ W.cell? ⟨w.heap.size + 1, 7, none⟩ = some (.int .i64 at_2) ∧ W.cell? ⟨w.heap.size + 1, 8, none⟩ = some (.int .i64 un2) ∧ W.cell? ⟨w.heap.size + 1, 9, none⟩ = some (.string rp2) ∧ W.cell? ⟨w.heap.size + 1, 10, none⟩ = some (.int .i64 co2) ∧ W.cell? ⟨w.heap.size + 1, 11, none⟩ = some (.int .i64 pr2) ∧ W.cell? ⟨w.heap.size + 1, 12, none⟩ = some (.int .i64 hp2)) := fun W hb =>
        flat26 (msg_cells ((hb.block _ hw1).trans HM1.out)) (msg_cells ((hb.block _ hw2).trans HM2.out))
      clear m1 m2x o1 o2 z1 HHX HB2 H2 hbw hM1 hM2 hs2 hs1 hs1'
      go_cut [7, 8] (fun s5 s6 wx => ∃ (b5 b6 : Nat) (p5 p6 : Option Addr) (c5 c6 : Nat), s5 = .pointer (some ⟨b5, 0, none⟩) ∧ s6 = .pointer (some ⟨b6, 0, none⟩) ∧ wx.cell? ⟨b5, 0, none⟩ = some (.slice p5 is.length c5) ∧ wx.cell? ⟨b5, 1, none⟩ = some (.bool el) ∧ wx.cell? ⟨b6, 0, none⟩ = some (.slice p6 is.length c6) ∧ wx.cell? ⟨b6, 1, none⟩ = some (.bool el) ∧
        Ints wx (.slice p5 is.length c5) is ∧ Ints wx (.slice p6 is.length c6) is ∧ Below W1.heap.size W1 wx)
      case first =>
        have ⟨x0, x1, x2, x3, x4, x5, x6, x7, x8, x9, x10, x11, x12, x13, x14, x15, x16, x17, x18, x19, x20, x21, x22, x23, x24, x25⟩ := HM.out W1 (Below.refl _ _)
        clear CX CY CA HPP
        go_region_held3 (fun w' => w'.cell? ⟨w.heap.size, 0, none⟩ = some (.int .i64 id) ∧ w'.cell? ⟨w.heap.size, 1, none⟩ = some (.string tp) ∧ w'.cell? ⟨w.heap.size, 2, none⟩ = some (.int .i64 (dk : Nat)) ∧ w'.cell? ⟨w.heap.size, 3, none⟩ = some (.int .i64 di) ∧ w'.cell? ⟨w.heap.size, 4, none⟩ = some (.int .u64 db) ∧ w'.cell? ⟨w.heap.size, 5, none⟩ = some (.string ds) ∧ w'.cell? ⟨w.heap.size, 6, none⟩ = some (.slice q m c) ∧ w'.cell? ⟨w.heap.size, 7, none⟩ = some (.int .i64 at_) ∧ w'.cell? ⟨w.heap.size, 8, none⟩ = some (.int .i64 un) ∧ w'.cell? ⟨w.heap.size, 9, none⟩ = some (.string rp) ∧ w'.cell? ⟨w.heap.size, 10, none⟩ = some (.int .i64 co) ∧ w'.cell? ⟨w.heap.size, 11, none⟩ = some (.int .i64 pr) ∧ w'.cell? ⟨w.heap.size, 12, none⟩ = some (.int .i64 hp) ∧ w'.cell? ⟨w.heap.size + 1, 0, none⟩ = some (.int .i64 id2) ∧ w'.cell? ⟨w.heap.size + 1, 1, none⟩ = some (.string tp) ∧ w'.cell? ⟨w.heap.size + 1, 2, none⟩ = some (.int .i64 (dk : Nat)) ∧ w'.cell? ⟨w.heap.size + 1, 3, none⟩ = some (.int .i64 di2) ∧ w'.cell? ⟨w.heap.size + 1, 4, none⟩ = some (.int .u64 db2) ∧ w'.cell? ⟨w.heap.size + 1, 5, none⟩ = some (.string ds2) ∧ w'.cell? ⟨w.heap.size + 1, 6, none⟩ = some (.slice q2 m2 c2) ∧ w'.cell? ⟨w.heap.size + 1, 7, none⟩ = some (.int .i64 at_2) ∧ w'.cell? ⟨w.heap.size + 1, 8, none⟩ = some (.int .i64 un2) ∧ w'.cell? ⟨w.heap.size + 1, 9, none⟩ = some (.string rp2) ∧ w'.cell? ⟨w.heap.size + 1, 10, none⟩ = some (.int .i64 co2) ∧ w'.cell? ⟨w.heap.size + 1, 11, none⟩ = some (.int .i64 pr2) ∧ w'.cell? ⟨w.heap.size + 1, 12, none⟩ = some (.int .i64 hp2)) (first | exact HM.out _ (by repeat (first | with_reducible exact hd6 | with_reducible exact hd5 | with_reducible exact Below.refl _ _ | with_reducible refine bel_alloc ?_ _ | with_reducible refine bel_drew ?_ | with_reducible refine bel_set ?_ _ _ (by first | omega | (simp <;> omega)))) | go_keep)
          (first
            | (go_at_call 9; (with_reducible refine (CE.out W1 _ HB1.out (by repeat (first | with_reducible exact hd6 | with_reducible exact hd5 | with_reducible exact Below.refl _ _ | with_reducible refine bel_alloc ?_ _ | with_reducible refine bel_drew ?_ | with_reducible refine bel_set ?_ _ _ (by first | omega | (simp <;> omega))))).mono ?_); rintro e w2 ⟨p5, c5x, rfl, hb5, hd5, HI5⟩; have HB5 := Lib.hid hb5; have hs5 := hd5.size; have hz5 := hb5.size; (try (simp at hz5)); (first | (obtain ⟨hy5, hx5⟩ := lt_two hz5) | (have hy5 := lt_one hz5) | skip); (first | (have ha5 : W1.heap.size < w2.heap.size := (by omega)) | skip); (first | (have hb5' : W1.heap.size + 1 < w2.heap.size := (by omega)) | skip); obtain ⟨hc5, hf5⟩ := bcell hb5; clear hb5)
            | (go_at_call 9; (with_reducible refine (CR.out W1 _ HB1.out (by repeat (first | with_reducible exact hd6 | with_reducible exact hd5 | with_reducible exact Below.refl _ _ | with_reducible refine bel_alloc ?_ _ | with_reducible refine bel_drew ?_ | with_reducible refine bel_set ?_ _ _ (by first | omega | (simp <;> omega))))).mono ?_); rintro e w3 ⟨p6, c6x, rfl, hb6, hd6, HI6⟩; have HB6 := Lib.hid hb6; have hs6 := hd6.size; have hz6 := hb6.size; (try (simp at hz6)); (first | (obtain ⟨hy6, hx6⟩ := lt_two hz6) | (have hy6 := lt_one hz6) | skip); (first | (have ha6 : W1.heap.size < w3.heap.size := (by omega)) | skip); (first | (have hb6' : W1.heap.size + 1 < w3.heap.size := (by omega)) | skip); obtain ⟨hc6, hf6⟩ := bcell hb6; clear hb6))
        all_goals (go_wp2_with fail; go_meet; case rel => (clear x0 x1 x2 x3 x4 x5 x6 x7 x8 x9 x10 x11 x12 x13 x14 x15 x16 x17 x18 x19 x20 x21 x22 x23 x24 x25 CE CR HB1 HM HOK HB0; refine ⟨_, _, p5, p6, c5x, c6x, rfl, rfl, ?_, ?_, ?_, ?_, HI5.out _ (by repeat (first | with_reducible exact KeptIn.refl _ _ | with_reducible refine KeptIn.alloc ?_ _ | with_reducible refine KeptIn.call ?_ HB6.out | with_reducible refine KeptIn.set ?_ _ _ (by first | omega | (simp <;> omega)))), HI6.out _ (by repeat (first | with_reducible exact KeptIn.refl _ _ | with_reducible refine KeptIn.alloc ?_ _ | with_reducible refine KeptIn.call ?_ HB6.out | with_reducible refine KeptIn.set ?_ _ _ (by first | omega | (simp <;> omega)))), (by repeat (first | with_reducible exact hd6 | with_reducible exact hd5 | with_reducible exact Below.refl _ _ | with_reducible refine bel_alloc ?_ _ | with_reducible refine bel_drew ?_ | with_reducible refine bel_set ?_ _ _ (by first | omega | (simp <;> omega))))⟩ <;> (go_simp; try (refine World.cell?_setCell_same' _ _ _ ?_; (repeat (first | (rw [World.cell?_setCell_other (by simp)]) | (rw [hc6 _ _ (by first | omega | (simp <;> omega))]) | (rw [hc5 _ _ (by first | omega | (simp <;> omega))]))); go_simp))))
      case rest =>
        obtain ⟨b5, b6, p5, p6, c5, c6, rfl, rfl, d0, d1, d2, d3, hi5, hi6, hbc⟩ := hcut
        have HBC : Hid (Below w.heap.size w wc) := HB1.out.trans (hbc.mono HB1.out.size)
        have HDN : Hid (∀ d os, Below w.heap.size w (grow (redrawn wc d) os)) := fun d os => HBC.out.trans ((below_regrown wc d os).mono HBC.out.size)
        have HC := Lib.hid (HM.out wc hbc)
        have m0y : ∀ d os, (grow (redrawn wc d) os).cell? ⟨w.heap.size, 0, none⟩ = some (.int .i64 id) := cell_kept (HC.out.1)
        have m1y : ∀ d os, (grow (redrawn wc d) os).cell? ⟨w.heap.size, 1, none⟩ = some (.string tp) := cell_kept (HC.out.2.1)
        have m2y : ∀ d os, (grow (redrawn wc d) os).cell? ⟨w.heap.size, 2, none⟩ = some (.int .i64 (dk : Nat)) := cell_kept (HC.out.2.2.1)
        have m3y : ∀ d os, (grow (redrawn wc d) os).cell? ⟨w.heap.size, 3, none⟩ = some (.int .i64 di) := cell_kept (HC.out.2.2.2.1)
        have m4y : ∀ d os, (grow (redrawn wc d) os).cell? ⟨w.heap.size, 4, none⟩ = some (.int .u64 db) := cell_kept (HC.out.2.2.2.2.1)
        have m5y : ∀ d os, (grow (redrawn wc d) os).cell? ⟨w.heap.size, 5, none⟩ = some (.string ds) := cell_kept (HC.out.2.2.2.2.2.1)
        have m6y : ∀ d os, (grow (redrawn wc d) os).cell? ⟨w.heap.size, 6, none⟩ = some (.slice q m c) := cell_kept (HC.out.2.2.2.2.2.2.1)
        have m7y : ∀ d os, (grow (redrawn wc d) os).cell? ⟨w.heap.size, 7, none⟩ = some (.int .i64 at_) := cell_kept (HC.out.2.2.2.2.2.2.2.1)
        have m8y : ∀ d os, (grow (redrawn wc d) os).cell? ⟨w.heap.size, 8, none⟩ = some (.int .i64 un) := cell_kept (HC.out.2.2.2.2.2.2.2.2.1)
        have m9y : ∀ d os, (grow (redrawn wc d) os).cell? ⟨w.heap.size, 9, none⟩ = some (.string rp) := cell_kept (HC.out.2.2.2.2.2.2.2.2.2.1)
        have m10y : ∀ d os, (grow (redrawn wc d) os).cell? ⟨w.heap.size, 10, none⟩ = some (.int .i64 co) := cell_kept (HC.out.2.2.2.2.2.2.2.2.2.2.1)
        have m11y : ∀ d os, (grow (redrawn wc d) os).cell? ⟨w.heap.size, 11, none⟩ = some (.int .i64 pr) := cell_kept (HC.out.2.2.2.2.2.2.2.2.2.2.2.1)
        have m12y : ∀ d os, (grow (redrawn wc d) os).cell? ⟨w.heap.size, 12, none⟩ = some (.int .i64 hp) := cell_kept (HC.out.2.2.2.2.2.2.2.2.2.2.2.2.1)
        have o0y : ∀ d os, (grow (redrawn wc d) os).cell? ⟨w.heap.size + 1, 0, none⟩ = some (.int .i64 id2) := cell_kept (HC.out.2.2.2.2.2.2.2.2.2.2.2.2.2.1)
        have o1y : ∀ d os, (grow (redrawn wc d) os).cell? ⟨w.heap.size + 1, 1, none⟩ = some (.string tp) := cell_kept (HC.out.2.2.2.2.2.2.2.2.2.2.2.2.2.2.1)
        have o2y : ∀ d os, (grow (redrawn wc d) os).cell? ⟨w.heap.size + 1, 2, none⟩ = some (.int .i64 (dk : Nat)) := cell_kept (HC.out.2.2.2.2.2.2.2.2.2.2.2.2.2.2.2.1)
        have o3y : ∀ d os, (grow (redrawn wc d) os).cell? ⟨w.heap.size + 1, 3, none⟩ = some (.int .i64 di2) := cell_kept (HC.out.2.2.2.2.2.2.2.2.2.2.2.2.2.2.2.2.1)
        have o4y : ∀ d os, (grow (redrawn wc d) os).cell? ⟨w.heap.size + 1, 4, none⟩ = some (.int .u64 db2) := cell_kept (HC.out.2.2.2.2.2.2.2.2.2.2.2.2.2.2.2.2.2.1)
        have o5y : ∀ d os, (grow (redrawn wc d) os).cell? ⟨w.heap.size + 1, 5, none⟩ = some (.string ds2) := cell_kept (HC.out.2.2.2.2.2.2.2.2.2.2.2.2.2.2.2.2.2.2.1)
        have o6y : ∀ d os, (grow (redrawn wc d) os).cell? ⟨w.heap.size + 1, 6, none⟩ = some (.slice q2 m2 c2) := cell_kept (HC.out.2.2.2.2.2.2.2.2.2.2.2.2.2.2.2.2.2.2.2.1)
        have o7y : ∀ d os, (grow (redrawn wc d) os).cell? ⟨w.heap.size + 1, 7, none⟩ = some (.int .i64 at_2) := cell_kept (HC.out.2.2.2.2.2.2.2.2.2.2.2.2.2.2.2.2.2.2.2.2.1)
        have o8y : ∀ d os, (grow (redrawn wc d) os).cell? ⟨w.heap.size + 1, 8, none⟩ = some (.int .i64 un2) := cell_kept (HC.out.2.2.2.2.2.2.2.2.2.2.2.2.2.2.2.2.2.2.2.2.2.1)
        have o9y : ∀ d os, (grow (redrawn wc d) os).cell? ⟨w.heap.size + 1, 9, none⟩ = some (.string rp2) := cell_kept (HC.out.2.2.2.2.2.2.2.2.2.2.2.2.2.2.2.2.2.2.2.2.2.2.1)
        have o10y : ∀ d os, (grow (redrawn wc d) os).cell? ⟨w.heap.size + 1, 10, none⟩ = some (.int .i64 co2) := cell_kept (HC.out.2.2.2.2.2.2.2.2.2.2.2.2.2.2.2.2.2.2.2.2.2.2.2.1)
        have o11y : ∀ d os, (grow (redrawn wc d) os).cell? ⟨w.heap.size + 1, 11, none⟩ = some (.int .i64 pr2) := cell_kept (HC.out.2.2.2.2.2.2.2.2.2.2.2.2.2.2.2.2.2.2.2.2.2.2.2.2.1)
        have o12y : ∀ d os, (grow (redrawn wc d) os).cell? ⟨w.heap.size + 1, 12, none⟩ = some (.int .i64 hp2) := cell_kept (HC.out.2.2.2.2.2.2.2.2.2.2.2.2.2.2.2.2.2.2.2.2.2.2.2.2.2)
        have r0 : ∀ d os, (grow (redrawn wc d) os).cell? ⟨b5, 0, none⟩ = some (.slice p5 is.length c5) := cell_kept d0
        have r1 : ∀ d os, (grow (redrawn wc d) os).cell? ⟨b5, 1, none⟩ = some (.bool el) := cell_kept d1
        have r2 : ∀ d os, (grow (redrawn wc d) os).cell? ⟨b6, 0, none⟩ = some (.slice p6 is.length c6) := cell_kept d2
        have r3 : ∀ d os, (grow (redrawn wc d) os).cell? ⟨b6, 1, none⟩ = some (.bool el) := cell_kept d3
        have CS : Hid (∀ d os, Calls Tryd.prog 11 #[.slice p5 is.length c5, .slice p6 is.length c6] (grow (redrawn wc d) os) (HoldPost (grow (redrawn wc d) os) true)) := fun d os => same_true ((hi5.below (below_regrown wc d os)).zs) ((hi6.below (below_regrown wc d os)).zs)
        clear hi5 hi6 CE CR hbc d0 d1 d2 d3 HM HC
        go_wp2_with fail
        refine wp_region_quiet_below (by kernel_rfl) (by kernel_rfl) ?_
        repeat (quiet_step (first | exact hold_regrown (CS.out _ _) | (with_reducible exact str_regrown (CX.out _ (HDN.out _ _))) | (with_reducible exact str_regrown (CY.out _ (HDN.out _ _))) | exact hold_regrown (CA.out _ (HDN.out _ _))))
        refine wpQuiet_nil ?_
        intro _ hw'
        obtain ⟨⟨dq, osq⟩, hw''⟩ := hw'
        subst hw''
        go_wp2_with fail
        rw [← HPP.out]
        exact ⟨rfl, HDN.out _ _⟩

set_option maxRecDepth 100000 in
set_option maxHeartbeats 16000000 in
theorem kinds_diff (k : Nat) (p : Option Addr) (cap : Nat) (l : List Rt) (w : World) (hl : Rts w k p l) (hsz : ∀ r ∈ l, r.fi.size ≤ 1048576) (hT : Tabs w) (k2 k3 : Nat)
    (dk : Nat) (di : Int) (db : Int) (ds : ByteArray) (q : Option Addr) (m c : Nat) (id : Int) (tp : ByteArray) (at_ un : Int) (rp : ByteArray) (co pr hp : Int) (htp : tp.size ≤ 1048576) (hD : DtIs w k2 [.int .i64 (dk : Nat), .int .i64 di, .int .u64 db, .string ds, .slice q m c]) (di2 : Int) (db2 : Int) (ds2 : ByteArray) (q2 : Option Addr) (m2 c2 : Nat) (id2 : Int) (tp2 : ByteArray) (at_2 un2 : Int) (rp2 : ByteArray) (co2 pr2 hp2 : Int) (kd2 : Int) (hD2 : DtIs w k3 [.int .i64 kd2, .int .i64 di2, .int .u64 db2, .string ds2, .slice q2 m2 c2]) (hne : kd2 ≠ (dk : Nat))
    :
    Calls Tryd.prog 6 #[.slice p l.length cap, .agg #[.int .i64 id, .string tp, .int .i64 (dk : Nat), .int .i64 di, .int .u64 db, .string ds, .slice q m c, .int .i64 at_, .int .i64 un, .string rp, .int .i64 co, .int .i64 pr, .int .i64 hp], .agg #[.int .i64 id2, .string tp2, .int .i64 kd2, .int .i64 di2, .int .u64 db2, .string ds2, .slice q2 m2 c2, .int .i64 at_2, .int .i64 un2, .string rp2, .int .i64 co2, .int .i64 pr2, .int .i64 hp2]] w (HoldPost w true) := by
  have HB0 : Hid (Below w.heap.size w ((w.alloc (.cells #[.int .i64 id, .string tp, .int .i64 (dk : Nat), .int .i64 di, .int .u64 db, .string ds, .slice q m c, .int .i64 at_, .int .i64 un, .string rp, .int .i64 co, .int .i64 pr, .int .i64 hp] 28)).alloc (.cells #[.int .i64 id2, .string tp2, .int .i64 kd2, .int .i64 di2, .int .u64 db2, .string ds2, .slice q2 m2 c2, .int .i64 at_2, .int .i64 un2, .string rp2, .int .i64 co2, .int .i64 pr2, .int .i64 hp2] 28))) := ((Below.refl _ _).alloc (Nat.le_refl _) _).alloc (by simp) _
  have HA1 : Hid (∀ W, Below (w.heap.size + 2) ((w.alloc (.cells #[.int .i64 id, .string tp, .int .i64 (dk : Nat), .int .i64 di, .int .u64 db, .string ds, .slice q m c, .int .i64 at_, .int .i64 un, .string rp, .int .i64 co, .int .i64 pr, .int .i64 hp] 28)).alloc (.cells #[.int .i64 id2, .string tp2, .int .i64 kd2, .int .i64 di2, .int .u64 db2, .string ds2, .slice q2 m2 c2, .int .i64 at_2, .int .i64 un2, .string rp2, .int .i64 co2, .int .i64 pr2, .int .i64 hp2] 28)) W → W.heap[w.heap.size]? = some (.cells #[.int .i64 id, .string tp, .int .i64 (dk : Nat), .int .i64 di, .int .u64 db, .string ds, .slice q m c, .int .i64 at_, .int .i64 un, .string rp, .int .i64 co, .int .i64 pr, .int .i64 hp] 28 (0, 0)) ∧ W.heap[w.heap.size + 1]? = some (.cells #[.int .i64 id2, .string tp2, .int .i64 kd2, .int .i64 di2, .int .u64 db2, .string ds2, .slice q2 m2 c2, .int .i64 at_2, .int .i64 un2, .string rp2, .int .i64 co2, .int .i64 pr2, .int .i64 hp2] 28 (0, 0))) := fun W hb =>
    ⟨(hb.block _ (by omega)).trans ((Below.heap_alloc _ _ _ (by simp)).trans (heap_alloc_new _ _)), (hb.block _ (by omega)).trans (by have h := heap_alloc_new (w.alloc (.cells #[.int .i64 id, .string tp, .int .i64 (dk : Nat), .int .i64 di, .int .u64 db, .string ds, .slice q m c, .int .i64 at_, .int .i64 un, .string rp, .int .i64 co, .int .i64 pr, .int .i64 hp] 28)) (.cells #[.int .i64 id2, .string tp2, .int .i64 kd2, .int .i64 di2, .int .u64 db2, .string ds2, .slice q2 m2 c2, .int .i64 at_2, .int .i64 un2, .string rp2, .int .i64 co2, .int .i64 pr2, .int .i64 hp2] 28); simpa using h)⟩
  have CF : Hid (∀ W, Below w.heap.size w W → Calls Tryd.prog 7 #[.slice p l.length cap, .agg #[.int .i64 id, .string tp, .int .i64 (dk : Nat), .int .i64 di, .int .u64 db, .string ds, .slice q m c, .int .i64 at_, .int .i64 un, .string rp, .int .i64 co, .int .i64 pr, .int .i64 hp]] W (FitPost W (l.length ≤ 400 ∧ (∀ r ∈ l, OkW k r.want) ∧ (0 : Int) ≤ (dk : Nat) ∧ ((dk : Nat) : Int) < 14))) := fun W hb => fit_any k p cap l W (hl.below hb) hsz (hT.below hb) k2 _ di db ds q m c id tp at_ un rp co pr hp htp (hD.below hb)
  have CV : Hid (∀ W, Below w.heap.size w W → Calls Tryd.prog 18 #[.agg #[.int .i64 kd2, .int .i64 di2, .int .u64 db2, .string ds2, .slice q2 m2 c2]] W (ValidPost W kd2)) := fun W hb => valid_any k3 W _ di2 db2 ds2 q2 m2 c2 (hD2.below hb)
  have CA : Hid (∀ W, Below w.heap.size w W → Calls Tryd.prog 8 #[] W (HoldPost W true)) := fun W hb => awake_any W (hT.below hb)
  obtain ⟨PP, hPP⟩ : ∃ PP, HoldPost w true = PP := ⟨_, rfl⟩
  rw [hPP]
  have HPP := Lib.hid hPP
  clear hPP hl hT hD hD2 hsz
  go_enter Tryd.func6, Tryd.ntmps6
  go_wp2_with fail
  refine (CF.out _ HB0.out).mono ?_
  rintro e W1 ⟨b1, rfl, -, hb1⟩
  have H1 : Hid (Below (w.heap.size + 2) ((w.alloc (.cells #[.int .i64 id, .string tp, .int .i64 (dk : Nat), .int .i64 di, .int .u64 db, .string ds, .slice q m c, .int .i64 at_, .int .i64 un, .string rp, .int .i64 co, .int .i64 pr, .int .i64 hp] 28)).alloc (.cells #[.int .i64 id2, .string tp2, .int .i64 kd2, .int .i64 di2, .int .u64 db2, .string ds2, .slice q2 m2 c2, .int .i64 at_2, .int .i64 un2, .string rp2, .int .i64 co2, .int .i64 pr2, .int .i64 hp2] 28)) W1) := by show Below _ _ _; simpa using hb1
  have HB1 := Lib.hid (HB0.out.trans (hb1.mono HB0.out.size))
  have hs1 : w.heap.size + 2 ≤ W1.heap.size := by have := hb1.size; simpa using this
  clear hb1 CF
  cases b1 with
  | false =>
    go_wp2_with fail
    refine (CA.out _ HB1.out).mono ?_
    rintro e W2 ⟨rfl, hb2⟩
    have HB2 := Lib.hid (HB1.out.trans (hb2.mono HB1.out.size))
    clear hb2 CA
    go_wp2_with fail
    rw [← HPP.out]
    exact ⟨rfl, HB2.out⟩
  | true =>
    obtain ⟨-, hO⟩ := HA1.out W1 H1.out
    obtain ⟨-, -, o2, o3, o4, o5, o6, -⟩ := msg_cells hO
    clear hO
    go_wp2_with fail
    refine (CV.out _ HB1.out).mono ?_
    rintro e W2 ⟨b2, rfl, -, hb2⟩
    have H2 := Lib.hid (H1.out.trans (hb2.mono hs1))
    have HB2 := Lib.hid (HB1.out.trans (hb2.mono HB1.out.size))
    have hs2 : w.heap.size + 2 ≤ W2.heap.size := Nat.le_trans hs1 hb2.size
    clear hb2 CV o2 o3 o4 o5 o6 H1 HB1
    cases b2 with
    | false =>
      go_wp2_with fail
      refine (CA.out _ HB2.out).mono ?_
      rintro e W3 ⟨rfl, hb3⟩
      have HB3 := Lib.hid (HB2.out.trans (hb3.mono HB2.out.size))
      clear hb3 CA
      go_wp2_with fail
      rw [← HPP.out]
      exact ⟨rfl, HB3.out⟩
    | true =>
      have HH := HA1.out W2 H2.out
      obtain ⟨-, -, m2x, -⟩ := msg_cells HH.1
      obtain ⟨-, -, o2, -⟩ := msg_cells HH.2
      have hne1 : (kd2 != (dk : Nat)) = true := by simp [hne]
      have hne2 : (kd2 == (dk : Nat)) = false := by simp [hne]
      clear HH HA1
      go_wp2_with fail
      refine (CA.out _ HB2.out).mono ?_
      rintro e W3 ⟨rfl, hb3⟩
      have HB3 := Lib.hid (HB2.out.trans (hb3.mono HB2.out.size))
      clear hb3 CA
      go_wp2_with fail
      rw [← HPP.out]
      exact ⟨rfl, HB3.out⟩

theorem routeKinds_any (k : Nat) (p : Option Addr) (cap : Nat) (l : List Rt) (w : World) (hl : Rts w k p l) (hsz : ∀ r ∈ l, r.fi.size ≤ 1048576) (hT : Tabs w) (hT2 : Tab10 w) (k2 : Nat)
    (kd : Int) (di : Int) (db : Int) (ds : ByteArray) (q : Option Addr) (m c : Nat) (id : Int) (tp : ByteArray) (at_ un : Int) (rp : ByteArray) (co pr hp : Int) (htp : tp.size ≤ 1048576) (hD : DtIs w k2 [.int .i64 kd, .int .i64 di, .int .u64 db, .string ds, .slice q m c]) (k3 : Nat) (kd2 : Int) (di2 : Int) (db2 : Int) (ds2 : ByteArray) (q2 : Option Addr) (m2 c2 : Nat) (id2 : Int) (tp2 : ByteArray) (at_2 un2 : Int) (rp2 : ByteArray) (co2 pr2 hp2 : Int) (hD2 : DtIs w k3 [.int .i64 kd2, .int .i64 di2, .int .u64 db2, .string ds2, .slice q2 m2 c2]) :
    Calls Tryd.prog 6 #[.slice p l.length cap, .agg #[.int .i64 id, .string tp, .int .i64 kd, .int .i64 di, .int .u64 db, .string ds, .slice q m c, .int .i64 at_, .int .i64 un, .string rp, .int .i64 co, .int .i64 pr, .int .i64 hp], .agg #[.int .i64 id2, .string tp2, .int .i64 kd2, .int .i64 di2, .int .u64 db2, .string ds2, .slice q2 m2 c2, .int .i64 at_2, .int .i64 un2, .string rp2, .int .i64 co2, .int .i64 pr2, .int .i64 hp2]] w (HoldPost w true) := by
  by_cases hf : l.length ≤ 400 ∧ (∀ r ∈ l, OkW k r.want) ∧ 0 ≤ kd ∧ kd < 14
  · obtain ⟨-, h2, h3, h4⟩ := hf
    obtain ⟨dk, rfl⟩ := Int.eq_ofNat_of_zero_le h3
    by_cases he : kd2 = (dk : Nat)
    · subst he
      exact kinds_yes k p cap l w hl hsz hT hT2 k2 k3 dk di db ds q m c id tp at_ un rp co pr hp htp hD di2 db2 ds2 q2 m2 c2 id2 tp2 at_2 un2 rp2 co2 pr2 hp2 hD2 h2 (by omega)
    · exact kinds_diff k p cap l w hl hsz hT k2 k3 dk di db ds q m c id tp at_ un rp co pr hp htp hD di2 db2 ds2 q2 m2 c2 id2 tp2 at_2 un2 rp2 co2 pr2 hp2 kd2 hD2 he
  · exact kinds_no k p cap l w hl hsz hT k2 kd di db ds q m c id tp at_ un rp co pr hp htp hD kd2 di2 db2 ds2 q2 m2 c2 id2 tp2 at_2 un2 rp2 co2 pr2 hp2 hf
end Go.Proofs.YtpgdiekpeceicaaDoor
