/- ROUTE: the law RouteExplains. -/
import Derived.Test.YtpgdiekpeceicaaDoorRouteAwake
import Derived.Lib.QuietBelow
namespace Go.Proofs.YtpgdiekpeceicaaDoor
open Go Go.RowKit Go.Shelf Go.Sort

theorem msg_kept {W : World} {B : Nat} {mv : Array Value} {t : TypeId} (h : W.heap[B]? = some (.cells mv t (0, 0))) (d : Nat) (os : Array Obj) : (grow (redrawn W d) os).heap[B]? = some (.cells mv t (0, 0)) :=
  ((below_regrown W d os).block B (Array.getElem?_eq_some_iff.1 h).1).trans h
theorem str_regrown {P : Program} {f : FuncId} {args : Array Value} {w : World} {d : Nat} {os : Array Obj} {l : List UInt8}
    (h : Calls P f args (grow (redrawn w d) os) (StrPost (grow (redrawn w d) os) l)) : Calls P f args (grow (redrawn w d) os) fun e w'' => e = .returned (.string ⟨l.toArray⟩) ∧ ∃ p : Regrown, w'' = grow (redrawn w p.d) p.os :=
  Calls.regrown_of (h.mono fun _ _ ⟨s, he, hs, hb⟩ => ⟨by rw [he]; obtain ⟨⟨a⟩⟩ := s; have e : a = l := hs; rw [e], hb⟩)

/-- the arguments are not fit: the law is what awake says -/
theorem fit_not {P : Program} {f : FuncId} {args : Array Value} {w : World} {F : Prop} (h : Calls P f args w (FitPost w F)) (hn : ¬ F) : Calls P f args w (HoldPost w false) :=
  h.mono fun _ _ ⟨b, he, hb, hw⟩ => ⟨by rw [he]; cases b; rfl; exact absurd (hb rfl) hn, hw⟩

set_option maxRecDepth 100000 in
set_option maxHeartbeats 4000000 in
theorem explains_no (k : Nat) (p : Option Addr) (cap : Nat) (l : List Rt) (w : World) (hl : Rts w k p l) (hsz : ∀ r ∈ l, r.fi.size ≤ 1048576) (hT : Tabs w) (k2 : Nat)
    (kd : Int) (di : Int) (db : Int) (ds : ByteArray) (q : Option Addr) (m c : Nat) (id : Int) (tp : ByteArray) (at_ un : Int) (rp : ByteArray) (co pr hp : Int) (htp : tp.size ≤ 1048576) (hD : DtIs w k2 [.int .i64 kd, .int .i64 di, .int .u64 db, .string ds, .slice q m c])
    (hno : ¬ (l.length ≤ 400 ∧ (∀ r ∈ l, OkW k r.want) ∧ 0 ≤ kd ∧ kd < 14)) :
    Calls Tryd.prog 5 #[.slice p l.length cap, .agg #[.int .i64 id, .string tp, .int .i64 kd, .int .i64 di, .int .u64 db, .string ds, .slice q m c, .int .i64 at_, .int .i64 un, .string rp, .int .i64 co, .int .i64 pr, .int .i64 hp]] w (HoldPost w true) := by
  have HB0 : Hid (Below w.heap.size w (w.alloc (.cells #[.int .i64 id, .string tp, .int .i64 kd, .int .i64 di, .int .u64 db, .string ds, .slice q m c, .int .i64 at_, .int .i64 un, .string rp, .int .i64 co, .int .i64 pr, .int .i64 hp] 28))) := (Below.refl _ _).alloc (Nat.le_refl _) _
  have CF : Hid (∀ W, Below w.heap.size w W → Calls Tryd.prog 7 #[.slice p l.length cap, .agg #[.int .i64 id, .string tp, .int .i64 kd, .int .i64 di, .int .u64 db, .string ds, .slice q m c, .int .i64 at_, .int .i64 un, .string rp, .int .i64 co, .int .i64 pr, .int .i64 hp]] W (HoldPost W false)) := fun W hb => fit_not (fit_any k p cap l W (hl.below hb) hsz (hT.below hb) k2 kd di db ds q m c id tp at_ un rp co pr hp htp (hD.below hb)) hno
  have CA : Hid (∀ W, Below w.heap.size w W → Calls Tryd.prog 8 #[] W (HoldPost W true)) := fun W hb => awake_any W (hT.below hb)
  obtain ⟨PP, hPP⟩ : ∃ PP, HoldPost w true = PP := ⟨_, rfl⟩
  rw [hPP]
  have HPP := Lib.hid hPP
  clear hPP hl hT hD hno hsz
  go_enter Tryd.func5, Tryd.ntmps5
  go_wp2_with fail
  refine (CF.out _ HB0.out).mono ?_
  rintro e W1 ⟨rfl, hb1⟩
  have HB1 := Lib.hid (HB0.out.trans (hb1.mono HB0.out.size))
  clear hb1 CF
  go_wp2_with fail
  refine (CA.out _ HB1.out).mono ?_
  rintro e W2 ⟨rfl, hb2⟩
  have HB2 := Lib.hid (HB1.out.trans (hb2.mono HB1.out.size))
  clear hb2 CA
  go_wp2_with fail
  rw [← HPP.out]
  exact ⟨rfl, HB2.out⟩

set_option maxRecDepth 100000 in
set_option maxHeartbeats 8000000 in
theorem explains_yes (k : Nat) (p : Option Addr) (cap : Nat) (l : List Rt) (w : World) (hl : Rts w k p l) (hsz : ∀ r ∈ l, r.fi.size ≤ 1048576) (hT : Tabs w) (hT2 : Tab10 w) (k2 : Nat)
    (dk : Nat) (di : Int) (db : Int) (ds : ByteArray) (q : Option Addr) (m c : Nat) (id : Int) (tp : ByteArray) (at_ un : Int) (rp : ByteArray) (co pr hp : Int) (htp : tp.size ≤ 1048576) (hD : DtIs w k2 [.int .i64 (dk : Nat), .int .i64 di, .int .u64 db, .string ds, .slice q m c])
    (hok : ∀ r ∈ l, OkW k r.want) (hdk : dk < 14) :
    Calls Tryd.prog 5 #[.slice p l.length cap, .agg #[.int .i64 id, .string tp, .int .i64 (dk : Nat), .int .i64 di, .int .u64 db, .string ds, .slice q m c, .int .i64 at_, .int .i64 un, .string rp, .int .i64 co, .int .i64 pr, .int .i64 hp]] w (HoldPost w true) := by
  have HOK : Hid (∀ r ∈ l, OkR k r) := fun r hr => ⟨hok r hr, hsz r hr⟩
  have HB0 : Hid (Below w.heap.size w (w.alloc (.cells #[.int .i64 id, .string tp, .int .i64 (dk : Nat), .int .i64 di, .int .u64 db, .string ds, .slice q m c, .int .i64 at_, .int .i64 un, .string rp, .int .i64 co, .int .i64 pr, .int .i64 hp] 28))) := (Below.refl _ _).alloc (Nat.le_refl _) _
  have CF : Hid (∀ W, Below w.heap.size w W → Calls Tryd.prog 7 #[.slice p l.length cap, .agg #[.int .i64 id, .string tp, .int .i64 (dk : Nat), .int .i64 di, .int .u64 db, .string ds, .slice q m c, .int .i64 at_, .int .i64 un, .string rp, .int .i64 co, .int .i64 pr, .int .i64 hp]] W (FitPost W (l.length ≤ 400 ∧ (∀ r ∈ l, OkW k r.want) ∧ (0 : Int) ≤ (dk : Nat) ∧ ((dk : Nat) : Int) < 14))) := fun W hb => fit_any k p cap l W (hl.below hb) hsz (hT.below hb) k2 _ di db ds q m c id tp at_ un rp co pr hp htp (hD.below hb)
  have CA : Hid (∀ W, Below w.heap.size w W → Calls Tryd.prog 8 #[] W (HoldPost W true)) := fun W hb => awake_any W (hT.below hb)
  have CE : Hid (∀ W, Below w.heap.size w W → Calls Tryd.prog 16 #[.slice p l.length cap, .agg #[.int .i64 id, .string tp, .int .i64 (dk : Nat), .int .i64 di, .int .u64 db, .string ds, .slice q m c, .int .i64 at_, .int .i64 un, .string rp, .int .i64 co, .int .i64 pr, .int .i64 hp]] W (StrPost W (explR k tp dk (findR (agFrom k tp dk 0 l)).2 0 l))) := fun W hb => explain_any k p cap l W (hl.below hb) HOK.out (hT.below hb) (hT2.below hb) dk hdk di db ds q m c id tp at_ un rp co pr hp htp
  have CR : Hid (∀ W, Below w.heap.size w W → Calls Tryd.prog 17 #[.slice p l.length cap, .agg #[.int .i64 id, .string tp, .int .i64 (dk : Nat), .int .i64 di, .int .u64 db, .string ds, .slice q m c, .int .i64 at_, .int .i64 un, .string rp, .int .i64 co, .int .i64 pr, .int .i64 hp]] W (StrPost W (explR k tp dk (findR (agFrom k tp dk 0 l)).2 0 l))) := fun W hb => refExplain_any k p cap l W (hl.below hb) HOK.out (hT.below hb) (hT2.below hb) dk hdk di db ds q m c id tp at_ un rp co pr hp htp
  generalize explR k tp dk (findR (agFrom k tp dk 0 l)).2 0 l = X at *
  obtain ⟨PP, hPP⟩ : ∃ PP, HoldPost w true = PP := ⟨_, rfl⟩
  rw [hPP]
  have HPP := Lib.hid hPP
  clear hPP hl hT hT2 hD hsz hok
  go_enter Tryd.func5, Tryd.ntmps5
  go_wp2_with fail
  refine (CF.out _ HB0.out).mono ?_
  rintro e W1 ⟨b1, rfl, -, hb1⟩
  have HB1 := Lib.hid (HB0.out.trans (hb1.mono HB0.out.size))
  have HM : Hid (W1.heap[w.heap.size]? = some (.cells #[.int .i64 id, .string tp, .int .i64 (dk : Nat), .int .i64 di, .int .u64 db, .string ds, .slice q m c, .int .i64 at_, .int .i64 un, .string rp, .int .i64 co, .int .i64 pr, .int .i64 hp] 28 (0, 0))) := (hb1.block _ (by simp)).trans (heap_alloc_new _ _)
  clear hb1 CF
  cases b1 with
  | false =>
    go_wp2_with fail
    refine (CA.out _ HB1.out).mono ?_
    rintro e W2 ⟨rfl, hb2⟩
    have HB2 := Lib.hid (HB1.out.trans (hb2.mono HB1.out.size))
    clear hb2 CA
    go_wp2_with fail
    rw [← HPP.out]
    exact ⟨rfl, HB2.out⟩
  | true =>
    have HDN : Hid (∀ d os, Below w.heap.size w (grow (redrawn W1 d) os)) := fun d os => HB1.out.trans ((below_regrown W1 d os).mono HB1.out.size)
    have m0 : ∀ d os, (grow (redrawn W1 d) os).cell? ⟨w.heap.size, 0, none⟩ = some (.int .i64 id) := fun d os => cell_of_row _ _ 0 _ _ _ (msg_kept HM.out d os)
    have m1 : ∀ d os, (grow (redrawn W1 d) os).cell? ⟨w.heap.size, 1, none⟩ = some (.string tp) := fun d os => cell_of_row _ _ 1 _ _ _ (msg_kept HM.out d os)
    have m2 : ∀ d os, (grow (redrawn W1 d) os).cell? ⟨w.heap.size, 2, none⟩ = some (.int .i64 (dk : Nat)) := fun d os => cell_of_row _ _ 2 _ _ _ (msg_kept HM.out d os)
    have m3 : ∀ d os, (grow (redrawn W1 d) os).cell? ⟨w.heap.size, 3, none⟩ = some (.int .i64 di) := fun d os => cell_of_row _ _ 3 _ _ _ (msg_kept HM.out d os)
    have m4 : ∀ d os, (grow (redrawn W1 d) os).cell? ⟨w.heap.size, 4, none⟩ = some (.int .u64 db) := fun d os => cell_of_row _ _ 4 _ _ _ (msg_kept HM.out d os)
    have m5 : ∀ d os, (grow (redrawn W1 d) os).cell? ⟨w.heap.size, 5, none⟩ = some (.string ds) := fun d os => cell_of_row _ _ 5 _ _ _ (msg_kept HM.out d os)
    have m6 : ∀ d os, (grow (redrawn W1 d) os).cell? ⟨w.heap.size, 6, none⟩ = some (.slice q m c) := fun d os => cell_of_row _ _ 6 _ _ _ (msg_kept HM.out d os)
    have m7 : ∀ d os, (grow (redrawn W1 d) os).cell? ⟨w.heap.size, 7, none⟩ = some (.int .i64 at_) := fun d os => cell_of_row _ _ 7 _ _ _ (msg_kept HM.out d os)
    have m8 : ∀ d os, (grow (redrawn W1 d) os).cell? ⟨w.heap.size, 8, none⟩ = some (.int .i64 un) := fun d os => cell_of_row _ _ 8 _ _ _ (msg_kept HM.out d os)
    have m9 : ∀ d os, (grow (redrawn W1 d) os).cell? ⟨w.heap.size, 9, none⟩ = some (.string rp) := fun d os => cell_of_row _ _ 9 _ _ _ (msg_kept HM.out d os)
    have m10 : ∀ d os, (grow (redrawn W1 d) os).cell? ⟨w.heap.size, 10, none⟩ = some (.int .i64 co) := fun d os => cell_of_row _ _ 10 _ _ _ (msg_kept HM.out d os)
    have m11 : ∀ d os, (grow (redrawn W1 d) os).cell? ⟨w.heap.size, 11, none⟩ = some (.int .i64 pr) := fun d os => cell_of_row _ _ 11 _ _ _ (msg_kept HM.out d os)
    have m12 : ∀ d os, (grow (redrawn W1 d) os).cell? ⟨w.heap.size, 12, none⟩ = some (.int .i64 hp) := fun d os => cell_of_row _ _ 12 _ _ _ (msg_kept HM.out d os)
    go_wp2_with fail
    refine wp_region_quiet_below (by kernel_rfl) (by kernel_rfl) ?_
    repeat (quiet_step (first | exact str_regrown (CE.out _ (HDN.out _ _)) | exact str_regrown (CR.out _ (HDN.out _ _)) | exact Calls.regrown_of (CA.out _ (HDN.out _ _))))
    refine wpQuiet_nil ?_
    intro _ hw'
    obtain ⟨⟨dq, osq⟩, hw''⟩ := hw'
    subst hw''
    go_wp2_with fail
    rw [← HPP.out]
    exact ⟨rfl, HDN.out _ _⟩

theorem routeExplains_any (k : Nat) (p : Option Addr) (cap : Nat) (l : List Rt) (w : World) (hl : Rts w k p l) (hsz : ∀ r ∈ l, r.fi.size ≤ 1048576) (hT : Tabs w) (hT2 : Tab10 w) (k2 : Nat)
    (kd : Int) (di : Int) (db : Int) (ds : ByteArray) (q : Option Addr) (m c : Nat) (id : Int) (tp : ByteArray) (at_ un : Int) (rp : ByteArray) (co pr hp : Int) (htp : tp.size ≤ 1048576) (hD : DtIs w k2 [.int .i64 kd, .int .i64 di, .int .u64 db, .string ds, .slice q m c]) :
    Calls Tryd.prog 5 #[.slice p l.length cap, .agg #[.int .i64 id, .string tp, .int .i64 kd, .int .i64 di, .int .u64 db, .string ds, .slice q m c, .int .i64 at_, .int .i64 un, .string rp, .int .i64 co, .int .i64 pr, .int .i64 hp]] w (HoldPost w true) := by
  by_cases hf : l.length ≤ 400 ∧ (∀ r ∈ l, OkW k r.want) ∧ 0 ≤ kd ∧ kd < 14
  · obtain ⟨-, h2, h3, h4⟩ := hf
    obtain ⟨dk, rfl⟩ := Int.eq_ofNat_of_zero_le h3
    exact explains_yes k p cap l w hl hsz hT hT2 k2 dk di db ds q m c id tp at_ un rp co pr hp htp hD h2 (by omega)
  · exact explains_no k p cap l w hl hsz hT k2 kd di db ds q m c id tp at_ un rp co pr hp htp hD hf
end Go.Proofs.YtpgdiekpeceicaaDoor
