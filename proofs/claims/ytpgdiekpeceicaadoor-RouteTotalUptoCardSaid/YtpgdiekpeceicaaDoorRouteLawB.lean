/- ROUTE: the law RouteFinds. -/
import Derived.Test.YtpgdiekpeceicaaDoorRouteLawA
import Derived.Deep.RegionHeld3
import Derived.Deep.DeepCutAuto
import Derived.Deep.DrawnRows
namespace Go.Proofs.YtpgdiekpeceicaaDoor
open Go Go.RowKit Go.Shelf Go.Sort
attribute [local go_sem ↓] Go.wp_at_zero Go.wp_at_succ

set_option maxRecDepth 100000 in
set_option maxHeartbeats 4000000 in
theorem finds_no (k : Nat) (p : Option Addr) (cap : Nat) (l : List Rt) (w : World) (hl : Rts w k p l) (hsz : ∀ r ∈ l, r.fi.size ≤ 1048576) (hT : Tabs w) (k2 : Nat)
    (kd : Int) (di : Int) (db : Int) (ds : ByteArray) (q : Option Addr) (m c : Nat) (id : Int) (tp : ByteArray) (at_ un : Int) (rp : ByteArray) (co pr hp : Int) (htp : tp.size ≤ 1048576) (hD : DtIs w k2 [.int .i64 kd, .int .i64 di, .int .u64 db, .string ds, .slice q m c])
    (hno : ¬ (l.length ≤ 400 ∧ (∀ r ∈ l, OkW k r.want) ∧ 0 ≤ kd ∧ kd < 14)) :
    Calls Tryd.prog 3 #[.slice p l.length cap, .agg #[.int .i64 id, .string tp, .int .i64 kd, .int .i64 di, .int .u64 db, .string ds, .slice q m c, .int .i64 at_, .int .i64 un, .string rp, .int .i64 co, .int .i64 pr, .int .i64 hp]] w (HoldPost w true) := by
  have HB0 : Hid (Below w.heap.size w (w.alloc (.cells #[.int .i64 id, .string tp, .int .i64 kd, .int .i64 di, .int .u64 db, .string ds, .slice q m c, .int .i64 at_, .int .i64 un, .string rp, .int .i64 co, .int .i64 pr, .int .i64 hp] 28))) := (Below.refl _ _).alloc (Nat.le_refl _) _
  have CF : Hid (∀ W, Below w.heap.size w W → Calls Tryd.prog 7 #[.slice p l.length cap, .agg #[.int .i64 id, .string tp, .int .i64 kd, .int .i64 di, .int .u64 db, .string ds, .slice q m c, .int .i64 at_, .int .i64 un, .string rp, .int .i64 co, .int .i64 pr, .int .i64 hp]] W (HoldPost W false)) := fun W hb => fit_not (fit_any k p cap l W (hl.below hb) hsz (hT.below hb) k2 kd di db ds q m c id tp at_ un rp co pr hp htp (hD.below hb)) hno
  have CA : Hid (∀ W, Below w.heap.size w W → Calls Tryd.prog 8 #[] W (HoldPost W true)) := fun W hb => awake_any W (hT.below hb)
  obtain ⟨PP, hPP⟩ : ∃ PP, HoldPost w true = PP := ⟨_, rfl⟩
  rw [hPP]
  have HPP := Lib.hid hPP
  clear hPP hl hT hD hno hsz
  go_enter Tryd.func3, Tryd.ntmps3
  go_wp2_with fail
  refine (CF.out _ HB0.out).mono ?_
  rintro e W1 ⟨rfl, hb1⟩
  have HB1 := Lib.hid (HB0.out.trans (hb1.mono HB0.out.size))
  clear hb1 CF
  go_wp2_with fail
  refine (CA.out _ HB1.out).mono ?_
  rintro e W2 ⟨rfl, hb2⟩
  have HB2 := Lib.hid (HB1.out.trans (hb2.mono HB1.out.size))
  clear hb2 CA
  go_wp2_with fail
  rw [← HPP.out]
  exact ⟨rfl, HB2.out⟩


theorem bel_alloc {W1 W : World} (h : Below W1.heap.size W1 W) (o : Obj) : Below W1.heap.size W1 (W.alloc o) := h.alloc h.size _
theorem bel_set {W1 W : World} (h : Below W1.heap.size W1 W) (a : Addr) (v : Value) (ha : W1.heap.size ≤ a.block) : Below W1.heap.size W1 (W.setCell a v) := h.setCell ha v
theorem bcell {W w1 : World} (hb : Below W.heap.size W w1) : (∀ b o, b < W.heap.size → w1.cell? ⟨b, o, none⟩ = W.cell? ⟨b, o, none⟩) ∧ (∀ b o, b < W.heap.size → w1.frozen? ⟨b, o, none⟩ = W.frozen? ⟨b, o, none⟩) :=
  ⟨fun b o h => hb.cell (p := ⟨b, o, none⟩) h, fun b o h => hb.frozen (p := ⟨b, o, none⟩) h⟩
theorem lt_one {a b : Nat} (h : a + 1 ≤ b) : a < b := h
theorem lt_two {a b : Nat} (h : a + 2 ≤ b) : a < b ∧ a + 1 < b := ⟨by omega, by omega⟩
theorem bel_drew {W1 W : World} (h : Below W1.heap.size W1 W) : Below W1.heap.size W1 W.drew := ⟨h.os, h.tape, h.output, h.size, h.block⟩
/-- the blocks from lo to hi are as they were -/
def KeptIn (lo hi : Nat) (w W : World) : Prop := hi ≤ W.heap.size ∧ ∀ b, lo ≤ b → b < hi → W.heap[b]? = w.heap[b]?
theorem KeptIn.refl (lo : Nat) (w : World) : KeptIn lo w.heap.size w w := ⟨Nat.le_refl _, fun _ _ _ => rfl⟩
theorem KeptIn.alloc {lo hi : Nat} {w W : World} (h : KeptIn lo hi w W) (o : Obj) : KeptIn lo hi w (W.alloc o) := ⟨by have := h.1; simp; omega, fun b h1 h2 => (Below.heap_alloc _ _ _ (by have := h.1; omega)).trans (h.2 b h1 h2)⟩
theorem KeptIn.drew {lo hi : Nat} {w W : World} (h : KeptIn lo hi w W) : KeptIn lo hi w W.drew := h
theorem KeptIn.call {lo hi : Nat} {w W W' : World} (h : KeptIn lo hi w W) (hb : Below W.heap.size W W') : KeptIn lo hi w W' := ⟨Nat.le_trans h.1 hb.size, fun b h1 h2 => (hb.block b (by have := h.1; omega)).trans (h.2 b h1 h2)⟩
theorem KeptIn.set {lo hi : Nat} {w W : World} (h : KeptIn lo hi w W) (a : Addr) (v : Value) (ha : a.block < lo ∨ hi ≤ a.block) : KeptIn lo hi w (W.setCell a v) := ⟨by have := h.1; simpa [World.setCell] using this, fun b h1 h2 => (Below.heap_setCell _ _ _ _ (by omega)).trans (h.2 b h1 h2)⟩
theorem Ints.kept {lo : Nat} {w W : World} {v : Value} {l : List Nat} (h : Ints w v l) (hf : Fresh lo v) (hk : KeptIn lo w.heap.size w W) : Ints W v l := by
  obtain ⟨p, cap, hv, h1, h2, h3⟩ := h
  refine ⟨p, cap, hv, h1, h2, fun hn => ?_⟩
  obtain ⟨b, o, hp, hc⟩ := h3 hn
  subst hp
  have hlo := hf _ _ _ hv
  refine ⟨b, o, rfl, fun j x hj => ?_⟩
  have h4 := hc j x hj
  have hlt := World.block_lt_of_cell? w _ h4
  have h5 := hk.2 b hlo hlt
  rw [← h4]
  unfold World.cell?
  simp only [h5]
theorem flat17 {a b c d e f g h i j k l m n o p q : Prop} (x : a ∧ b ∧ c ∧ d ∧ e ∧ f ∧ g ∧ h ∧ i ∧ j ∧ k ∧ l ∧ m) (y : n ∧ o ∧ p ∧ q) : a ∧ b ∧ c ∧ d ∧ e ∧ f ∧ g ∧ h ∧ i ∧ j ∧ k ∧ l ∧ m ∧ n ∧ o ∧ p ∧ q :=
  ⟨x.1, x.2.1, x.2.2.1, x.2.2.2.1, x.2.2.2.2.1, x.2.2.2.2.2.1, x.2.2.2.2.2.2.1, x.2.2.2.2.2.2.2.1, x.2.2.2.2.2.2.2.2.1, x.2.2.2.2.2.2.2.2.2.1, x.2.2.2.2.2.2.2.2.2.2.1, x.2.2.2.2.2.2.2.2.2.2.2.1, x.2.2.2.2.2.2.2.2.2.2.2.2, y⟩
def HoldB (W1 : World) (b : Bool) (r : Ending) (w' : World) : Prop := r = .returned (.bool b) ∧ Below W1.heap.size W1 w'
theorem hold_behind {P : Program} {f : FuncId} {args : Array Value} {W1 W : World} {b : Bool} (hb : Below W1.heap.size W1 W) (h : Calls P f args W (HoldPost W b)) : Calls P f args W (HoldB W1 b) := h.mono fun _ _ ⟨he, hw⟩ => ⟨he, hb.trans (hw.mono hb.size)⟩
def ZsB (W1 W : World) (l : List Int) (r : Ending) (w' : World) : Prop := ∃ p cap, r = .returned (.slice p l.length cap) ∧ Zs w' (.slice p l.length cap) l ∧ Below W.heap.size W w' ∧ Below W1.heap.size W1 w'
theorem zs_behind {P : Program} {f : FuncId} {args : Array Value} {W1 W : World} {l : List Int} (hb : Below W1.heap.size W1 W) (h : Calls P f args W (ZsPost W l)) : Calls P f args W (ZsB W1 W l) := h.mono fun _ w' ⟨v, he, hz, hw, _⟩ => by
  have hz' := hz
  obtain ⟨p, cap, rfl, -⟩ := hz'
  exact ⟨p, cap, he, hz, hw, hb.trans (hw.mono hb.size)⟩
/-- what a call behind W1 gives -/
def FindPost (W1 W : World) (t : List Nat × Bool) (r : Ending) (w' : World) : Prop := ∃ p cap, r = .returned (.agg #[.slice p t.1.length cap, .bool t.2]) ∧ Below W.heap.size W w' ∧ Below W1.heap.size W1 w' ∧ Hid (∀ w'', KeptIn W.heap.size w'.heap.size w' w'' → Ints w'' (.slice p t.1.length cap) t.1)
theorem find_behind {P : Program} {f : FuncId} {args : Array Value} {W1 W : World} {t : List Nat × Bool} (hb : Below W1.heap.size W1 W) (h : Calls P f args W (TakenPost W t)) : Calls P f args W (FindPost W1 W t) :=
  h.mono fun _ w' ⟨v, he, hi, hw, hf⟩ => by
    have hi' := hi
    obtain ⟨p, cap, rfl, -⟩ := hi'
    exact ⟨p, cap, he, hw, hb.trans (hw.mono hb.size), fun w'' hk => hi.kept hf hk⟩

set_option maxRecDepth 100000 in
set_option maxHeartbeats 16000000 in
theorem finds_yes (k : Nat) (p : Option Addr) (cap : Nat) (l : List Rt) (w : World) (hl : Rts w k p l) (hsz : ∀ r ∈ l, r.fi.size ≤ 1048576) (hT : Tabs w) (k2 : Nat)
    (dk : Nat) (di : Int) (db : Int) (ds : ByteArray) (q : Option Addr) (m c : Nat) (id : Int) (tp : ByteArray) (at_ un : Int) (rp : ByteArray) (co pr hp : Int) (htp : tp.size ≤ 1048576) (hD : DtIs w k2 [.int .i64 (dk : Nat), .int .i64 di, .int .u64 db, .string ds, .slice q m c])
    (hok : ∀ r ∈ l, OkW k r.want) (hdk : dk < 14) :
    Calls Tryd.prog 3 #[.slice p l.length cap, .agg #[.int .i64 id, .string tp, .int .i64 (dk : Nat), .int .i64 di, .int .u64 db, .string ds, .slice q m c, .int .i64 at_, .int .i64 un, .string rp, .int .i64 co, .int .i64 pr, .int .i64 hp]] w (HoldPost w true) := by
  have HOK : Hid (∀ r ∈ l, OkR k r) := fun r hr => ⟨hok r hr, hsz r hr⟩
  have HB0 : Hid (Below w.heap.size w (w.alloc (.cells #[.int .i64 id, .string tp, .int .i64 (dk : Nat), .int .i64 di, .int .u64 db, .string ds, .slice q m c, .int .i64 at_, .int .i64 un, .string rp, .int .i64 co, .int .i64 pr, .int .i64 hp] 28))) := (Below.refl _ _).alloc (Nat.le_refl _) _
  have CF : Hid (∀ W, Below w.heap.size w W → Calls Tryd.prog 7 #[.slice p l.length cap, .agg #[.int .i64 id, .string tp, .int .i64 (dk : Nat), .int .i64 di, .int .u64 db, .string ds, .slice q m c, .int .i64 at_, .int .i64 un, .string rp, .int .i64 co, .int .i64 pr, .int .i64 hp]] W (FitPost W (l.length ≤ 400 ∧ (∀ r ∈ l, OkW k r.want) ∧ (0 : Int) ≤ (dk : Nat) ∧ ((dk : Nat) : Int) < 14))) := fun W hb => fit_any k p cap l W (hl.below hb) hsz (hT.below hb) k2 _ di db ds q m c id tp at_ un rp co pr hp htp (hD.below hb)
  have CA : Hid (∀ W, Below w.heap.size w W → Calls Tryd.prog 8 #[] W (HoldPost W true)) := fun W hb => awake_any W (hT.below hb)
  have CE : Hid (∀ W1 W, Below w.heap.size w W1 → Below W1.heap.size W1 W → Calls Tryd.prog 9 #[.slice p l.length cap, .agg #[.int .i64 id, .string tp, .int .i64 (dk : Nat), .int .i64 di, .int .u64 db, .string ds, .slice q m c, .int .i64 at_, .int .i64 un, .string rp, .int .i64 co, .int .i64 pr, .int .i64 hp]] W (FindPost W1 W (findR (agFrom k tp dk 0 l)))) := fun W1 W h1 h2 => find_behind h2 (find_any k p cap l W (hl.below (h1.trans (h2.mono h1.size))) HOK.out (hT.below (h1.trans (h2.mono h1.size))) dk hdk di db ds q m c id tp at_ un rp co pr hp htp)
  have CR : Hid (∀ W1 W, Below w.heap.size w W1 → Below W1.heap.size W1 W → Calls Tryd.prog 10 #[.slice p l.length cap, .agg #[.int .i64 id, .string tp, .int .i64 (dk : Nat), .int .i64 di, .int .u64 db, .string ds, .slice q m c, .int .i64 at_, .int .i64 un, .string rp, .int .i64 co, .int .i64 pr, .int .i64 hp]] W (FindPost W1 W (findR (agFrom k tp dk 0 l)))) := fun W1 W h1 h2 => find_behind h2 (refFind21_any k p cap l W (hl.below (h1.trans (h2.mono h1.size))) HOK.out (hT.below (h1.trans (h2.mono h1.size))) dk hdk di db ds q m c id tp at_ un rp co pr hp htp)
  have CH : Hid (∀ W, Below w.heap.size w W → Calls Tryd.prog 12 #[.slice p l.length cap, .agg #[.int .i64 id, .string tp, .int .i64 (dk : Nat), .int .i64 di, .int .u64 db, .string ds, .slice q m c, .int .i64 at_, .int .i64 un, .string rp, .int .i64 co, .int .i64 pr, .int .i64 hp]] W (ZsPost W (handsR l (findR (agFrom k tp dk 0 l)).1))) := fun W hb => handlers_any k p cap l W (hl.below hb) HOK.out (hT.below hb) dk hdk di db ds q m c id tp at_ un rp co pr hp htp
  have CS : Hid (∀ W, Below w.heap.size w W → Calls Tryd.prog 13 #[.slice p l.length cap, .agg #[.int .i64 id, .string tp, .int .i64 (dk : Nat), .int .i64 di, .int .u64 db, .string ds, .slice q m c, .int .i64 at_, .int .i64 un, .string rp, .int .i64 co, .int .i64 pr, .int .i64 hp]] W (ZsPost W (handsR l (findR (agFrom k tp dk 0 l)).1))) := fun W hb => refHandlers_any k p cap l W (hl.below hb) HOK.out (hT.below hb) dk hdk di db ds q m c id tp at_ un rp co pr hp htp
  generalize findR (agFrom k tp dk 0 l) = T at *
  obtain ⟨is, el⟩ := T
  simp only at CE CR CH CS
  generalize handsR l is = HH at *
  obtain ⟨PP, hPP⟩ : ∃ PP, HoldPost w true = PP := ⟨_, rfl⟩
  rw [hPP]
  have HPP := Lib.hid hPP
  clear hPP hl hT hD hsz hok
  go_enter Tryd.func3, Tryd.ntmps3
  go_wp2_with fail
  refine (CF.out _ HB0.out).mono ?_
  rintro e W1 ⟨b1, rfl, -, hb1⟩
  have HB1 := Lib.hid (HB0.out.trans (hb1.mono HB0.out.size))
  have HM : Hid (∀ W, Below W1.heap.size W1 W → W.heap[w.heap.size]? = some (.cells #[.int .i64 id, .string tp, .int .i64 (dk : Nat), .int .i64 di, .int .u64 db, .string ds, .slice q m c, .int .i64 at_, .int .i64 un, .string rp, .int .i64 co, .int .i64 pr, .int .i64 hp] 28 (0, 0))) := fun W hb => (hb.block _ (by have := hb1.size; simp at this; omega)).trans ((hb1.block _ (by simp)).trans (heap_alloc_new _ _))
  have hw1 : w.heap.size < W1.heap.size := by have := hb1.size; simp at this; omega
  clear hb1 CF
  cases b1 with
  | false =>
    go_wp2_with fail
    refine (CA.out _ HB1.out).mono ?_
    rintro e W2 ⟨rfl, hb2⟩
    have HB2 := Lib.hid (HB1.out.trans (hb2.mono HB1.out.size))
    clear hb2 CA
    go_wp2_with fail
    rw [← HPP.out]
    exact ⟨rfl, HB2.out⟩
  | true =>
    go_wp2_with fail
    go_cut [5, 6] (fun s5 s6 wx => ∃ (b5 b6 : Nat) (p5 p6 : Option Addr) (c5 c6 : Nat), s5 = .pointer (some ⟨b5, 0, none⟩) ∧ s6 = .pointer (some ⟨b6, 0, none⟩) ∧ wx.cell? ⟨b5, 0, none⟩ = some (.slice p5 is.length c5) ∧ wx.cell? ⟨b5, 1, none⟩ = some (.bool el) ∧ wx.cell? ⟨b6, 0, none⟩ = some (.slice p6 is.length c6) ∧ wx.cell? ⟨b6, 1, none⟩ = some (.bool el) ∧
      Ints wx (.slice p5 is.length c5) is ∧ Ints wx (.slice p6 is.length c6) is ∧ Below W1.heap.size W1 wx)
    case first =>
      obtain ⟨m0, m1, m2, m3, m4, m5, m6, m7, m8, m9, m10, m11, m12⟩ := msg_cells (HM.out W1 (Below.refl _ _))
      clear CH CS CA HPP
      go_region_held3 (fun w' => w'.cell? ⟨w.heap.size, 0, none⟩ = some ((.int .i64 id)) ∧ w'.cell? ⟨w.heap.size, 1, none⟩ = some ((.string tp)) ∧ w'.cell? ⟨w.heap.size, 2, none⟩ = some ((.int .i64 (dk : Nat))) ∧ w'.cell? ⟨w.heap.size, 3, none⟩ = some ((.int .i64 di)) ∧ w'.cell? ⟨w.heap.size, 4, none⟩ = some ((.int .u64 db)) ∧ w'.cell? ⟨w.heap.size, 5, none⟩ = some ((.string ds)) ∧ w'.cell? ⟨w.heap.size, 6, none⟩ = some ((.slice q m c)) ∧ w'.cell? ⟨w.heap.size, 7, none⟩ = some ((.int .i64 at_)) ∧ w'.cell? ⟨w.heap.size, 8, none⟩ = some ((.int .i64 un)) ∧ w'.cell? ⟨w.heap.size, 9, none⟩ = some ((.string rp)) ∧ w'.cell? ⟨w.heap.size, 10, none⟩ = some ((.int .i64 co)) ∧ w'.cell? ⟨w.heap.size, 11, none⟩ = some ((.int .i64 pr)) ∧ w'.cell? ⟨w.heap.size, 12, none⟩ = some ((.int .i64 hp))) (first | exact msg_cells (HM.out _ (by repeat (first | with_reducible exact hd6 | with_reducible exact hd5 | with_reducible exact Below.refl _ _ | with_reducible refine bel_alloc ?_ _ | with_reducible refine bel_drew ?_ | with_reducible refine bel_set ?_ _ _ (by first | omega | (simp <;> omega))))) | go_keep)
        (first
          | (go_at_call 9; refine (CE.out W1 _ HB1.out (by repeat (first | with_reducible exact hd6 | with_reducible exact hd5 | with_reducible exact Below.refl _ _ | with_reducible refine bel_alloc ?_ _ | with_reducible refine bel_drew ?_ | with_reducible refine bel_set ?_ _ _ (by first | omega | (simp <;> omega))))).mono ?_; rintro e w2 ⟨p5, c5, rfl, hb5, hd5, HI5⟩; have HB5 := Lib.hid hb5; have hs5 := hd5.size; have hz5 := hb5.size; (try (simp at hz5)); (first | (obtain ⟨hy5, hx5⟩ := lt_two hz5) | (have hy5 := lt_one hz5) | skip); (first | (have ha5 : W1.heap.size < w2.heap.size := (by omega)) | skip); (first | (have hb5' : W1.heap.size + 1 < w2.heap.size := (by omega)) | skip); obtain ⟨hc5, hf5⟩ := bcell hb5; clear hb5)
          | (go_at_call 10; refine (CR.out W1 _ HB1.out (by repeat (first | with_reducible exact hd6 | with_reducible exact hd5 | with_reducible exact Below.refl _ _ | with_reducible refine bel_alloc ?_ _ | with_reducible refine bel_drew ?_ | with_reducible refine bel_set ?_ _ _ (by first | omega | (simp <;> omega))))).mono ?_; rintro e w3 ⟨p6, c6, rfl, hb6, hd6, HI6⟩; have HB6 := Lib.hid hb6; have hs6 := hd6.size; have hz6 := hb6.size; (try (simp at hz6)); (first | (obtain ⟨hy6, hx6⟩ := lt_two hz6) | (have hy6 := lt_one hz6) | skip); (first | (have ha6 : W1.heap.size < w3.heap.size := (by omega)) | skip); (first | (have hb6' : W1.heap.size + 1 < w3.heap.size := (by omega)) | skip); obtain ⟨hc6, hf6⟩ := bcell hb6; clear hb6))
      all_goals (go_wp2_with fail; go_meet; case rel => (clear m0 m1 m2 m3 m4 m5 m6 m7 m8 m9 m10 m11 m12 CE CR HB1 HM HOK HB0; refine ⟨_, _, p5, p6, c5, c6, rfl, rfl, ?_, ?_, ?_, ?_, HI5.out _ (by repeat (first | with_reducible exact KeptIn.refl _ _ | with_reducible refine KeptIn.alloc ?_ _ | with_reducible refine KeptIn.call ?_ HB6.out | with_reducible refine KeptIn.set ?_ _ _ (by first | omega | (simp <;> omega)))), HI6.out _ (by repeat (first | with_reducible exact KeptIn.refl _ _ | with_reducible refine KeptIn.alloc ?_ _ | with_reducible refine KeptIn.call ?_ HB6.out | with_reducible refine KeptIn.set ?_ _ _ (by first | omega | (simp <;> omega)))), (by repeat (first | with_reducible exact hd6 | with_reducible exact hd5 | with_reducible exact Below.refl _ _ | with_reducible refine bel_alloc ?_ _ | with_reducible refine bel_drew ?_ | with_reducible refine bel_set ?_ _ _ (by first | omega | (simp <;> omega))))⟩ <;> (go_simp; try (refine World.cell?_setCell_same' _ _ _ ?_; (repeat (first | (rw [World.cell?_setCell_other (by simp)]) | (rw [hc6 _ _ (by first | omega | (simp <;> omega))]) | (rw [hc5 _ _ (by first | omega | (simp <;> omega))]))); go_simp))))
    case rest =>
      obtain ⟨b5, b6, p5, p6, c5, c6, rfl, rfl, d0, d1, d2, d3, hi5, hi6, hbc⟩ := hcut
      have HBC : Hid (Below w.heap.size w wc) := HB1.out.trans (hbc.mono HB1.out.size)
      have HK : Hid (∀ W, Below wc.heap.size wc W → W.cell? ⟨w.heap.size, 0, none⟩ = some ((.int .i64 id)) ∧ W.cell? ⟨w.heap.size, 1, none⟩ = some ((.string tp)) ∧ W.cell? ⟨w.heap.size, 2, none⟩ = some ((.int .i64 (dk : Nat))) ∧ W.cell? ⟨w.heap.size, 3, none⟩ = some ((.int .i64 di)) ∧ W.cell? ⟨w.heap.size, 4, none⟩ = some ((.int .u64 db)) ∧ W.cell? ⟨w.heap.size, 5, none⟩ = some ((.string ds)) ∧ W.cell? ⟨w.heap.size, 6, none⟩ = some ((.slice q m c)) ∧ W.cell? ⟨w.heap.size, 7, none⟩ = some ((.int .i64 at_)) ∧ W.cell? ⟨w.heap.size, 8, none⟩ = some ((.int .i64 un)) ∧ W.cell? ⟨w.heap.size, 9, none⟩ = some ((.string rp)) ∧ W.cell? ⟨w.heap.size, 10, none⟩ = some ((.int .i64 co)) ∧ W.cell? ⟨w.heap.size, 11, none⟩ = some ((.int .i64 pr)) ∧ W.cell? ⟨w.heap.size, 12, none⟩ = some ((.int .i64 hp)) ∧ W.cell? ⟨b5, 0, none⟩ = some (.slice p5 is.length c5) ∧ W.cell? ⟨b5, 1, none⟩ = some (.bool el) ∧ W.cell? ⟨b6, 0, none⟩ = some (.slice p6 is.length c6) ∧ W.cell? ⟨b6, 1, none⟩ = some (.bool el)) := fun W hb =>
        flat17 (msg_cells (HM.out _ (hbc.trans (hb.mono hbc.size)))) ⟨(hb.cell (World.block_lt_of_cell? wc _ d0)).trans d0, (hb.cell (World.block_lt_of_cell? wc _ d1)).trans d1, (hb.cell (World.block_lt_of_cell? wc _ d2)).trans d2, (hb.cell (World.block_lt_of_cell? wc _ d3)).trans d3⟩
      have CS5 : Hid (∀ W, Below wc.heap.size wc W → Calls Tryd.prog 11 #[.slice p5 is.length c5, .slice p6 is.length c6] W (HoldB wc true)) := fun W hb => hold_behind hb (same_true ((hi5.below hb).zs) ((hi6.below hb).zs))
      have CAc : Hid (∀ W, Below wc.heap.size wc W → Calls Tryd.prog 8 #[] W (HoldB wc true)) := fun W hb => hold_behind hb (CA.out W (HBC.out.trans (hb.mono HBC.out.size)))
      have CH1 : Hid (∀ W, Below wc.heap.size wc W → Calls Tryd.prog 12 #[.slice p l.length cap, .agg #[.int .i64 id, .string tp, .int .i64 (dk : Nat), .int .i64 di, .int .u64 db, .string ds, .slice q m c, .int .i64 at_, .int .i64 un, .string rp, .int .i64 co, .int .i64 pr, .int .i64 hp]] W (ZsB wc W HH)) := fun W hb => zs_behind hb (CH.out W (HBC.out.trans (hb.mono HBC.out.size)))
      have CH2 : Hid (∀ W, Below wc.heap.size wc W → Calls Tryd.prog 13 #[.slice p l.length cap, .agg #[.int .i64 id, .string tp, .int .i64 (dk : Nat), .int .i64 di, .int .u64 db, .string ds, .slice q m c, .int .i64 at_, .int .i64 un, .string rp, .int .i64 co, .int .i64 pr, .int .i64 hp]] W (ZsB wc W HH)) := fun W hb => zs_behind hb (CS.out W (HBC.out.trans (hb.mono HBC.out.size)))
      obtain ⟨m0, m1, m2, m3, m4, m5, m6, m7, m8, m9, m10, m11, m12, -⟩ := HK.out wc (Below.refl _ _)
      clear hi5 hi6 CE CR CH CS CA hbc
      go_wp2_with fail
      go_region_held3 (fun w' => w'.cell? ⟨w.heap.size, 0, none⟩ = some ((.int .i64 id)) ∧ w'.cell? ⟨w.heap.size, 1, none⟩ = some ((.string tp)) ∧ w'.cell? ⟨w.heap.size, 2, none⟩ = some ((.int .i64 (dk : Nat))) ∧ w'.cell? ⟨w.heap.size, 3, none⟩ = some ((.int .i64 di)) ∧ w'.cell? ⟨w.heap.size, 4, none⟩ = some ((.int .u64 db)) ∧ w'.cell? ⟨w.heap.size, 5, none⟩ = some ((.string ds)) ∧ w'.cell? ⟨w.heap.size, 6, none⟩ = some ((.slice q m c)) ∧ w'.cell? ⟨w.heap.size, 7, none⟩ = some ((.int .i64 at_)) ∧ w'.cell? ⟨w.heap.size, 8, none⟩ = some ((.int .i64 un)) ∧ w'.cell? ⟨w.heap.size, 9, none⟩ = some ((.string rp)) ∧ w'.cell? ⟨w.heap.size, 10, none⟩ = some ((.int .i64 co)) ∧ w'.cell? ⟨w.heap.size, 11, none⟩ = some ((.int .i64 pr)) ∧ w'.cell? ⟨w.heap.size, 12, none⟩ = some ((.int .i64 hp)) ∧ w'.cell? ⟨b5, 0, none⟩ = some (.slice p5 is.length c5) ∧ w'.cell? ⟨b5, 1, none⟩ = some (.bool el) ∧ w'.cell? ⟨b6, 0, none⟩ = some (.slice p6 is.length c6) ∧ w'.cell? ⟨b6, 1, none⟩ = some (.bool el)) (first | exact HK.out _ (by repeat (first | with_reducible exact hd8 | with_reducible exact hd7 | with_reducible exact hd6 | with_reducible exact hd5 | with_reducible exact hd4 | with_reducible exact Below.refl _ _ | with_reducible refine bel_alloc ?_ _ | with_reducible refine bel_drew ?_ | with_reducible refine bel_set ?_ _ _ (by first | omega | (simp <;> omega)))) | go_keep)
        (first
          | (go_at_call 11; (with_reducible refine (CS5.out _ (by repeat (first | with_reducible exact hd8 | with_reducible exact hd7 | with_reducible exact hd6 | with_reducible exact hd5 | with_reducible exact hd4 | with_reducible exact Below.refl _ _ | with_reducible refine bel_alloc ?_ _ | with_reducible refine bel_drew ?_ | with_reducible refine bel_set ?_ _ _ (by first | omega | (simp <;> omega))))).mono ?_); rintro e w4 ⟨rfl, hd4⟩)
          | (go_at_call 12; refine (CH1.out _ (by repeat (first | with_reducible exact hd8 | with_reducible exact hd7 | with_reducible exact hd6 | with_reducible exact hd5 | with_reducible exact hd4 | with_reducible exact Below.refl _ _ | with_reducible refine bel_alloc ?_ _ | with_reducible refine bel_drew ?_ | with_reducible refine bel_set ?_ _ _ (by first | omega | (simp <;> omega))))).mono ?_; rintro e w5 ⟨p7, c7, rfl, hz7, hb5, hd5⟩; have HZ7 := Lib.hid hz7; clear hz7 hb5)
          | (go_at_call 13; refine (CH2.out _ (by repeat (first | with_reducible exact hd8 | with_reducible exact hd7 | with_reducible exact hd6 | with_reducible exact hd5 | with_reducible exact hd4 | with_reducible exact Below.refl _ _ | with_reducible refine bel_alloc ?_ _ | with_reducible refine bel_drew ?_ | with_reducible refine bel_set ?_ _ _ (by first | omega | (simp <;> omega))))).mono ?_; rintro e w6 ⟨p8, c8, rfl, hz8, hb6, hd6⟩; have CS7 : Hid (∀ W, Below w6.heap.size w6 W → Calls Tryd.prog 11 #[.slice p7 HH.length c7, .slice p8 HH.length c8] W (HoldB w6 true)) := (fun W hb => hold_behind hb (same_true ((HZ7.out.below hb6).below hb) (hz8.below hb))); clear hz8 hb6)
          | (go_at_call 11; (with_reducible refine (CS7.out _ (Below.refl _ _)).mono ?_); rintro e w7 ⟨rfl, hb7⟩; have hd7 := hd6.trans (hb7.mono hd6.size); clear hb7)
          | (go_at_call 8; refine (CAc.out _ (by repeat (first | with_reducible exact hd8 | with_reducible exact hd7 | with_reducible exact hd6 | with_reducible exact hd5 | with_reducible exact hd4 | with_reducible exact Below.refl _ _ | with_reducible refine bel_alloc ?_ _ | with_reducible refine bel_drew ?_ | with_reducible refine bel_set ?_ _ _ (by first | omega | (simp <;> omega))))).mono ?_; rintro e w8 ⟨rfl, hd8⟩))
      all_goals go_wp2_with fail
      all_goals rw [← HPP.out]
      all_goals exact ⟨rfl, HBC.out.trans (hd8.mono HBC.out.size)⟩

theorem routeFinds_any (k : Nat) (p : Option Addr) (cap : Nat) (l : List Rt) (w : World) (hl : Rts w k p l) (hsz : ∀ r ∈ l, r.fi.size ≤ 1048576) (hT : Tabs w) (k2 : Nat)
    (kd : Int) (di : Int) (db : Int) (ds : ByteArray) (q : Option Addr) (m c : Nat) (id : Int) (tp : ByteArray) (at_ un : Int) (rp : ByteArray) (co pr hp : Int) (htp : tp.size ≤ 1048576) (hD : DtIs w k2 [.int .i64 kd, .int .i64 di, .int .u64 db, .string ds, .slice q m c]) :
    Calls Tryd.prog 3 #[.slice p l.length cap, .agg #[.int .i64 id, .string tp, .int .i64 kd, .int .i64 di, .int .u64 db, .string ds, .slice q m c, .int .i64 at_, .int .i64 un, .string rp, .int .i64 co, .int .i64 pr, .int .i64 hp]] w (HoldPost w true) := by
  by_cases hf : l.length ≤ 400 ∧ (∀ r ∈ l, OkW k r.want) ∧ 0 ≤ kd ∧ kd < 14
  · obtain ⟨-, h2, h3, h4⟩ := hf
    obtain ⟨dk, rfl⟩ := Int.eq_ofNat_of_zero_le h3
    exact finds_yes k p cap l w hl hsz hT k2 dk di db ds q m c id tp at_ un rp co pr hp htp hD h2 (by omega)
  · exact finds_no k p cap l w hl hsz hT k2 kd di db ds q m c id tp at_ un rp co pr hp htp hD hf
end Go.Proofs.YtpgdiekpeceicaaDoor
