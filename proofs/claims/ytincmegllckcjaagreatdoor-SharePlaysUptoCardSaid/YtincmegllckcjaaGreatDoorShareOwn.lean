/- SHARE: own: a value in memory of its own. -/
import Derived.Deep.AppendLies
import Derived.Test.YtincmegllckcjaaGreatDoorShareHSend
import Derived.Test.YtincmegllckcjaaGreatDoorDv
namespace Go.Proofs.YtincmegllckcjaaGreatDoor
open Go Go.RowKit
attribute [local go_sem ↓] Go.wp_at_zero Go.wp_at_succ

def Fresh (w w' : World) (b : Nat) : Prop := w.heap.size ≤ b ∧ b < w'.heap.size
def OwnPost (w : World) (f : Nat) (t : Dv) (e : Ending) (w' : World) : Prop := ∃ (a0 a1 a2 : Int) (a3 : ByteArray) (aq : Option Addr) (an ac : Nat), e = .returned (.agg #[.int .i64 a0, .int .i64 a1, .int .u64 a2, .string a3, .slice aq an ac]) ∧ Below w.heap.size w w' ∧ DvIn (Fresh w w') w' f [.int .i64 a0, .int .i64 a1, .int .u64 a2, .string a3, .slice aq an ac] t
/-- where a slice lies: in a block of which P holds, none of whose cells is frozen -/
def FreeIn (P : Nat → Prop) (W : World) (q : Option Addr) : Prop := ∀ a, q = some a → P a.block ∧ a.block < W.heap.size ∧ ∃ cur t, W.heap[a.block]? = some (.cells cur t (0, 0))
theorem FreeIn.kept {P Q : Nat → Prop} {w w' : World} {q : Option Addr} (h : FreeIn P w q) (hk : ∀ b, P b → b < w.heap.size → w'.heap[b]? = w.heap[b]? ∧ Q b) : FreeIn Q w' q := fun a ha => by
  obtain ⟨h1, h2, cur, t, h3⟩ := h a ha
  obtain ⟨k1, k2⟩ := hk _ h1 h2
  have h4 := k1.trans h3
  exact ⟨k2, (Array.getElem?_eq_some_iff.1 h4).1, cur, t, h4⟩
theorem LRow.free {W : World} {base f n c lo : Nat} {q : Option Addr} {ts : List Dv} (h : LRow W base (.slice q n c) f ts) (hlo : lo ≤ base) : FreeIn (fun b => lo ≤ b ∧ b < W.heap.size) W q := fun a ha => by
  obtain ⟨cs, ho, -⟩ := h
  have hl := ho.lt
  rcases ho.2 with ⟨e, -⟩ | ⟨g, cap, cur, e, -, hb, -⟩
  · injection e with e; rw [e] at ha; cases ha
  · injection e with e
    rw [e] at ha
    injection ha with ha
    subst ha
    have hlt := hl g (by rw [e]; rfl)
    exact ⟨⟨by show lo ≤ g; omega, hlt.2⟩, hlt.2, cur, _, hb⟩
def OwnPost2 (w : World) (f : Nat) (t : Dv) (e : Ending) (w' : World) : Prop := ∃ (a0 a1 a2 : Int) (a3 : ByteArray) (aq : Option Addr) (an ac : Nat), e = .returned (.agg #[.int .i64 a0, .int .i64 a1, .int .u64 a2, .string a3, .slice aq an ac]) ∧ Below w.heap.size w w' ∧ DvIn (Fresh w w') w' f [.int .i64 a0, .int .i64 a1, .int .u64 a2, .string a3, .slice aq an ac] t ∧ FreeIn (Fresh w w') w' aq
theorem OwnPost2.one {w w' : World} {f : Nat} {t : Dv} {e : Ending} (h : OwnPost2 w f t e w') : OwnPost w f t e w' := by
  obtain ⟨a0, a1, a2, a3, aq, an, ac, h1, h2, h3, -⟩ := h
  exact ⟨a0, a1, a2, a3, aq, an, ac, h1, h2, h3⟩
theorem Below.undrew {w w' : World} (h : Below w.drew.heap.size w.drew w') : Below w.heap.size w w' := (Below.refl _ w).drew.trans h
theorem Below.drew_of (w : World) : Below w.heap.size w w.drew := (Below.refl _ w).drew
/-- the parts copied so far -/
structure OwnR (w wr : World) (kd di db : Int) (ds : ByteArray) (f : Nat) (ts : List Dv) (va : Value) : Prop where
  box : DB wr w.heap.size kd di db ds va
  res : DB wr (w.heap.size + 1) 0 0 0 ⟨#[]⟩ (.slice none 0 0)
  row : LRow wr (w.heap.size + 2) va f ts
  bel : Below w.heap.size w wr
/-- .. behind the call -/
structure OwnC (w Wn : World) (kd di db : Int) (ds : ByteArray) (f : Nat) (ts : List Dv) (t : Dv) (va : Value) (xs : List Value) (a : List Value) : Prop where
  box : DB Wn w.heap.size kd di db ds va
  res : DB Wn (w.heap.size + 1) 0 0 0 ⟨#[]⟩ (.slice none 0 0)
  own : Wn.ownsRow (w.heap.size + 2) 34 5 va ts.length xs
  parts : ∀ j t, ts[j]? = some t → ∃ c0 c1 c2 c3 c4, xs[j * 5]? = some c0 ∧ xs[j * 5 + 1]? = some c1 ∧ xs[j * 5 + 2]? = some c2 ∧ xs[j * 5 + 3]? = some c3 ∧ xs[j * 5 + 4]? = some c4 ∧ DvIn (RowP (w.heap.size + 2) Wn va) Wn f [c0, c1, c2, c3, c4] t
  part : DvIn (RowP (w.heap.size + 2) Wn va) Wn f a t
  bel : Below w.heap.size w Wn
theorem OwnR.call {w Wx W2 : World} {kd di db : Int} {ds : ByteArray} {f : Nat} {ts : List Dv} {t : Dv} {va : Value} {xs a : List Value} (h : OwnR w Wx kd di db ds f ts va) (ho : Wx.ownsRow (w.heap.size + 2) 34 5 va ts.length xs)
    (hc : ∀ j t, ts[j]? = some t → ∃ c0 c1 c2 c3 c4, xs[j * 5]? = some c0 ∧ xs[j * 5 + 1]? = some c1 ∧ xs[j * 5 + 2]? = some c2 ∧ xs[j * 5 + 3]? = some c3 ∧ xs[j * 5 + 4]? = some c4 ∧ DvIn (RowP (w.heap.size + 2) Wx va) Wx f [c0, c1, c2, c3, c4] t)
    (hb : Below Wx.heap.size Wx W2) (hd : DvIn (Fresh Wx W2) W2 f a t) : OwnC w W2 kd di db ds f ts t va xs a := by
  have hl := ho.lt
  have hB := (Array.getElem?_eq_some_iff.1 h.res).1
  refine ⟨(hb.block _ (by omega)).trans h.box, (hb.block _ hB).trans h.res, row_of_heap ho fun b e => hb.block b (hl b e).2, fun j t hj => ?_, hd.kept fun b hb2 _ => ⟨rfl, by have := hb2.1; omega, hb2.2, fun e => ?_⟩, h.bel.trans (hb.mono h.bel.size)⟩
  · obtain ⟨c0, c1, c2, c3, c4, q0, q1, q2, q3, q4, ht⟩ := hc j t hj
    exact ⟨c0, c1, c2, c3, c4, q0, q1, q2, q3, q4, ht.kept fun b hb2 hlt => ⟨hb.block b hlt, hb2.1, Nat.lt_of_lt_of_le hb2.2.1 hb.size, hb2.2.2⟩⟩
  · have := (hl b e.symm).2
    have := hb2.1
    omega
theorem OwnC.alloc {w Wn : World} {kd di db : Int} {ds : ByteArray} {f : Nat} {ts : List Dv} {t : Dv} {va : Value} {xs a : List Value} (h : OwnC w Wn kd di db ds f ts t va xs a) (o : Obj) : OwnC w (Wn.alloc o) kd di db ds f ts t va xs a := by
  have hk : ∀ b, RowP (w.heap.size + 2) Wn va b → b < Wn.heap.size → (Wn.alloc o).heap[b]? = Wn.heap[b]? ∧ RowP (w.heap.size + 2) (Wn.alloc o) va b := fun b hb hl => ⟨Below.heap_alloc _ _ _ hl, hb.1, by rw [World.size_alloc]; omega, hb.2.2⟩
  refine ⟨h.box.alloc o, h.res.alloc o, h.own.alloc o, fun j t hj => ?_, h.part.kept hk, h.bel.alloc h.bel.size _⟩
  obtain ⟨c0, c1, c2, c3, c4, q0, q1, q2, q3, q4, ht⟩ := h.parts j t hj
  exact ⟨c0, c1, c2, c3, c4, q0, q1, q2, q3, q4, ht.kept hk⟩
theorem dv_news {W : World} {ph : Nat} {kd di db : Int} {ds : ByteArray} {v : Value} (h : DB W ph kd di db ds v) : ∀ j u, [Value.int .i64 kd, .int .i64 di, .int .u64 db, .string ds, v][j]? = some u → W.cell? ((⟨ph, 0, none⟩ : Addr).add j) = some u := by
  intro j u hj
  have hadd : (⟨ph, 0, none⟩ : Addr).add j = ⟨ph, 0 + j, none⟩ := by unfold Addr.add; split <;> simp_all
  rw [hadd, Nat.zero_add, cell_of_row W ph j _ _ _ h]
  simpa using hj
/-- .. behind append -/
theorem OwnC.grown {w Wn w1 : World} {kd di db : Int} {ds : ByteArray} {f n g cap : Nat} {ts : List Dv} {t : Dv} {va a0 a1 a2 a3 a4 : Value} {xs : List Value} (h : OwnC w Wn kd di db ds f ts t va xs [a0, a1, a2, a3, a4])
    (hown : w1.ownsRow (w.heap.size + 2) 34 5 (.slice (some ⟨g, 0, none⟩) n cap) n (xs ++ [a0, a1, a2, a3, a4])) (hn : n = ts.length + 1) (hg : Wn.grownBy w1 va.ownBlock) (hat : va.ownBlock = some g ∨ g = Wn.heap.size) :
    DB w1 w.heap.size kd di db ds va ∧ OwnR w (w1.setCell ⟨w.heap.size, 4, none⟩ (.slice (some ⟨g, 0, none⟩) n cap)) kd di db ds f (ts ++ [t]) (.slice (some ⟨g, 0, none⟩) n cap) := by
  have hl := h.own.lt
  have hres := (Array.getElem?_eq_some_iff.1 h.res).1
  have hoff : ∀ b, b < w.heap.size + 2 → w1.heap[b]? = Wn.heap[b]? := fun b hb => hg.block b (by omega) (fun e => by have := (hl b e.symm).1; omega)
  have hb1 : DB w1 w.heap.size kd di db ds va := (hoff _ (by omega)).trans h.box
  have hrow := LRow.snoc h.own h.parts h.part hown hn hg.size (fun b h1 h2 h3 => ⟨hg.block b h2 h3, fun e => by
    rcases hat with e2 | e2
    · exact h3 (by rw [e2, e])
    · omega⟩)
  have hr1 : DB w1 (w.heap.size + 1) 0 0 0 ⟨#[]⟩ (.slice none 0 0) := (hoff _ (by omega)).trans h.res
  refine ⟨hb1, ⟨hb1.setV _, DB.setOther hr1 _ _ (by show w.heap.size ≠ w.heap.size + 1; omega), ?_, ?_⟩⟩
  · exact hrow.kept (Bx := w.heap.size) ⟨rfl, rfl, rfl, by simp, fun k _ hk => Below.heap_setCell _ _ _ _ (fun e => hk (by rw [e]))⟩ (by omega)
  · have h1 := h.bel.grown hg h.bel.size (fun k hk => by have := (hl k hk).1; omega)
    exact h1.trans ⟨rfl, rfl, rfl, by simp, fun b hb => Below.heap_setCell _ _ _ _ (by show b ≠ w.heap.size; omega)⟩
theorem DvIs.mk {w : World} {k : Nat} {kd di db : Int} {ds : ByteArray} {v : Value} {t : Dv} (h : DvIs w k [.int .i64 kd, .int .i64 di, .int .u64 db, .string ds, v] t) : ∃ ps, t = .mk kd di db ds ps := by
  cases k with
  | zero => exact h.elim
  | succ k =>
    obtain ⟨kd', di', db', ds', l⟩ := t
    obtain ⟨p, cap, e, -⟩ := h
    injection e with e1 e
    injection e with e2 e
    injection e with e3 e
    injection e with e4 e
    injection e1 with _ e1
    injection e2 with _ e2
    injection e3 with _ e3
    injection e4 with e4
    subst e1; subst e2; subst e3; subst e4
    exact ⟨l, rfl⟩
theorem DB.set5 {W : World} {B : Nat} {kd di db : Int} {ds : ByteArray} {v : Value} (h : DB W B kd di db ds v) (kd' di' db' : Int) (ds' : ByteArray) (v' : Value) :
    DB (((((W.setCell ⟨B, 0, none⟩ (.int .i64 kd')).setCell ⟨B, 1, none⟩ (.int .i64 di')).setCell ⟨B, 2, none⟩ (.int .u64 db')).setCell ⟨B, 3, none⟩ (.string ds')).setCell ⟨B, 4, none⟩ v') B kd' di' db' ds' v' :=
  heap_setCell_same _ B 4 _ _ _ (heap_setCell_same _ B 3 _ _ _ (heap_setCell_same _ B 2 _ _ _ (heap_setCell_same _ B 1 _ _ _ (heap_setCell_same W B 0 _ _ _ h))))
theorem grown_set {w W : World} {B : Nat} (h : w.grownBy W (some B)) (o : Nat) (v : Value) : w.grownBy (W.setCell ⟨B, o, none⟩ v) (some B) := ⟨h.os, h.tape, h.output, by simpa [World.setCell] using h.size, fun k hk hne => (Below.heap_setCell W ⟨B, o, none⟩ v k (fun e => hne (by rw [e]))).trans (h.block k hk hne)⟩
theorem grown_set5 {W : World} {B : Nat} {a0 a1 a2 a3 a4 : Value} : W.grownBy (((((W.setCell ⟨B, 0, none⟩ a0).setCell ⟨B, 1, none⟩ a1).setCell ⟨B, 2, none⟩ a2).setCell ⟨B, 3, none⟩ a3).setCell ⟨B, 4, none⟩ a4) (some B) :=
  grown_set (grown_set (grown_set (grown_set (grown_set (grownBy_refl W _) _ _) _ _) _ _) _ _) _ _
theorem wp_post {Q : Exit → Act → World → Prop} {x : Exit} {a : Act} {W : World} (R : World → Prop) (h : R W) (H : ∀ W, R W → Q x a W) : Q x a W := H W h
theorem res_own {W : World} {B : Nat} {cs : Array Value} (h : W.heap[B]? = some (.cells cs 34 (0, 0))) (hs : cs.size = 5) (tmps : Array Value) (h4 : tmps.getD 2 undef = .pointer (some ⟨B, 0, none⟩)) :
    (results Tryz.f34 tmps).run Tryz.prog W = .ok (.agg cs) W := by
  have h4' : tmps[2]?.getD undef = .pointer (some ⟨B, 0, none⟩) := by simpa using h4
  have hl := run_loadVar_row (P := Tryz.prog) W B 34 34 cs (0, 0) _ h Tryz.underlying34 rfl (by rw [hs]; kernel_rfl)
  simp [results, Tryz.results34, h4', asAddr, hl]
/-- so many parts at most -/
def DvSm : Nat → Dv → Prop
  | 0, _ => True
  | f + 1, .mk _ _ _ _ l => l.length ≤ 1000000 ∧ ∀ t ∈ l, DvSm f t
set_option maxRecDepth 100000 in
set_option maxHeartbeats 8000000 in
theorem own_any2 : ∀ (f : Nat) (w : World) (kd di db : Int) (ds : ByteArray) (q : Option Addr) (n c : Nat) (t : Dv), DvIs w f [.int .i64 kd, .int .i64 di, .int .u64 db, .string ds, .slice q n c] t → DvSm f t →
    Calls Tryz.prog 34 #[.agg #[.int .i64 kd, .int .i64 di, .int .u64 db, .string ds, .slice q n c]] w (OwnPost2 w f t) := by
  intro f
  induction f with
  | zero => intro w kd di db ds q n c t h; exact h.elim
  | succ f ih =>
    intro w kd di db ds q n c t h hm
    obtain ⟨PP, hPP⟩ : ∃ PP : Ending → World → Prop, OwnPost2 w (f + 1) t = PP := ⟨_, rfl⟩
    rw [hPP]
    have HPP := Lib.hid hPP
    obtain ⟨l, rfl⟩ := h.mk
    obtain ⟨hn, i1, i2, i3, hnc, -⟩ := h.top
    have hm1 : l.length ≤ 1000000 := hm.1
    subst hn
    have HM := Lib.hid hm.2
    have IH := Lib.hid ih
    have HD := Lib.hid h
    have I1 := Lib.hid i1
    have I2 := Lib.hid i2
    have I3 := Lib.hid i3
    clear hPP ih h i1 i2 i3 hm
    go_enter Tryz.func34, Tryz.ntmps34
    go_wp2_with fail
    refine wp_world (fun W => OwnR w W kd di db ds f [] (.slice none 0 0)) ⟨(Below.heap_alloc _ _ _ (by simp)).trans (heap_alloc_new w _), by (have := heap_alloc_new (w.alloc (Obj.cells #[.int .i64 kd, .int .i64 di, .int .u64 db, .string ds, .slice none 0 0] 34)) (Obj.cells #[.int .i64 0, .int .i64 0, .int .u64 0, .string ⟨#[]⟩, .slice none 0 0] 34); rw [World.size_alloc] at this; exact this), LRow.nil _ _ _, ((Below.refl _ w).alloc (Nat.le_refl _) _).alloc (by simp) _⟩ (fun W0 hW0 => ?_)
    have HW0 := Lib.hid hW0
    clear hW0
    go_loopw [11] (fun s11 wr => ∃ (j : Nat) (q5 : Option Addr) (n5 cap5 : Nat), s11 = .int .i64 (j : Nat) ∧ j ≤ l.length ∧ Hid (OwnR w wr kd di db ds f (l.take j) (.slice q5 n5 cap5))) (fun s11 _ => l.length - (intOf s11).toNat)
    case atStart => exact ⟨0, none, 0, 0, rfl, Nat.zero_le _, HW0.out⟩
    case round =>
      obtain ⟨j, q5, n5, cap5, rfl, hj, HR0⟩ := hrel
      by_cases hlt : j < l.length
      · obtain ⟨t, ht⟩ : ∃ t, l[j]? = some t := ⟨_, List.getElem?_eq_getElem hlt⟩
        obtain ⟨b, o, kd', di', db', ds', q', m', c', l', rfl, hbl, rfl, k0, k1, k2, k3, k4, hDt⟩ := HD.out.part ht
        have hmv : ∀ (i : Nat) (u : Value), w.cell? ⟨b, i, none⟩ = some u → wr.cell? ⟨b, i, none⟩ = some u := fun i u hu => (HR0.out.bel.cell (World.block_lt_of_cell? w _ hu)).trans hu
        have y0 := hmv _ _ k0
        have y1 := hmv _ _ k1
        have y2 := hmv _ _ k2
        have y3 := hmv _ _ k3
        have y4 := hmv _ _ k4
        have hbw : b < wr.heap.size := Nat.lt_of_lt_of_le hbl HR0.out.bel.size
        have hltI : (j : Int) < (l.length : Int) := by omega
        have HT := Lib.hid ht
        have hsm : DvSm f (.mk kd' di' db' ds' l') := HM.out _ (List.mem_of_getElem? ht)
        have CI : Hid (∀ W, Below w.heap.size w W → Calls Tryz.prog 34 #[.agg #[.int .i64 kd', .int .i64 di', .int .u64 db', .string ds', .slice q' m' c']] W (OwnPost W f (.mk kd' di' db' ds' l'))) := fun W hW => (IH.out W kd' di' db' ds' q' m' c' _ (DvIs.below hW hDt) hsm).mono fun _ _ h => h.one
        clear k0 k1 k2 k3 k4 hmv ht hDt hsm
        obtain ⟨ts, hts⟩ : ∃ ts, l.take j = ts := ⟨_, rfl⟩
        rw [hts] at HR0
        have HTK : Hid (l.take (j + 1) = ts ++ [.mk kd' di' db' ds' l']) := by
          show l.take (j + 1) = _
          rw [List.take_add_one, HT.out, hts]; rfl
        have htl : ts.length ≤ 1000000 := by rw [← hts, List.length_take]; omega
        obtain ⟨q5', c5', hqe, -⟩ := HR0.out.row.slice
        injection hqe with hq1 hq2 hq3
        subst hq2
        clear hq1 hq3 hts
        go_upto_region 6 with fail
        obtain ⟨X, hX⟩ : ∃ X, wr.heap.size = X := ⟨_, rfl⟩
        rw [hX]
        refine wp_world (fun Wx => OwnR w Wx kd di db ds f ts (.slice q5 ts.length cap5) ∧ DB Wx X kd' di' db' ds' (.slice q' m' c')) ⟨⟨HR0.out.box.alloc _, HR0.out.res.alloc _, HR0.out.row.kept (Bx := w.heap.size) ⟨rfl, rfl, rfl, by simp, fun k hk _ => Below.heap_alloc _ _ _ hk⟩ (by omega), HR0.out.bel.alloc HR0.out.bel.size _⟩, by rw [← hX]; exact heap_alloc_new wr _⟩ (fun Wx hx => ?_)
        have HXR := Lib.hid hx.1
        have HXB := Lib.hid hx.2
        clear hx y0 y1 y2 y3 y4
        obtain ⟨-, -, -, -, d4, dl⟩ := HXR.out.box.cells
        obtain ⟨x0, x1, x2, x3, x4', xl⟩ := HXB.out.cells
        obtain ⟨xs, hxo, hxc⟩ := HXR.out.row
        have HXO := Lib.hid hxo
        have HXC := Lib.hid hxc
        obtain ⟨i0, hi, hz0, hz1, hz2⟩ := info_parts info_datum
        clear hxo hxc hX
        refine wp_region_held_drew (S := fun _ => True) (by kernel_rfl) trivial (fun hHeld => ?_)
        refine wpAnyH_take (i := 0) (oi := _) (v := ?_) rfl (by kernel_rfl) (by kernel_rfl) (by kernel_rfl) (fun _ _ _ h => h) (Or.inl ⟨by rfl, ?_⟩) (by assumption) ?_
        rotate_left
        focus (intro w' hSw; (try dsimp only at hSw); go_simp; try with_reducible rfl)
        (try simp only [Act.put, List.setIfInBounds_toArray, List.set_cons_zero, List.set_cons_succ, List.getElem_toArray, List.getElem_cons_zero])
        refine wpAnyH_ready (rs := [1, 2]) (by kernel_rfl) (by simp) ?_
        refine AllReadyH.cons (o := _) rfl (fun K hK => ?_) ?_
        · go_simp
          refine hK.out _ _ trivial (fun hHeld => ?_)
          clear hK K
          (try simp only [Act.put, List.setIfInBounds_toArray, List.set_cons_zero, List.set_cons_succ, List.getElem_toArray, List.getElem_cons_succ, List.getElem_cons_zero])
          refine wpAnyH_ready (rs := [2]) (by kernel_rfl) (by simp) ?_
          refine AllReadyH.cons (o := _) rfl (fun K hK => ?_) AllReadyH.nil
          go_simp
          refine hK.out _ _ trivial (fun hHeld => ?_)
          clear hK K
          (try simp only [Act.put, List.setIfInBounds_toArray, List.set_cons_zero, List.set_cons_succ, List.getElem_toArray, List.getElem_cons_succ, List.getElem_cons_zero])
          refine wpAnyH_ready (rs := [3]) (by kernel_rfl) (by simp) ?_
          refine AllReadyH.cons (o := _) rfl (fun K hK => ?_) AllReadyH.nil
          go_simp; refine (CI.out _ (HXR.out.bel.trans ((Below.drew_of Wx).mono HXR.out.bel.size))).mono ?_; rintro e W2 ⟨a0, a1, a2, a3, aq, an, ac, rfl, hb2, hd2⟩; have HR := Lib.hid (HXR.out.call HXO.out HXC.out (Below.undrew hb2) hd2); obtain ⟨-, -, -, -, e1, e2⟩ := HR.out.box.cells; clear hb2 hd2; dsimp only
          refine hK.out _ _ trivial (fun hHeld => ?_)
          clear hK K
          (try simp only [Act.put, List.setIfInBounds_toArray, List.set_cons_zero, List.set_cons_succ, List.getElem_toArray, List.getElem_cons_succ, List.getElem_cons_zero])
          refine wpAnyH_ready (rs := [4]) (by kernel_rfl) (by simp) ?_
          refine AllReadyH.cons (o := _) rfl (fun K hK => ?_) AllReadyH.nil
          go_simp; have HRN := Lib.hid (HR.out.alloc (.cells #[.int .i64 a0, .int .i64 a1, .int .u64 a2, .string a3, .slice aq an ac] 34)); have HPH : Hid (DB (W2.alloc (.cells #[.int .i64 a0, .int .i64 a1, .int .u64 a2, .string a3, .slice aq an ac] 34)) W2.heap.size a0 a1 a2 a3 (.slice aq an ac)) := heap_alloc_new W2 _; have hb5 : w.heap.size + 2 ≤ (W2.alloc (.cells #[.int .i64 a0, .int .i64 a1, .int .u64 a2, .string a3, .slice aq an ac] 34)).heap.size := (by have := (Array.getElem?_eq_some_iff.1 HRN.out.res).1; omega)
          refine hK.out _ _ trivial (fun hHeld => ?_)
          clear hK K
          (try simp only [Act.put, List.setIfInBounds_toArray, List.set_cons_zero, List.set_cons_succ, List.getElem_toArray, List.getElem_cons_succ, List.getElem_cons_zero])
          refine wpAnyH_ready (rs := [5]) (by kernel_rfl) (by simp) ?_
          refine AllReadyH.cons (o := _) rfl (fun K hK => ?_) AllReadyH.nil
          (refine step_append_lies _ (by rfl) _ _ _ (by rfl) (w.heap.size + 2) 34 i0 dzero 5 64 Tryz.underlying32 hi hz0 hz1 hz2 rfl (by decide) (.slice q5 ts.length cap5) ts.length xs (by rfl) HRN.out.own ⟨W2.heap.size, 0, none⟩ 1 1 [.int .i64 a0, .int .i64 a1, .int .u64 a2, .string a3, .slice aq an ac] (by rfl) rfl (dv_news HPH.out) (by intro u hu; simp at hu; rcases hu with rfl | rfl | rfl | rfl | rfl <;> rfl) (by decide) (by unfold maxLen; omega) (by omega) hb5 (W2.heap.size + 1) (by simp) ?_); intro g2 cap2 w1 hown' hgrow hat hlt2; have HG := Lib.hid (HRN.out.grown hown' rfl hgrow (by rw [World.size_alloc]; exact hat)); obtain ⟨-, -, -, -, x4, x5⟩ := HG.out.1.cells; have x6 := HG.out.1.free 4
          refine hK.out _ _ trivial (fun hHeld => ?_)
          clear hK K
          (try simp only [Act.put, List.setIfInBounds_toArray, List.set_cons_zero, List.set_cons_succ, List.getElem_toArray, List.getElem_cons_succ, List.getElem_cons_zero])
          refine wpAnyH_take (i := 6) (oi := _) (v := ?_) rfl (by kernel_rfl) (by kernel_rfl) (by kernel_rfl) (fun _ _ _ h => h) (Or.inl ⟨by rfl, ?_⟩) (by assumption) ?_
          rotate_left
          focus (intro w' hSw; (try dsimp only at hSw); go_simp; try with_reducible rfl)
          (try simp only [Act.put, List.setIfInBounds_toArray, List.set_cons_zero, List.set_cons_succ, List.getElem_toArray, List.getElem_cons_succ, List.getElem_cons_zero])
          refine wpAnyH_ready (rs := [7]) (by kernel_rfl) (by simp) ?_
          refine AllReadyH.cons (o := _) rfl (fun K hK => ?_) AllReadyH.nil
          go_simp
          refine hK.out _ _ trivial (fun hHeld => ?_)
          clear hK K
          (try simp only [Act.put, List.setIfInBounds_toArray, List.set_cons_zero, List.set_cons_succ, List.getElem_toArray, List.getElem_cons_succ, List.getElem_cons_zero])
          refine wpAnyH_done (by kernel_rfl) ?_ _
          go_simp
          go_wp2_with fail
          go_roundw
          case rel => exact ⟨j + 1, _, _, _, by go_num, by omega, (by rw [HTK.out]; exact HG.out.2)⟩
          case measure => simp [intOf]; omega
        refine AllReadyH.cons (o := _) rfl (fun K hK => ?_) AllReadyH.nil
        go_simp
        refine hK.out _ _ trivial (fun hHeld => ?_)
        clear hK K
        (try simp only [Act.put, List.setIfInBounds_toArray, List.set_cons_zero, List.set_cons_succ, List.getElem_toArray, List.getElem_cons_succ, List.getElem_cons_zero])
        refine wpAnyH_ready (rs := [1, 3]) (by kernel_rfl) (by simp) ?_
        refine AllReadyH.cons (o := _) rfl (fun K hK => ?_) ?_
        · go_simp
          refine hK.out _ _ trivial (fun hHeld => ?_)
          clear hK K
          (try simp only [Act.put, List.setIfInBounds_toArray, List.set_cons_zero, List.set_cons_succ, List.getElem_toArray, List.getElem_cons_succ, List.getElem_cons_zero])
          refine wpAnyH_ready (rs := [3]) (by kernel_rfl) (by simp) ?_
          refine AllReadyH.cons (o := _) rfl (fun K hK => ?_) AllReadyH.nil
          go_simp; refine (CI.out _ (HXR.out.bel.trans ((Below.drew_of Wx).mono HXR.out.bel.size))).mono ?_; rintro e W2 ⟨a0, a1, a2, a3, aq, an, ac, rfl, hb2, hd2⟩; have HR := Lib.hid (HXR.out.call HXO.out HXC.out (Below.undrew hb2) hd2); obtain ⟨-, -, -, -, e1, e2⟩ := HR.out.box.cells; clear hb2 hd2; dsimp only
          refine hK.out _ _ trivial (fun hHeld => ?_)
          clear hK K
          (try simp only [Act.put, List.setIfInBounds_toArray, List.set_cons_zero, List.set_cons_succ, List.getElem_toArray, List.getElem_cons_succ, List.getElem_cons_zero])
          refine wpAnyH_ready (rs := [4]) (by kernel_rfl) (by simp) ?_
          refine AllReadyH.cons (o := _) rfl (fun K hK => ?_) AllReadyH.nil
          go_simp; have HRN := Lib.hid (HR.out.alloc (.cells #[.int .i64 a0, .int .i64 a1, .int .u64 a2, .string a3, .slice aq an ac] 34)); have HPH : Hid (DB (W2.alloc (.cells #[.int .i64 a0, .int .i64 a1, .int .u64 a2, .string a3, .slice aq an ac] 34)) W2.heap.size a0 a1 a2 a3 (.slice aq an ac)) := heap_alloc_new W2 _; have hb5 : w.heap.size + 2 ≤ (W2.alloc (.cells #[.int .i64 a0, .int .i64 a1, .int .u64 a2, .string a3, .slice aq an ac] 34)).heap.size := (by have := (Array.getElem?_eq_some_iff.1 HRN.out.res).1; omega)
          refine hK.out _ _ trivial (fun hHeld => ?_)
          clear hK K
          (try simp only [Act.put, List.setIfInBounds_toArray, List.set_cons_zero, List.set_cons_succ, List.getElem_toArray, List.getElem_cons_succ, List.getElem_cons_zero])
          refine wpAnyH_ready (rs := [5]) (by kernel_rfl) (by simp) ?_
          refine AllReadyH.cons (o := _) rfl (fun K hK => ?_) AllReadyH.nil
          (refine step_append_lies _ (by rfl) _ _ _ (by rfl) (w.heap.size + 2) 34 i0 dzero 5 64 Tryz.underlying32 hi hz0 hz1 hz2 rfl (by decide) (.slice q5 ts.length cap5) ts.length xs (by rfl) HRN.out.own ⟨W2.heap.size, 0, none⟩ 1 1 [.int .i64 a0, .int .i64 a1, .int .u64 a2, .string a3, .slice aq an ac] (by rfl) rfl (dv_news HPH.out) (by intro u hu; simp at hu; rcases hu with rfl | rfl | rfl | rfl | rfl <;> rfl) (by decide) (by unfold maxLen; omega) (by omega) hb5 (W2.heap.size + 1) (by simp) ?_); intro g2 cap2 w1 hown' hgrow hat hlt2; have HG := Lib.hid (HRN.out.grown hown' rfl hgrow (by rw [World.size_alloc]; exact hat)); obtain ⟨-, -, -, -, x4, x5⟩ := HG.out.1.cells; have x6 := HG.out.1.free 4
          refine hK.out _ _ trivial (fun hHeld => ?_)
          clear hK K
          (try simp only [Act.put, List.setIfInBounds_toArray, List.set_cons_zero, List.set_cons_succ, List.getElem_toArray, List.getElem_cons_succ, List.getElem_cons_zero])
          refine wpAnyH_take (i := 6) (oi := _) (v := ?_) rfl (by kernel_rfl) (by kernel_rfl) (by kernel_rfl) (fun _ _ _ h => h) (Or.inl ⟨by rfl, ?_⟩) (by assumption) ?_
          rotate_left
          focus (intro w' hSw; (try dsimp only at hSw); go_simp; try with_reducible rfl)
          (try simp only [Act.put, List.setIfInBounds_toArray, List.set_cons_zero, List.set_cons_succ, List.getElem_toArray, List.getElem_cons_succ, List.getElem_cons_zero])
          refine wpAnyH_ready (rs := [7]) (by kernel_rfl) (by simp) ?_
          refine AllReadyH.cons (o := _) rfl (fun K hK => ?_) AllReadyH.nil
          go_simp
          refine hK.out _ _ trivial (fun hHeld => ?_)
          clear hK K
          (try simp only [Act.put, List.setIfInBounds_toArray, List.set_cons_zero, List.set_cons_succ, List.getElem_toArray, List.getElem_cons_succ, List.getElem_cons_zero])
          refine wpAnyH_done (by kernel_rfl) ?_ _
          go_simp
          go_wp2_with fail
          go_roundw
          case rel => exact ⟨j + 1, _, _, _, by go_num, by omega, (by rw [HTK.out]; exact HG.out.2)⟩
          case measure => simp [intOf]; omega
        refine AllReadyH.cons (o := _) rfl (fun K hK => ?_) AllReadyH.nil
        go_simp; refine (CI.out _ (HXR.out.bel.trans ((Below.drew_of Wx).mono HXR.out.bel.size))).mono ?_; rintro e W2 ⟨a0, a1, a2, a3, aq, an, ac, rfl, hb2, hd2⟩; have HR := Lib.hid (HXR.out.call HXO.out HXC.out (Below.undrew hb2) hd2); obtain ⟨-, -, -, -, e1, e2⟩ := HR.out.box.cells; clear hb2 hd2; dsimp only
        refine hK.out _ _ trivial (fun hHeld => ?_)
        clear hK K
        (try simp only [Act.put, List.setIfInBounds_toArray, List.set_cons_zero, List.set_cons_succ, List.getElem_toArray, List.getElem_cons_succ, List.getElem_cons_zero])
        refine wpAnyH_ready (rs := [1, 4]) (by kernel_rfl) (by simp) ?_
        refine AllReadyH.cons (o := _) rfl (fun K hK => ?_) ?_
        · go_simp
          refine hK.out _ _ trivial (fun hHeld => ?_)
          clear hK K
          (try simp only [Act.put, List.setIfInBounds_toArray, List.set_cons_zero, List.set_cons_succ, List.getElem_toArray, List.getElem_cons_succ, List.getElem_cons_zero])
          refine wpAnyH_ready (rs := [4]) (by kernel_rfl) (by simp) ?_
          refine AllReadyH.cons (o := _) rfl (fun K hK => ?_) AllReadyH.nil
          go_simp; have HRN := Lib.hid (HR.out.alloc (.cells #[.int .i64 a0, .int .i64 a1, .int .u64 a2, .string a3, .slice aq an ac] 34)); have HPH : Hid (DB (W2.alloc (.cells #[.int .i64 a0, .int .i64 a1, .int .u64 a2, .string a3, .slice aq an ac] 34)) W2.heap.size a0 a1 a2 a3 (.slice aq an ac)) := heap_alloc_new W2 _; have hb5 : w.heap.size + 2 ≤ (W2.alloc (.cells #[.int .i64 a0, .int .i64 a1, .int .u64 a2, .string a3, .slice aq an ac] 34)).heap.size := (by have := (Array.getElem?_eq_some_iff.1 HRN.out.res).1; omega)
          refine hK.out _ _ trivial (fun hHeld => ?_)
          clear hK K
          (try simp only [Act.put, List.setIfInBounds_toArray, List.set_cons_zero, List.set_cons_succ, List.getElem_toArray, List.getElem_cons_succ, List.getElem_cons_zero])
          refine wpAnyH_ready (rs := [5]) (by kernel_rfl) (by simp) ?_
          refine AllReadyH.cons (o := _) rfl (fun K hK => ?_) AllReadyH.nil
          (refine step_append_lies _ (by rfl) _ _ _ (by rfl) (w.heap.size + 2) 34 i0 dzero 5 64 Tryz.underlying32 hi hz0 hz1 hz2 rfl (by decide) (.slice q5 ts.length cap5) ts.length xs (by rfl) HRN.out.own ⟨W2.heap.size, 0, none⟩ 1 1 [.int .i64 a0, .int .i64 a1, .int .u64 a2, .string a3, .slice aq an ac] (by rfl) rfl (dv_news HPH.out) (by intro u hu; simp at hu; rcases hu with rfl | rfl | rfl | rfl | rfl <;> rfl) (by decide) (by unfold maxLen; omega) (by omega) hb5 (W2.heap.size + 1) (by simp) ?_); intro g2 cap2 w1 hown' hgrow hat hlt2; have HG := Lib.hid (HRN.out.grown hown' rfl hgrow (by rw [World.size_alloc]; exact hat)); obtain ⟨-, -, -, -, x4, x5⟩ := HG.out.1.cells; have x6 := HG.out.1.free 4
          refine hK.out _ _ trivial (fun hHeld => ?_)
          clear hK K
          (try simp only [Act.put, List.setIfInBounds_toArray, List.set_cons_zero, List.set_cons_succ, List.getElem_toArray, List.getElem_cons_succ, List.getElem_cons_zero])
          refine wpAnyH_take (i := 6) (oi := _) (v := ?_) rfl (by kernel_rfl) (by kernel_rfl) (by kernel_rfl) (fun _ _ _ h => h) (Or.inl ⟨by rfl, ?_⟩) (by assumption) ?_
          rotate_left
          focus (intro w' hSw; (try dsimp only at hSw); go_simp; try with_reducible rfl)
          (try simp only [Act.put, List.setIfInBounds_toArray, List.set_cons_zero, List.set_cons_succ, List.getElem_toArray, List.getElem_cons_succ, List.getElem_cons_zero])
          refine wpAnyH_ready (rs := [7]) (by kernel_rfl) (by simp) ?_
          refine AllReadyH.cons (o := _) rfl (fun K hK => ?_) AllReadyH.nil
          go_simp
          refine hK.out _ _ trivial (fun hHeld => ?_)
          clear hK K
          (try simp only [Act.put, List.setIfInBounds_toArray, List.set_cons_zero, List.set_cons_succ, List.getElem_toArray, List.getElem_cons_succ, List.getElem_cons_zero])
          refine wpAnyH_done (by kernel_rfl) ?_ _
          go_simp
          go_wp2_with fail
          go_roundw
          case rel => exact ⟨j + 1, _, _, _, by go_num, by omega, (by rw [HTK.out]; exact HG.out.2)⟩
          case measure => simp [intOf]; omega
        refine AllReadyH.cons (o := _) rfl (fun K hK => ?_) AllReadyH.nil
        go_simp; have HRN := Lib.hid (HR.out.alloc (.cells #[.int .i64 a0, .int .i64 a1, .int .u64 a2, .string a3, .slice aq an ac] 34)); have HPH : Hid (DB (W2.alloc (.cells #[.int .i64 a0, .int .i64 a1, .int .u64 a2, .string a3, .slice aq an ac] 34)) W2.heap.size a0 a1 a2 a3 (.slice aq an ac)) := heap_alloc_new W2 _; have hb5 : w.heap.size + 2 ≤ (W2.alloc (.cells #[.int .i64 a0, .int .i64 a1, .int .u64 a2, .string a3, .slice aq an ac] 34)).heap.size := (by have := (Array.getElem?_eq_some_iff.1 HRN.out.res).1; omega)
        refine hK.out _ _ trivial (fun hHeld => ?_)
        clear hK K
        (try simp only [Act.put, List.setIfInBounds_toArray, List.set_cons_zero, List.set_cons_succ, List.getElem_toArray, List.getElem_cons_succ, List.getElem_cons_zero])
        refine wpAnyH_ready (rs := [1]) (by kernel_rfl) (by simp) ?_
        refine AllReadyH.cons (o := _) rfl (fun K hK => ?_) AllReadyH.nil
        go_simp
        refine hK.out _ _ trivial (fun hHeld => ?_)
        clear hK K
        (try simp only [Act.put, List.setIfInBounds_toArray, List.set_cons_zero, List.set_cons_succ, List.getElem_toArray, List.getElem_cons_succ, List.getElem_cons_zero])
        refine wpAnyH_ready (rs := [5]) (by kernel_rfl) (by simp) ?_
        refine AllReadyH.cons (o := _) rfl (fun K hK => ?_) AllReadyH.nil
        (refine step_append_lies _ (by rfl) _ _ _ (by rfl) (w.heap.size + 2) 34 i0 dzero 5 64 Tryz.underlying32 hi hz0 hz1 hz2 rfl (by decide) (.slice q5 ts.length cap5) ts.length xs (by rfl) HRN.out.own ⟨W2.heap.size, 0, none⟩ 1 1 [.int .i64 a0, .int .i64 a1, .int .u64 a2, .string a3, .slice aq an ac] (by rfl) rfl (dv_news HPH.out) (by intro u hu; simp at hu; rcases hu with rfl | rfl | rfl | rfl | rfl <;> rfl) (by decide) (by unfold maxLen; omega) (by omega) hb5 (W2.heap.size + 1) (by simp) ?_); intro g2 cap2 w1 hown' hgrow hat hlt2; have HG := Lib.hid (HRN.out.grown hown' rfl hgrow (by rw [World.size_alloc]; exact hat)); obtain ⟨-, -, -, -, x4, x5⟩ := HG.out.1.cells; have x6 := HG.out.1.free 4
        refine hK.out _ _ trivial (fun hHeld => ?_)
        clear hK K
        (try simp only [Act.put, List.setIfInBounds_toArray, List.set_cons_zero, List.set_cons_succ, List.getElem_toArray, List.getElem_cons_succ, List.getElem_cons_zero])
        refine wpAnyH_take (i := 6) (oi := _) (v := ?_) rfl (by kernel_rfl) (by kernel_rfl) (by kernel_rfl) (fun _ _ _ h => h) (Or.inl ⟨by rfl, ?_⟩) (by assumption) ?_
        rotate_left
        focus (intro w' hSw; (try dsimp only at hSw); go_simp; try with_reducible rfl)
        (try simp only [Act.put, List.setIfInBounds_toArray, List.set_cons_zero, List.set_cons_succ, List.getElem_toArray, List.getElem_cons_succ, List.getElem_cons_zero])
        refine wpAnyH_ready (rs := [7]) (by kernel_rfl) (by simp) ?_
        refine AllReadyH.cons (o := _) rfl (fun K hK => ?_) AllReadyH.nil
        go_simp
        refine hK.out _ _ trivial (fun hHeld => ?_)
        clear hK K
        (try simp only [Act.put, List.setIfInBounds_toArray, List.set_cons_zero, List.set_cons_succ, List.getElem_toArray, List.getElem_cons_succ, List.getElem_cons_zero])
        refine wpAnyH_done (by kernel_rfl) ?_ _
        go_simp
        go_wp2_with fail
        go_roundw
        case rel => exact ⟨j + 1, _, _, _, by go_num, by omega, (by rw [HTK.out]; exact HG.out.2)⟩
        case measure => simp [intOf]; omega
      · obtain rfl : j = l.length := by omega
        have hnI : ¬ (l.length : Int) < (l.length : Int) := by omega
        obtain ⟨d0, d1, d2, d3, d4, dl⟩ := HR0.out.box.cells
        obtain ⟨e0, e1, e2, e3, e4, el⟩ := HR0.out.res.cells
        have r0 := HR0.out.res.free 0
        have r1 := HR0.out.res.free 1
        have r2 := HR0.out.res.free 2
        have r3 := HR0.out.res.free 3
        have r4 := HR0.out.res.free 4
        go_wp2_with fail
        refine wp_post (fun W => DB W (w.heap.size + 1) kd di db ds (.slice q5 n5 cap5) ∧ wr.grownBy W (some (w.heap.size + 1))) ⟨DB.set5 HR0.out.res kd di db ds (.slice q5 n5 cap5), grown_set5⟩ (fun W hW => ?_)
        refine bodyPost_ret (res_own hW.1 rfl _ rfl) rfl ?_
        rw [← HPP.out]
        have hrow := HR0.out.row
        rw [List.take_length] at hrow
        have hrow2 := hrow.kept hW.2 (by omega)
        refine ⟨kd, di, db, ds, q5, n5, cap5, rfl, HR0.out.bel.grown hW.2 HR0.out.bel.size (fun k hk => by injection hk with hk; omega), ?_, ?_⟩
        · exact (hrow2.in_ (lo := w.heap.size) (by omega) I1.out I2.out I3.out).kept fun b hb _ => ⟨rfl, hb⟩
        · exact (hrow2.free (lo := w.heap.size) (by omega)).kept fun b hb _ => ⟨rfl, hb⟩
theorem own_any (f : Nat) (w : World) (kd di db : Int) (ds : ByteArray) (q : Option Addr) (n c : Nat) (t : Dv) (h : DvIs w f [.int .i64 kd, .int .i64 di, .int .u64 db, .string ds, .slice q n c] t) (hs : DvSm f t) :
    Calls Tryz.prog 34 #[.agg #[.int .i64 kd, .int .i64 di, .int .u64 db, .string ds, .slice q n c]] w (OwnPost w f t) := (own_any2 f w kd di db ds q n c t h hs).mono fun _ _ h => h.one
end Go.Proofs.YtincmegllckcjaaGreatDoor
