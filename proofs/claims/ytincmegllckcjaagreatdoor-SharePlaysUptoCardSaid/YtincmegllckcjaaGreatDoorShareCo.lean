/- SHARE: conduitref01.Copy: a value in memory of its own. SHARE: conduitref16.CopyMsg: a message whose body lies in memory of its own. SHARE: the reference's hub: Keep. SHARE: what is kept, told in order: plain Lean. SHARE: the reference's hub: Kept. -/
import Derived.Deep.AppendLies
import Derived.Test.YtincmegllckcjaaGreatDoorShareOwn
import Derived.Test.YtincmegllckcjaaGreatDoorShareKeepP
import Derived.Maps.AppendAt
import Derived.BigRegion
import Derived.BigQuiet
import Derived.Test.YtincmegllckcjaaGreatDoorShareRefC
import Derived.Test.YtincmegllckcjaaGreatDoorShareNb
namespace Go.Proofs.YtincmegllckcjaaGreatDoor
section
open Go Go.RowKit
attribute [local go_sem ↓] Go.wp_at_zero Go.wp_at_succ

/-- the parts copied so far -/
structure CopR (w wr : World) (kd di db : Int) (ds : ByteArray) (vd : Value) (f : Nat) (ts : List Dv) (va : Value) : Prop where
  src : DB wr w.heap.size kd di db ds vd
  box : DB wr (w.heap.size + 2) kd di db ds va
  res : DB wr (w.heap.size + 1) 0 0 0 ⟨#[]⟩ (.slice none 0 0)
  row : LRow wr (w.heap.size + 3) va f ts
  bel : Below w.heap.size w wr
/-- .. behind the call -/
structure CopC (w Wn : World) (kd di db : Int) (ds : ByteArray) (vd : Value) (f : Nat) (ts : List Dv) (t : Dv) (va : Value) (xs : List Value) (a : List Value) : Prop where
  src : DB Wn w.heap.size kd di db ds vd
  box : DB Wn (w.heap.size + 2) kd di db ds va
  res : DB Wn (w.heap.size + 1) 0 0 0 ⟨#[]⟩ (.slice none 0 0)
  own : Wn.ownsRow (w.heap.size + 3) 34 5 va ts.length xs
  parts : ∀ j t, ts[j]? = some t → ∃ c0 c1 c2 c3 c4, xs[j * 5]? = some c0 ∧ xs[j * 5 + 1]? = some c1 ∧ xs[j * 5 + 2]? = some c2 ∧ xs[j * 5 + 3]? = some c3 ∧ xs[j * 5 + 4]? = some c4 ∧ DvIn (RowP (w.heap.size + 3) Wn va) Wn f [c0, c1, c2, c3, c4] t
  part : DvIn (RowP (w.heap.size + 3) Wn va) Wn f a t
  bel : Below w.heap.size w Wn
theorem CopR.call {w Wx W2 : World} {kd di db : Int} {ds : ByteArray} {f : Nat} {ts : List Dv} {t : Dv} {vd va : Value} {xs a : List Value} (h : CopR w Wx kd di db ds vd f ts va) (ho : Wx.ownsRow (w.heap.size + 3) 34 5 va ts.length xs)
    (hc : ∀ j t, ts[j]? = some t → ∃ c0 c1 c2 c3 c4, xs[j * 5]? = some c0 ∧ xs[j * 5 + 1]? = some c1 ∧ xs[j * 5 + 2]? = some c2 ∧ xs[j * 5 + 3]? = some c3 ∧ xs[j * 5 + 4]? = some c4 ∧ DvIn (RowP (w.heap.size + 3) Wx va) Wx f [c0, c1, c2, c3, c4] t)
    (hb : Below Wx.heap.size Wx W2) (hd : DvIn (Fresh Wx W2) W2 f a t) : CopC w W2 kd di db ds vd f ts t va xs a := by
  have hl := ho.lt
  have hB := (Array.getElem?_eq_some_iff.1 h.box).1
  refine ⟨(hb.block _ (by omega)).trans h.src, (hb.block _ hB).trans h.box, (hb.block _ (by omega)).trans h.res, row_of_heap ho fun b e => hb.block b (hl b e).2, fun j t hj => ?_, hd.kept fun b hb2 _ => ⟨rfl, by have := hb2.1; omega, hb2.2, fun e => ?_⟩, h.bel.trans (hb.mono h.bel.size)⟩
  · obtain ⟨c0, c1, c2, c3, c4, q0, q1, q2, q3, q4, ht⟩ := hc j t hj
    exact ⟨c0, c1, c2, c3, c4, q0, q1, q2, q3, q4, ht.kept fun b hb2 hlt => ⟨hb.block b hlt, hb2.1, Nat.lt_of_lt_of_le hb2.2.1 hb.size, hb2.2.2⟩⟩
  · have := (hl b e.symm).2
    have := hb2.1
    omega
theorem CopC.alloc {w Wn : World} {kd di db : Int} {ds : ByteArray} {f : Nat} {ts : List Dv} {t : Dv} {vd va : Value} {xs a : List Value} (h : CopC w Wn kd di db ds vd f ts t va xs a) (o : Obj) : CopC w (Wn.alloc o) kd di db ds vd f ts t va xs a := by
  have hk : ∀ b, RowP (w.heap.size + 3) Wn va b → b < Wn.heap.size → (Wn.alloc o).heap[b]? = Wn.heap[b]? ∧ RowP (w.heap.size + 3) (Wn.alloc o) va b := fun b hb hl => ⟨Below.heap_alloc _ _ _ hl, hb.1, by rw [World.size_alloc]; omega, hb.2.2⟩
  refine ⟨h.src.alloc o, h.box.alloc o, h.res.alloc o, h.own.alloc o, fun j t hj => ?_, h.part.kept hk, h.bel.alloc h.bel.size _⟩
  obtain ⟨c0, c1, c2, c3, c4, q0, q1, q2, q3, q4, ht⟩ := h.parts j t hj
  exact ⟨c0, c1, c2, c3, c4, q0, q1, q2, q3, q4, ht.kept hk⟩
/-- .. behind append -/
theorem CopC.grown {w Wn w1 : World} {kd di db : Int} {ds : ByteArray} {f n g cap : Nat} {ts : List Dv} {t : Dv} {vd va a0 a1 a2 a3 a4 : Value} {xs : List Value} (h : CopC w Wn kd di db ds vd f ts t va xs [a0, a1, a2, a3, a4])
    (hown : w1.ownsRow (w.heap.size + 3) 34 5 (.slice (some ⟨g, 0, none⟩) n cap) n (xs ++ [a0, a1, a2, a3, a4])) (hn : n = ts.length + 1) (hg : Wn.grownBy w1 va.ownBlock) (hat : va.ownBlock = some g ∨ g = Wn.heap.size) :
    (DB w1 (w.heap.size + 2) kd di db ds va ∧ DB w1 w.heap.size kd di db ds vd) ∧ CopR w (w1.setCell ⟨w.heap.size + 2, 4, none⟩ (.slice (some ⟨g, 0, none⟩) n cap)) kd di db ds vd f (ts ++ [t]) (.slice (some ⟨g, 0, none⟩) n cap) ∧ Below w.heap.size w w1 := by
  have hl := h.own.lt
  have hbox := (Array.getElem?_eq_some_iff.1 h.box).1
  have hoff : ∀ b, b < w.heap.size + 3 → w1.heap[b]? = Wn.heap[b]? := fun b hb => hg.block b (by omega) (fun e => by have := (hl b e.symm).1; omega)
  have hb1 : DB w1 (w.heap.size + 2) kd di db ds va := (hoff _ (by omega)).trans h.box
  have hs1 : DB w1 w.heap.size kd di db ds vd := (hoff _ (by omega)).trans h.src
  have hrow := LRow.snoc h.own h.parts h.part hown hn hg.size (fun b h1 h2 h3 => ⟨hg.block b h2 h3, fun e => by
    rcases hat with e2 | e2
    · exact h3 (by rw [e2, e])
    · omega⟩)
  have hr1 : DB w1 (w.heap.size + 1) 0 0 0 ⟨#[]⟩ (.slice none 0 0) := (hoff _ (by omega)).trans h.res
  have hbel := h.bel.grown hg h.bel.size (fun k hk => by have := (hl k hk).1; omega)
  refine ⟨⟨hb1, hs1⟩, ⟨DB.setOther hs1 _ _ (by show w.heap.size + 2 ≠ w.heap.size; omega), hb1.setV _, DB.setOther hr1 _ _ (by show w.heap.size + 2 ≠ w.heap.size + 1; omega), ?_, ?_⟩, hbel⟩
  · exact hrow.kept (Bx := w.heap.size + 2) ⟨rfl, rfl, rfl, by simp, fun k _ hk => Below.heap_setCell _ _ _ _ (fun e => hk (by rw [e]))⟩ (by omega)
  · exact hbel.trans ⟨rfl, rfl, rfl, by simp, fun b hb => Below.heap_setCell _ _ _ _ (by show b ≠ w.heap.size + 2; omega)⟩
theorem res_copy {W : World} {B : Nat} {cs : Array Value} (h : W.heap[B]? = some (.cells cs 34 (0, 0))) (hs : cs.size = 5) (tmps : Array Value) (h4 : tmps.getD 2 undef = .pointer (some ⟨B, 0, none⟩)) :
    (results Tryz.f84 tmps).run Tryz.prog W = .ok (.agg cs) W := by
  have h4' : tmps[2]?.getD undef = .pointer (some ⟨B, 0, none⟩) := by simpa using h4
  have hl := run_loadVar_row (P := Tryz.prog) W B 34 34 cs (0, 0) _ h Tryz.underlying34 rfl (by rw [hs]; kernel_rfl)
  simp [results, Tryz.results84, h4', asAddr, hl]
set_option maxRecDepth 100000 in
set_option maxHeartbeats 8000000 in
set_option linter.unusedSimpArgs false in
theorem refCopy_any : ∀ (f : Nat) (w : World) (kd di db : Int) (ds : ByteArray) (q : Option Addr) (n c : Nat) (t : Dv), DvIs w f [.int .i64 kd, .int .i64 di, .int .u64 db, .string ds, .slice q n c] t → DvSm f t →
    Calls Tryz.prog 84 #[.agg #[.int .i64 kd, .int .i64 di, .int .u64 db, .string ds, .slice q n c]] w (OwnPost w f t) := by
  intro f
  induction f with
  | zero => intro w kd di db ds q n c t h; exact h.elim
  | succ f ih =>
    intro w kd di db ds q n c t h hm
    obtain ⟨PP, hPP⟩ : ∃ PP : Ending → World → Prop, OwnPost w (f + 1) t = PP := ⟨_, rfl⟩
    rw [hPP]
    have HPP := Lib.hid hPP
    obtain ⟨l, rfl⟩ := h.mk
    obtain ⟨hn, i1, i2, i3, hnc, -⟩ := h.top
    have hm1 : l.length ≤ 1000000 := hm.1
    subst hn
    have HM := Lib.hid hm.2
    have IH := Lib.hid ih
    have HD := Lib.hid h
    have I1 := Lib.hid i1
    have I2 := Lib.hid i2
    have I3 := Lib.hid i3
    clear hPP ih h i1 i2 i3 hm
    go_enter Tryz.func84, Tryz.ntmps84
    go_upto_region 3 with fail
    refine wp_world (fun W => CopR w W kd di db ds (.slice q l.length c) f [] (.slice none 0 0)) ⟨DB.alloc (DB.alloc (heap_alloc_new w _) _) _, by (have := heap_alloc_new ((w.alloc (Obj.cells #[.int .i64 kd, .int .i64 di, .int .u64 db, .string ds, .slice q l.length c] 34)).alloc (Obj.cells #[.int .i64 0, .int .i64 0, .int .u64 0, .string ⟨#[]⟩, .slice none 0 0] 34)) (Obj.cells #[.int .i64 kd, .int .i64 di, .int .u64 db, .string ds, .slice none 0 0] 34); rw [World.size_alloc, World.size_alloc] at this; exact this), DB.alloc (by (have := heap_alloc_new (w.alloc (Obj.cells #[.int .i64 kd, .int .i64 di, .int .u64 db, .string ds, .slice q l.length c] 34)) (Obj.cells #[.int .i64 0, .int .i64 0, .int .u64 0, .string ⟨#[]⟩, .slice none 0 0] 34); rw [World.size_alloc] at this; exact this)) _, LRow.nil _ _ _, (((Below.refl _ w).alloc (Nat.le_refl _) _).alloc (by simp) _).alloc (by simp; omega) _⟩ (fun W0 hW0 => ?_)
    have HW0 := Lib.hid hW0
    obtain ⟨-, -, -, -, z4, zl⟩ := hW0.src.cells
    clear hW0
    go_wp2_with fail
    go_loopw [10] (fun s10 wr => ∃ (j : Nat) (q5 : Option Addr) (n5 cap5 : Nat), s10 = .int .i64 (j : Nat) ∧ j ≤ l.length ∧ Hid (CopR w wr kd di db ds (.slice q l.length c) f (l.take j) (.slice q5 n5 cap5))) (fun s10 _ => l.length - (intOf s10).toNat)
    case atStart => exact ⟨0, none, 0, 0, rfl, Nat.zero_le _, HW0.out⟩
    case round =>
      obtain ⟨j, q5, n5, cap5, rfl, hj, HR0⟩ := hrel
      by_cases hlt : j < l.length
      · obtain ⟨t, ht⟩ : ∃ t, l[j]? = some t := ⟨_, List.getElem?_eq_getElem hlt⟩
        obtain ⟨b, o, kd', di', db', ds', q', m', c', l', rfl, hbl, rfl, k0, k1, k2, k3, k4, hDt⟩ := HD.out.part ht
        have hltI : (j : Int) < (l.length : Int) := by omega
        have hj0 : (0 : Int) ≤ (j : Int) := by omega
        have HT := Lib.hid ht
        have hsm : DvSm f (.mk kd' di' db' ds' l') := HM.out _ (List.mem_of_getElem? ht)
        have CI : Hid (∀ W, Below w.heap.size w W → Calls Tryz.prog 84 #[.agg #[.int .i64 kd', .int .i64 di', .int .u64 db', .string ds', .slice q' m' c']] W (OwnPost W f (.mk kd' di' db' ds' l'))) := fun W hW => IH.out W kd' di' db' ds' q' m' c' _ (DvIs.below hW hDt) hsm
        have HSS : Hid (∀ W', DB W' w.heap.size kd di db ds (.slice (some ⟨b, o, none⟩) l.length c) → Below w.heap.size w W' → W'.cell? ⟨w.heap.size, 4, none⟩ = some (.slice (some ⟨b, o, none⟩) l.length c) ∧ W'.cell? ⟨b, o + j * 5, none⟩ = some (.int .i64 kd') ∧ W'.cell? ⟨b, o + j * 5 + 1, none⟩ = some (.int .i64 di') ∧ W'.cell? ⟨b, o + j * 5 + 2, none⟩ = some (.int .u64 db') ∧ W'.cell? ⟨b, o + j * 5 + 3, none⟩ = some (.string ds') ∧ W'.cell? ⟨b, o + j * 5 + 4, none⟩ = some (.slice q' m' c')) := fun W' hd hb => by
          have hmv : ∀ (i : Nat) (u : Value), w.cell? ⟨b, i, none⟩ = some u → W'.cell? ⟨b, i, none⟩ = some u := fun i u hu => (hb.cell (World.block_lt_of_cell? w _ hu)).trans hu
          exact ⟨hd.cells.2.2.2.2.1, hmv _ _ k0, hmv _ _ k1, hmv _ _ k2, hmv _ _ k3, hmv _ _ k4⟩
        clear k0 k1 k2 k3 k4 ht hDt hsm
        obtain ⟨ts, hts⟩ : ∃ ts, l.take j = ts := ⟨_, rfl⟩
        rw [hts] at HR0
        have HTK : Hid (l.take (j + 1) = ts ++ [.mk kd' di' db' ds' l']) := by
          show l.take (j + 1) = _
          rw [List.take_add_one, HT.out, hts]; rfl
        have htl : ts.length ≤ 1000000 := by rw [← hts, List.length_take]; omega
        obtain ⟨q5', c5', hqe, -⟩ := HR0.out.row.slice
        injection hqe with hq1 hq2 hq3
        subst hq2
        clear hq1 hq3 hts
        go_upto_region 6 with fail
        refine wp_world (fun Wx => CopR w Wx kd di db ds (.slice (some ⟨b, o, none⟩) l.length c) f ts (.slice q5 ts.length cap5)) HR0.out (fun Wx hx => ?_)
        have HXR := Lib.hid hx
        have HS0 := Lib.hid (HSS.out Wx.drew hx.src (hx.bel.trans ((Below.drew_of Wx).mono hx.bel.size)))
        clear hx
        obtain ⟨-, -, -, -, d4, dl⟩ := HXR.out.box.cells
        obtain ⟨-, -, -, -, -, dl0⟩ := HXR.out.src.cells
        obtain ⟨xs, hxo, hxc⟩ := HXR.out.row
        have HXO := Lib.hid hxo
        have HXC := Lib.hid hxc
        obtain ⟨i0, hi, hz0, hz1, hz2⟩ := info_parts info_datum
        clear hxo hxc
        refine wp_region_held_drew (S := fun W' => W'.cell? ⟨w.heap.size, 4, none⟩ = some (.slice (some ⟨b, o, none⟩) l.length c) ∧ W'.cell? ⟨b, o + j * 5, none⟩ = some (.int .i64 kd') ∧ W'.cell? ⟨b, o + j * 5 + 1, none⟩ = some (.int .i64 di') ∧ W'.cell? ⟨b, o + j * 5 + 2, none⟩ = some (.int .u64 db') ∧ W'.cell? ⟨b, o + j * 5 + 3, none⟩ = some (.string ds') ∧ W'.cell? ⟨b, o + j * 5 + 4, none⟩ = some (.slice q' m' c')) (by kernel_rfl) HS0.out (fun hHeld => ?_)
        refine wpAnyH_take (i := 0) (oi := _) (v := ?_) rfl (by kernel_rfl) (by kernel_rfl) (by kernel_rfl) (fun _ _ _ h => h) (Or.inl ⟨by rfl, ?_⟩) (by assumption) ?_
        rotate_left
        focus (intro w' hSw; (try dsimp only at hSw); go_simp; try with_reducible rfl)
        (try simp only [Act.put, List.setIfInBounds_toArray, List.set_cons_zero, List.set_cons_succ, List.getElem_toArray, List.getElem_cons_succ, List.getElem_cons_zero])
        refine wpAnyH_take (i := 2) (oi := _) (v := ?_) rfl (by kernel_rfl) (by kernel_rfl) (by kernel_rfl) (fun _ _ _ h => h) (Or.inl ⟨by rfl, ?_⟩) (by assumption) ?_
        rotate_left
        focus (intro w' hSw; (try dsimp only at hSw); go_simp; try with_reducible rfl)
        (try simp only [Act.put, List.setIfInBounds_toArray, List.set_cons_zero, List.set_cons_succ, List.getElem_toArray, List.getElem_cons_succ, List.getElem_cons_zero])
        refine wpAnyH_take (i := 3) (oi := _) (v := ?_) rfl (by kernel_rfl) (by kernel_rfl) (by kernel_rfl) (fun _ _ _ h => h) (Or.inl ⟨by rfl, ?_⟩) (by assumption) ?_
        rotate_left
        focus (intro w' hSw; (try dsimp only at hSw); go_simp; try with_reducible rfl)
        (try simp only [Act.put, List.setIfInBounds_toArray, List.set_cons_zero, List.set_cons_succ, List.getElem_toArray, List.getElem_cons_succ, List.getElem_cons_zero])
        refine wpAnyH_take (i := 4) (oi := _) (v := ?_) rfl (by kernel_rfl) (by kernel_rfl) (by kernel_rfl) (fun _ _ _ h => h) (Or.inl ⟨by rfl, ?_⟩) (by assumption) ?_
        rotate_left
        focus (intro w' hSw; (try dsimp only at hSw); go_simp; try with_reducible rfl)
        (try simp only [Act.put, List.setIfInBounds_toArray, List.set_cons_zero, List.set_cons_succ, List.getElem_toArray, List.getElem_cons_succ, List.getElem_cons_zero])
        refine wpAnyH_take (i := 5) (oi := _) (v := ?_) rfl (by kernel_rfl) (by kernel_rfl) (by kernel_rfl) (fun _ _ _ h => h) (Or.inl ⟨by rfl, ?_⟩) (by assumption) ?_
        rotate_left
        focus (intro w' hSw; (try dsimp only at hSw); go_simp; try with_reducible rfl)
        (try simp only [Act.put, List.setIfInBounds_toArray, List.set_cons_zero, List.set_cons_succ, List.getElem_toArray, List.getElem_cons_succ, List.getElem_cons_zero])
        refine wpAnyH_take (i := 6) (oi := _) (v := ?_) rfl (by kernel_rfl) (by kernel_rfl) (by kernel_rfl) (fun _ _ _ h => h) (Or.inl ⟨by rfl, ?_⟩) (by assumption) ?_
        rotate_left
        focus (intro w' hSw; (try dsimp only at hSw); go_simp; try with_reducible rfl)
        (try simp only [Act.put, List.setIfInBounds_toArray, List.set_cons_zero, List.set_cons_succ, List.getElem_toArray, List.getElem_cons_succ, List.getElem_cons_zero])
        refine wpAnyH_ready (rs := [1, 7]) (by kernel_rfl) (by simp) ?_
        refine AllReadyH.cons (o := _) rfl (fun K hK => ?_) ?_
        · go_simp
          refine hK.out _ _ HS0.out (fun hHeld => ?_)
          clear hK K
          (try simp only [Act.put, List.setIfInBounds_toArray, List.set_cons_zero, List.set_cons_succ, List.getElem_toArray, List.getElem_cons_succ, List.getElem_cons_zero])
          refine wpAnyH_ready (rs := [7]) (by kernel_rfl) (by simp) ?_
          refine AllReadyH.cons (o := _) rfl (fun K hK => ?_) AllReadyH.nil
          go_simp; refine (CI.out _ (HXR.out.bel.trans ((Below.drew_of Wx).mono HXR.out.bel.size))).mono ?_; rintro e W2 ⟨a0, a1, a2, a3, aq, an, ac, rfl, hb2, hd2⟩; have HR := Lib.hid (HXR.out.call HXO.out HXC.out (Below.undrew hb2) hd2); have HS7 := Lib.hid (HSS.out _ HR.out.src HR.out.bel); obtain ⟨-, -, -, -, e1, e2⟩ := HR.out.box.cells; clear hb2 hd2; dsimp only
          refine hK.out _ _ HS7.out (fun hHeld => ?_)
          clear hK K
          (try simp only [Act.put, List.setIfInBounds_toArray, List.set_cons_zero, List.set_cons_succ, List.getElem_toArray, List.getElem_cons_succ, List.getElem_cons_zero])
          refine wpAnyH_ready (rs := [8]) (by kernel_rfl) (by simp) ?_
          refine AllReadyH.cons (o := _) rfl (fun K hK => ?_) AllReadyH.nil
          go_simp; have HRN := Lib.hid (HR.out.alloc (.cells #[.int .i64 a0, .int .i64 a1, .int .u64 a2, .string a3, .slice aq an ac] 34)); have HSN := Lib.hid (HSS.out _ HRN.out.src HRN.out.bel); have HPH : Hid (DB (W2.alloc (.cells #[.int .i64 a0, .int .i64 a1, .int .u64 a2, .string a3, .slice aq an ac] 34)) W2.heap.size a0 a1 a2 a3 (.slice aq an ac)) := heap_alloc_new W2 _; have hb5 : w.heap.size + 3 ≤ (W2.alloc (.cells #[.int .i64 a0, .int .i64 a1, .int .u64 a2, .string a3, .slice aq an ac] 34)).heap.size := (by have := (Array.getElem?_eq_some_iff.1 HRN.out.box).1; omega)
          refine hK.out _ _ HSN.out (fun hHeld => ?_)
          clear hK K
          (try simp only [Act.put, List.setIfInBounds_toArray, List.set_cons_zero, List.set_cons_succ, List.getElem_toArray, List.getElem_cons_succ, List.getElem_cons_zero])
          refine wpAnyH_ready (rs := [9]) (by kernel_rfl) (by simp) ?_
          refine AllReadyH.cons (o := _) rfl (fun K hK => ?_) AllReadyH.nil
          (refine step_append_lies _ (by rfl) _ _ _ (by rfl) (w.heap.size + 3) 34 i0 dzero 5 64 Tryz.underlying32 hi hz0 hz1 hz2 rfl (by decide) (.slice q5 ts.length cap5) ts.length xs (by rfl) HRN.out.own ⟨W2.heap.size, 0, none⟩ 1 1 [.int .i64 a0, .int .i64 a1, .int .u64 a2, .string a3, .slice aq an ac] (by rfl) rfl (dv_news HPH.out) (by intro u hu; simp at hu; rcases hu with rfl | rfl | rfl | rfl | rfl <;> rfl) (by decide) (by unfold maxLen; omega) (by omega) hb5 (W2.heap.size + 1) (by simp) ?_); intro g2 cap2 w1 hown' hgrow hat hlt2; have HG := Lib.hid (HRN.out.grown hown' rfl hgrow (by rw [World.size_alloc]; exact hat)); have HSG := Lib.hid (HSS.out _ HG.out.1.2 HG.out.2.2); obtain ⟨-, -, -, -, x4, x5⟩ := HG.out.1.1.cells; have x6 := HG.out.1.1.free 4
          refine hK.out _ _ HSG.out (fun hHeld => ?_)
          clear hK K
          (try simp only [Act.put, List.setIfInBounds_toArray, List.set_cons_zero, List.set_cons_succ, List.getElem_toArray, List.getElem_cons_succ, List.getElem_cons_zero])
          refine wpAnyH_take (i := 10) (oi := _) (v := ?_) rfl (by kernel_rfl) (by kernel_rfl) (by kernel_rfl) (fun _ _ _ h => h) (Or.inl ⟨by rfl, ?_⟩) (by assumption) ?_
          rotate_left
          focus (intro w' hSw; (try dsimp only at hSw); go_simp; try with_reducible rfl)
          (try simp only [Act.put, List.setIfInBounds_toArray, List.set_cons_zero, List.set_cons_succ, List.getElem_toArray, List.getElem_cons_succ, List.getElem_cons_zero])
          refine wpAnyH_ready (rs := [11]) (by kernel_rfl) (by simp) ?_
          refine AllReadyH.cons (o := _) rfl (fun K hK => ?_) AllReadyH.nil
          go_simp; have HSF := Lib.hid (HSS.out _ HG.out.2.1.src HG.out.2.1.bel)
          refine hK.out _ _ HSF.out (fun hHeld => ?_)
          clear hK K
          (try simp only [Act.put, List.setIfInBounds_toArray, List.set_cons_zero, List.set_cons_succ, List.getElem_toArray, List.getElem_cons_succ, List.getElem_cons_zero])
          refine wpAnyH_done (by kernel_rfl) ?_ _
          go_simp
          go_wp2_with fail
          go_roundw
          case rel => exact ⟨j + 1, _, _, _, by go_num, by omega, (by rw [HTK.out]; exact HG.out.2.1)⟩
          case measure => simp [intOf]; omega
        refine AllReadyH.cons (o := _) rfl (fun K hK => ?_) AllReadyH.nil
        go_simp; refine (CI.out _ (HXR.out.bel.trans ((Below.drew_of Wx).mono HXR.out.bel.size))).mono ?_; rintro e W2 ⟨a0, a1, a2, a3, aq, an, ac, rfl, hb2, hd2⟩; have HR := Lib.hid (HXR.out.call HXO.out HXC.out (Below.undrew hb2) hd2); have HS7 := Lib.hid (HSS.out _ HR.out.src HR.out.bel); obtain ⟨-, -, -, -, e1, e2⟩ := HR.out.box.cells; clear hb2 hd2; dsimp only
        refine hK.out _ _ HS7.out (fun hHeld => ?_)
        clear hK K
        (try simp only [Act.put, List.setIfInBounds_toArray, List.set_cons_zero, List.set_cons_succ, List.getElem_toArray, List.getElem_cons_succ, List.getElem_cons_zero])
        refine wpAnyH_ready (rs := [1, 8]) (by kernel_rfl) (by simp) ?_
        refine AllReadyH.cons (o := _) rfl (fun K hK => ?_) ?_
        · go_simp
          refine hK.out _ _ HS7.out (fun hHeld => ?_)
          clear hK K
          (try simp only [Act.put, List.setIfInBounds_toArray, List.set_cons_zero, List.set_cons_succ, List.getElem_toArray, List.getElem_cons_succ, List.getElem_cons_zero])
          refine wpAnyH_ready (rs := [8]) (by kernel_rfl) (by simp) ?_
          refine AllReadyH.cons (o := _) rfl (fun K hK => ?_) AllReadyH.nil
          go_simp; have HRN := Lib.hid (HR.out.alloc (.cells #[.int .i64 a0, .int .i64 a1, .int .u64 a2, .string a3, .slice aq an ac] 34)); have HSN := Lib.hid (HSS.out _ HRN.out.src HRN.out.bel); have HPH : Hid (DB (W2.alloc (.cells #[.int .i64 a0, .int .i64 a1, .int .u64 a2, .string a3, .slice aq an ac] 34)) W2.heap.size a0 a1 a2 a3 (.slice aq an ac)) := heap_alloc_new W2 _; have hb5 : w.heap.size + 3 ≤ (W2.alloc (.cells #[.int .i64 a0, .int .i64 a1, .int .u64 a2, .string a3, .slice aq an ac] 34)).heap.size := (by have := (Array.getElem?_eq_some_iff.1 HRN.out.box).1; omega)
          refine hK.out _ _ HSN.out (fun hHeld => ?_)
          clear hK K
          (try simp only [Act.put, List.setIfInBounds_toArray, List.set_cons_zero, List.set_cons_succ, List.getElem_toArray, List.getElem_cons_succ, List.getElem_cons_zero])
          refine wpAnyH_ready (rs := [9]) (by kernel_rfl) (by simp) ?_
          refine AllReadyH.cons (o := _) rfl (fun K hK => ?_) AllReadyH.nil
          (refine step_append_lies _ (by rfl) _ _ _ (by rfl) (w.heap.size + 3) 34 i0 dzero 5 64 Tryz.underlying32 hi hz0 hz1 hz2 rfl (by decide) (.slice q5 ts.length cap5) ts.length xs (by rfl) HRN.out.own ⟨W2.heap.size, 0, none⟩ 1 1 [.int .i64 a0, .int .i64 a1, .int .u64 a2, .string a3, .slice aq an ac] (by rfl) rfl (dv_news HPH.out) (by intro u hu; simp at hu; rcases hu with rfl | rfl | rfl | rfl | rfl <;> rfl) (by decide) (by unfold maxLen; omega) (by omega) hb5 (W2.heap.size + 1) (by simp) ?_); intro g2 cap2 w1 hown' hgrow hat hlt2; have HG := Lib.hid (HRN.out.grown hown' rfl hgrow (by rw [World.size_alloc]; exact hat)); have HSG := Lib.hid (HSS.out _ HG.out.1.2 HG.out.2.2); obtain ⟨-, -, -, -, x4, x5⟩ := HG.out.1.1.cells; have x6 := HG.out.1.1.free 4
          refine hK.out _ _ HSG.out (fun hHeld => ?_)
          clear hK K
          (try simp only [Act.put, List.setIfInBounds_toArray, List.set_cons_zero, List.set_cons_succ, List.getElem_toArray, List.getElem_cons_succ, List.getElem_cons_zero])
          refine wpAnyH_take (i := 10) (oi := _) (v := ?_) rfl (by kernel_rfl) (by kernel_rfl) (by kernel_rfl) (fun _ _ _ h => h) (Or.inl ⟨by rfl, ?_⟩) (by assumption) ?_
          rotate_left
          focus (intro w' hSw; (try dsimp only at hSw); go_simp; try with_reducible rfl)
          (try simp only [Act.put, List.setIfInBounds_toArray, List.set_cons_zero, List.set_cons_succ, List.getElem_toArray, List.getElem_cons_succ, List.getElem_cons_zero])
          refine wpAnyH_ready (rs := [11]) (by kernel_rfl) (by simp) ?_
          refine AllReadyH.cons (o := _) rfl (fun K hK => ?_) AllReadyH.nil
          go_simp; have HSF := Lib.hid (HSS.out _ HG.out.2.1.src HG.out.2.1.bel)
          refine hK.out _ _ HSF.out (fun hHeld => ?_)
          clear hK K
          (try simp only [Act.put, List.setIfInBounds_toArray, List.set_cons_zero, List.set_cons_succ, List.getElem_toArray, List.getElem_cons_succ, List.getElem_cons_zero])
          refine wpAnyH_done (by kernel_rfl) ?_ _
          go_simp
          go_wp2_with fail
          go_roundw
          case rel => exact ⟨j + 1, _, _, _, by go_num, by omega, (by rw [HTK.out]; exact HG.out.2.1)⟩
          case measure => simp [intOf]; omega
        refine AllReadyH.cons (o := _) rfl (fun K hK => ?_) AllReadyH.nil
        go_simp; have HRN := Lib.hid (HR.out.alloc (.cells #[.int .i64 a0, .int .i64 a1, .int .u64 a2, .string a3, .slice aq an ac] 34)); have HSN := Lib.hid (HSS.out _ HRN.out.src HRN.out.bel); have HPH : Hid (DB (W2.alloc (.cells #[.int .i64 a0, .int .i64 a1, .int .u64 a2, .string a3, .slice aq an ac] 34)) W2.heap.size a0 a1 a2 a3 (.slice aq an ac)) := heap_alloc_new W2 _; have hb5 : w.heap.size + 3 ≤ (W2.alloc (.cells #[.int .i64 a0, .int .i64 a1, .int .u64 a2, .string a3, .slice aq an ac] 34)).heap.size := (by have := (Array.getElem?_eq_some_iff.1 HRN.out.box).1; omega)
        refine hK.out _ _ HSN.out (fun hHeld => ?_)
        clear hK K
        (try simp only [Act.put, List.setIfInBounds_toArray, List.set_cons_zero, List.set_cons_succ, List.getElem_toArray, List.getElem_cons_succ, List.getElem_cons_zero])
        refine wpAnyH_ready (rs := [1]) (by kernel_rfl) (by simp) ?_
        refine AllReadyH.cons (o := _) rfl (fun K hK => ?_) AllReadyH.nil
        go_simp
        refine hK.out _ _ HSN.out (fun hHeld => ?_)
        clear hK K
        (try simp only [Act.put, List.setIfInBounds_toArray, List.set_cons_zero, List.set_cons_succ, List.getElem_toArray, List.getElem_cons_succ, List.getElem_cons_zero])
        refine wpAnyH_ready (rs := [9]) (by kernel_rfl) (by simp) ?_
        refine AllReadyH.cons (o := _) rfl (fun K hK => ?_) AllReadyH.nil
        (refine step_append_lies _ (by rfl) _ _ _ (by rfl) (w.heap.size + 3) 34 i0 dzero 5 64 Tryz.underlying32 hi hz0 hz1 hz2 rfl (by decide) (.slice q5 ts.length cap5) ts.length xs (by rfl) HRN.out.own ⟨W2.heap.size, 0, none⟩ 1 1 [.int .i64 a0, .int .i64 a1, .int .u64 a2, .string a3, .slice aq an ac] (by rfl) rfl (dv_news HPH.out) (by intro u hu; simp at hu; rcases hu with rfl | rfl | rfl | rfl | rfl <;> rfl) (by decide) (by unfold maxLen; omega) (by omega) hb5 (W2.heap.size + 1) (by simp) ?_); intro g2 cap2 w1 hown' hgrow hat hlt2; have HG := Lib.hid (HRN.out.grown hown' rfl hgrow (by rw [World.size_alloc]; exact hat)); have HSG := Lib.hid (HSS.out _ HG.out.1.2 HG.out.2.2); obtain ⟨-, -, -, -, x4, x5⟩ := HG.out.1.1.cells; have x6 := HG.out.1.1.free 4
        refine hK.out _ _ HSG.out (fun hHeld => ?_)
        clear hK K
        (try simp only [Act.put, List.setIfInBounds_toArray, List.set_cons_zero, List.set_cons_succ, List.getElem_toArray, List.getElem_cons_succ, List.getElem_cons_zero])
        refine wpAnyH_take (i := 10) (oi := _) (v := ?_) rfl (by kernel_rfl) (by kernel_rfl) (by kernel_rfl) (fun _ _ _ h => h) (Or.inl ⟨by rfl, ?_⟩) (by assumption) ?_
        rotate_left
        focus (intro w' hSw; (try dsimp only at hSw); go_simp; try with_reducible rfl)
        (try simp only [Act.put, List.setIfInBounds_toArray, List.set_cons_zero, List.set_cons_succ, List.getElem_toArray, List.getElem_cons_succ, List.getElem_cons_zero])
        refine wpAnyH_ready (rs := [11]) (by kernel_rfl) (by simp) ?_
        refine AllReadyH.cons (o := _) rfl (fun K hK => ?_) AllReadyH.nil
        go_simp; have HSF := Lib.hid (HSS.out _ HG.out.2.1.src HG.out.2.1.bel)
        refine hK.out _ _ HSF.out (fun hHeld => ?_)
        clear hK K
        (try simp only [Act.put, List.setIfInBounds_toArray, List.set_cons_zero, List.set_cons_succ, List.getElem_toArray, List.getElem_cons_succ, List.getElem_cons_zero])
        refine wpAnyH_done (by kernel_rfl) ?_ _
        go_simp
        go_wp2_with fail
        go_roundw
        case rel => exact ⟨j + 1, _, _, _, by go_num, by omega, (by rw [HTK.out]; exact HG.out.2.1)⟩
        case measure => simp [intOf]; omega
      · obtain rfl : j = l.length := by omega
        have hnI : ¬ (l.length : Int) < (l.length : Int) := by omega
        obtain ⟨d0, d1, d2, d3, d4, dl⟩ := HR0.out.box.cells
        obtain ⟨e0, e1, e2, e3, e4, el⟩ := HR0.out.res.cells
        have r0 := HR0.out.res.free 0
        have r1 := HR0.out.res.free 1
        have r2 := HR0.out.res.free 2
        have r3 := HR0.out.res.free 3
        have r4 := HR0.out.res.free 4
        go_wp2_with fail
        refine wp_post (fun W => DB W (w.heap.size + 1) kd di db ds (.slice q5 n5 cap5) ∧ wr.grownBy W (some (w.heap.size + 1))) ⟨DB.set5 HR0.out.res kd di db ds (.slice q5 n5 cap5), grown_set5⟩ (fun W hW => ?_)
        refine bodyPost_ret (res_copy hW.1 rfl _ rfl) rfl ?_
        rw [← HPP.out]
        have hrow := HR0.out.row
        rw [List.take_length] at hrow
        have hrow2 := hrow.kept hW.2 (by omega)
        refine ⟨kd, di, db, ds, q5, n5, cap5, rfl, HR0.out.bel.grown hW.2 HR0.out.bel.size (fun k hk => by injection hk with hk; omega), ?_⟩
        exact (hrow2.in_ (lo := w.heap.size) (by omega) I1.out I2.out I3.out).kept fun b hb _ => ⟨rfl, hb⟩
end
section
open Go Go.RowKit
attribute [local go_sem ↓] Go.wp_at_zero Go.wp_at_succ

theorem set13m {W : World} {b : Nat} {t : TypeId} {o0 o1 o2 o3 o4 o5 o6 o7 o8 o9 o10 o11 o12 : Value} (h : W.heap[b]? = some (.cells #[o0, o1, o2, o3, o4, o5, o6, o7, o8, o9, o10, o11, o12] t (0, 0))) (c0 c1 c2 c3 c4 c5 c6 c7 c8 c9 c10 c11 c12 : Value) :
    (((((((((((((W.setCell ⟨b, 0, none⟩ (c0)).setCell ⟨b, 1, none⟩ (c1)).setCell ⟨b, 2, none⟩ (c2)).setCell ⟨b, 3, none⟩ (c3)).setCell ⟨b, 4, none⟩ (c4)).setCell ⟨b, 5, none⟩ (c5)).setCell ⟨b, 6, none⟩ (c6)).setCell ⟨b, 7, none⟩ (c7)).setCell ⟨b, 8, none⟩ (c8)).setCell ⟨b, 9, none⟩ (c9)).setCell ⟨b, 10, none⟩ (c10)).setCell ⟨b, 11, none⟩ (c11)).setCell ⟨b, 12, none⟩ (c12)).heap[b]? = some (.cells #[c0, c1, c2, c3, c4, c5, c6, c7, c8, c9, c10, c11, c12] t (0, 0)) ∧ W.grownBy (((((((((((((W.setCell ⟨b, 0, none⟩ (c0)).setCell ⟨b, 1, none⟩ (c1)).setCell ⟨b, 2, none⟩ (c2)).setCell ⟨b, 3, none⟩ (c3)).setCell ⟨b, 4, none⟩ (c4)).setCell ⟨b, 5, none⟩ (c5)).setCell ⟨b, 6, none⟩ (c6)).setCell ⟨b, 7, none⟩ (c7)).setCell ⟨b, 8, none⟩ (c8)).setCell ⟨b, 9, none⟩ (c9)).setCell ⟨b, 10, none⟩ (c10)).setCell ⟨b, 11, none⟩ (c11)).setCell ⟨b, 12, none⟩ (c12)) (some b) := by
  have g := grownBy_refl W (some b)
  have h0 : (W.setCell ⟨b, 0, none⟩ c0).heap[b]? = some (.cells #[c0, o1, o2, o3, o4, o5, o6, o7, o8, o9, o10, o11, o12] t (0, 0)) := heap_setCell_same W b 0 _ _ _ h
  have g0 := grown_set g 0 c0
  generalize W.setCell ⟨b, 0, none⟩ c0 = W0 at h0 g0 ⊢
  have h1 : (W0.setCell ⟨b, 1, none⟩ c1).heap[b]? = some (.cells #[c0, c1, o2, o3, o4, o5, o6, o7, o8, o9, o10, o11, o12] t (0, 0)) := heap_setCell_same W0 b 1 _ _ _ h0
  have g1 := grown_set g0 1 c1
  generalize W0.setCell ⟨b, 1, none⟩ c1 = W1 at h1 g1 ⊢
  have h2 : (W1.setCell ⟨b, 2, none⟩ c2).heap[b]? = some (.cells #[c0, c1, c2, o3, o4, o5, o6, o7, o8, o9, o10, o11, o12] t (0, 0)) := heap_setCell_same W1 b 2 _ _ _ h1
  have g2 := grown_set g1 2 c2
  generalize W1.setCell ⟨b, 2, none⟩ c2 = W2 at h2 g2 ⊢
  have h3 : (W2.setCell ⟨b, 3, none⟩ c3).heap[b]? = some (.cells #[c0, c1, c2, c3, o4, o5, o6, o7, o8, o9, o10, o11, o12] t (0, 0)) := heap_setCell_same W2 b 3 _ _ _ h2
  have g3 := grown_set g2 3 c3
  generalize W2.setCell ⟨b, 3, none⟩ c3 = W3 at h3 g3 ⊢
  have h4 : (W3.setCell ⟨b, 4, none⟩ c4).heap[b]? = some (.cells #[c0, c1, c2, c3, c4, o5, o6, o7, o8, o9, o10, o11, o12] t (0, 0)) := heap_setCell_same W3 b 4 _ _ _ h3
  have g4 := grown_set g3 4 c4
  generalize W3.setCell ⟨b, 4, none⟩ c4 = W4 at h4 g4 ⊢
  have h5 : (W4.setCell ⟨b, 5, none⟩ c5).heap[b]? = some (.cells #[c0, c1, c2, c3, c4, c5, o6, o7, o8, o9, o10, o11, o12] t (0, 0)) := heap_setCell_same W4 b 5 _ _ _ h4
  have g5 := grown_set g4 5 c5
  generalize W4.setCell ⟨b, 5, none⟩ c5 = W5 at h5 g5 ⊢
  have h6 : (W5.setCell ⟨b, 6, none⟩ c6).heap[b]? = some (.cells #[c0, c1, c2, c3, c4, c5, c6, o7, o8, o9, o10, o11, o12] t (0, 0)) := heap_setCell_same W5 b 6 _ _ _ h5
  have g6 := grown_set g5 6 c6
  generalize W5.setCell ⟨b, 6, none⟩ c6 = W6 at h6 g6 ⊢
  have h7 : (W6.setCell ⟨b, 7, none⟩ c7).heap[b]? = some (.cells #[c0, c1, c2, c3, c4, c5, c6, c7, o8, o9, o10, o11, o12] t (0, 0)) := heap_setCell_same W6 b 7 _ _ _ h6
  have g7 := grown_set g6 7 c7
  generalize W6.setCell ⟨b, 7, none⟩ c7 = W7 at h7 g7 ⊢
  have h8 : (W7.setCell ⟨b, 8, none⟩ c8).heap[b]? = some (.cells #[c0, c1, c2, c3, c4, c5, c6, c7, c8, o9, o10, o11, o12] t (0, 0)) := heap_setCell_same W7 b 8 _ _ _ h7
  have g8 := grown_set g7 8 c8
  generalize W7.setCell ⟨b, 8, none⟩ c8 = W8 at h8 g8 ⊢
  have h9 : (W8.setCell ⟨b, 9, none⟩ c9).heap[b]? = some (.cells #[c0, c1, c2, c3, c4, c5, c6, c7, c8, c9, o10, o11, o12] t (0, 0)) := heap_setCell_same W8 b 9 _ _ _ h8
  have g9 := grown_set g8 9 c9
  generalize W8.setCell ⟨b, 9, none⟩ c9 = W9 at h9 g9 ⊢
  have h10 : (W9.setCell ⟨b, 10, none⟩ c10).heap[b]? = some (.cells #[c0, c1, c2, c3, c4, c5, c6, c7, c8, c9, c10, o11, o12] t (0, 0)) := heap_setCell_same W9 b 10 _ _ _ h9
  have g10 := grown_set g9 10 c10
  generalize W9.setCell ⟨b, 10, none⟩ c10 = W10 at h10 g10 ⊢
  have h11 : (W10.setCell ⟨b, 11, none⟩ c11).heap[b]? = some (.cells #[c0, c1, c2, c3, c4, c5, c6, c7, c8, c9, c10, c11, o12] t (0, 0)) := heap_setCell_same W10 b 11 _ _ _ h10
  have g11 := grown_set g10 11 c11
  generalize W10.setCell ⟨b, 11, none⟩ c11 = W11 at h11 g11 ⊢
  have h12 : (W11.setCell ⟨b, 12, none⟩ c12).heap[b]? = some (.cells #[c0, c1, c2, c3, c4, c5, c6, c7, c8, c9, c10, c11, c12] t (0, 0)) := heap_setCell_same W11 b 12 _ _ _ h11
  have g12 := grown_set g11 12 c12
  exact ⟨h12, g12⟩
def CopyPost (w : World) (m : Mg) (e : Ending) (w' : World) : Prop := ∃ (aq : Option Addr) (an ac : Nat), e = .returned (.agg #[.int .i64 m.id, .string m.tp, .int .i64 m.kd, .int .i64 m.di, .int .u64 m.db, .string m.ds, .slice aq an ac, .int .i64 m.at_, .int .i64 m.un, .string m.rp, .int .i64 m.co, .int .i64 m.pr, .int .i64 m.ho]) ∧ Below w.heap.size w w' ∧ DvIn (Fresh w w') w' m.f [.int .i64 m.kd, .int .i64 m.di, .int .u64 m.db, .string m.ds, .slice aq an ac] m.t
theorem res_copym {W : World} {B : Nat} {cs : Array Value} (h : W.heap[B]? = some (.cells cs 36 (0, 0))) (hs : cs.size = 13) (tmps : Array Value) (h4 : tmps.getD 2 undef = .pointer (some ⟨B, 0, none⟩)) :
    (results Tryz.f50 tmps).run Tryz.prog W = .ok (.agg cs) W := by
  have h4' : tmps[2]?.getD undef = .pointer (some ⟨B, 0, none⟩) := by simpa using h4
  have hl := run_loadVar_row (P := Tryz.prog) W B 36 36 cs (0, 0) _ h Tryz.underlying36 rfl (by rw [hs]; kernel_rfl)
  simp [results, Tryz.results50, h4', asAddr, hl]
set_option maxRecDepth 100000 in
set_option maxHeartbeats 8000000 in
theorem copyMsg_any (w : World) (m : Mg) (hd : DvIs w m.f m.body m.t) (hsm : DvSm m.f m.t) :
    Calls Tryz.prog 50 #[.agg #[.int .i64 m.id, .string m.tp, .int .i64 m.kd, .int .i64 m.di, .int .u64 m.db, .string m.ds, .slice m.q m.n m.c, .int .i64 m.at_, .int .i64 m.un, .string m.rp, .int .i64 m.co, .int .i64 m.pr, .int .i64 m.ho]] w (CopyPost w m) := by
  obtain ⟨PP, hPP⟩ : ∃ PP : Ending → World → Prop, CopyPost w m = PP := ⟨_, rfl⟩
  rw [hPP]
  have HPP := Lib.hid hPP
  have HD := Lib.hid hd
  have CC : Hid (∀ W, Below w.heap.size w W → Calls Tryz.prog 84 #[.agg #[.int .i64 m.kd, .int .i64 m.di, .int .u64 m.db, .string m.ds, .slice m.q m.n m.c]] W (OwnPost W m.f m.t)) := fun W hW => refCopy_any m.f W m.kd m.di m.db m.ds m.q m.n m.c m.t (DvIs.below hW hd) hsm
  clear hPP hd hsm
  go_enter Tryz.func50, Tryz.ntmps50
  go_upto_region 1 with fail
  obtain ⟨b, hb⟩ : ∃ b, w.heap.size = b := ⟨_, rfl⟩
  rw [hb]
  refine wp_world (fun W => W.heap[b]? = some (.cells #[.int .i64 m.id, .string m.tp, .int .i64 m.kd, .int .i64 m.di, .int .u64 m.db, .string m.ds, .slice m.q m.n m.c, .int .i64 m.at_, .int .i64 m.un, .string m.rp, .int .i64 m.co, .int .i64 m.pr, .int .i64 m.ho] 36 (0, 0)) ∧ W.heap[(b + 1)]? = some (.cells #[.int .i64 0, .string ⟨#[]⟩, .int .i64 0, .int .i64 0, .int .u64 0, .string ⟨#[]⟩, .slice none 0 0, .int .i64 0, .int .i64 0, .string ⟨#[]⟩, .int .i64 0, .int .i64 0, .int .i64 0] 36 (0, 0)) ∧ Below w.heap.size w W) ⟨by rw [← hb]; exact (Below.heap_alloc _ _ _ (by simp)).trans (heap_alloc_new w _), by (have := heap_alloc_new (w.alloc (Obj.cells #[.int .i64 m.id, .string m.tp, .int .i64 m.kd, .int .i64 m.di, .int .u64 m.db, .string m.ds, .slice m.q m.n m.c, .int .i64 m.at_, .int .i64 m.un, .string m.rp, .int .i64 m.co, .int .i64 m.pr, .int .i64 m.ho] 36)) (Obj.cells #[.int .i64 0, .string ⟨#[]⟩, .int .i64 0, .int .i64 0, .int .u64 0, .string ⟨#[]⟩, .slice none 0 0, .int .i64 0, .int .i64 0, .string ⟨#[]⟩, .int .i64 0, .int .i64 0, .int .i64 0] 36); rw [World.size_alloc, hb] at this; exact this), ((Below.refl _ w).alloc (Nat.le_refl _) _).alloc (by simp) _⟩ (fun W0 hW0 => ?_)
  have HX := Lib.hid hW0.1
  have HZ := Lib.hid hW0.2.1
  have HB0 := Lib.hid hW0.2.2
  have HBB := Lib.hid hb
  have xl := (Array.getElem?_eq_some_iff.1 HX.out).1
  have x0 : W0.cell? ⟨b, 0, none⟩ = some (.int .i64 m.id) := by rw [cell_of_row _ _ _ _ _ _ HX.out]; rfl
  have x1 : W0.cell? ⟨b, 1, none⟩ = some (.string m.tp) := by rw [cell_of_row _ _ _ _ _ _ HX.out]; rfl
  have x2 : W0.cell? ⟨b, 2, none⟩ = some (.int .i64 m.kd) := by rw [cell_of_row _ _ _ _ _ _ HX.out]; rfl
  have x3 : W0.cell? ⟨b, 3, none⟩ = some (.int .i64 m.di) := by rw [cell_of_row _ _ _ _ _ _ HX.out]; rfl
  have x4 : W0.cell? ⟨b, 4, none⟩ = some (.int .u64 m.db) := by rw [cell_of_row _ _ _ _ _ _ HX.out]; rfl
  have x5 : W0.cell? ⟨b, 5, none⟩ = some (.string m.ds) := by rw [cell_of_row _ _ _ _ _ _ HX.out]; rfl
  have x6 : W0.cell? ⟨b, 6, none⟩ = some (.slice m.q m.n m.c) := by rw [cell_of_row _ _ _ _ _ _ HX.out]; rfl
  have x7 : W0.cell? ⟨b, 7, none⟩ = some (.int .i64 m.at_) := by rw [cell_of_row _ _ _ _ _ _ HX.out]; rfl
  have x8 : W0.cell? ⟨b, 8, none⟩ = some (.int .i64 m.un) := by rw [cell_of_row _ _ _ _ _ _ HX.out]; rfl
  have x9 : W0.cell? ⟨b, 9, none⟩ = some (.string m.rp) := by rw [cell_of_row _ _ _ _ _ _ HX.out]; rfl
  have x10 : W0.cell? ⟨b, 10, none⟩ = some (.int .i64 m.co) := by rw [cell_of_row _ _ _ _ _ _ HX.out]; rfl
  have x11 : W0.cell? ⟨b, 11, none⟩ = some (.int .i64 m.pr) := by rw [cell_of_row _ _ _ _ _ _ HX.out]; rfl
  have x12 : W0.cell? ⟨b, 12, none⟩ = some (.int .i64 m.ho) := by rw [cell_of_row _ _ _ _ _ _ HX.out]; rfl
  clear hW0 hb
  go_wp2_with fail
  refine (CC.out _ HB0.out).mono ?_
  rintro e w3 ⟨a0, a1, a2, a3, aq, an, ac, rfl, hb3, hd3⟩
  obtain ⟨ps0, ht1⟩ := DvIs.mk HD.out
  obtain ⟨ps', ht2⟩ := DvIs.mk hd3.is
  rw [ht1] at ht2
  injection ht2 with t0 t1 t2 t3 t4
  subst t0; subst t1; subst t2; subst t3
  have hbox3 : w3.heap[b]? = some (.cells #[.int .i64 m.id, .string m.tp, .int .i64 m.kd, .int .i64 m.di, .int .u64 m.db, .string m.ds, .slice m.q m.n m.c, .int .i64 m.at_, .int .i64 m.un, .string m.rp, .int .i64 m.co, .int .i64 m.pr, .int .i64 m.ho] 36 (0, 0)) := (hb3.block b xl).trans HX.out
  have hz3 : w3.heap[(b + 1)]? = some (.cells #[.int .i64 0, .string ⟨#[]⟩, .int .i64 0, .int .i64 0, .int .u64 0, .string ⟨#[]⟩, .slice none 0 0, .int .i64 0, .int .i64 0, .string ⟨#[]⟩, .int .i64 0, .int .i64 0, .int .i64 0] 36 (0, 0)) := (hb3.block _ (Array.getElem?_eq_some_iff.1 HZ.out).1).trans HZ.out
  clear xl x0 x1 x2 x3 x4 x5 x6 x7 x8 x9 x10 x11 x12
  have yl := (Array.getElem?_eq_some_iff.1 hbox3).1
  have y0 : w3.cell? ⟨b, 0, none⟩ = some (.int .i64 m.id) := by rw [cell_of_row _ _ _ _ _ _ hbox3]; rfl
  have y1 : w3.cell? ⟨b, 1, none⟩ = some (.string m.tp) := by rw [cell_of_row _ _ _ _ _ _ hbox3]; rfl
  have y2 : w3.cell? ⟨b, 2, none⟩ = some (.int .i64 m.kd) := by rw [cell_of_row _ _ _ _ _ _ hbox3]; rfl
  have y3 : w3.cell? ⟨b, 3, none⟩ = some (.int .i64 m.di) := by rw [cell_of_row _ _ _ _ _ _ hbox3]; rfl
  have y4 : w3.cell? ⟨b, 4, none⟩ = some (.int .u64 m.db) := by rw [cell_of_row _ _ _ _ _ _ hbox3]; rfl
  have y5 : w3.cell? ⟨b, 5, none⟩ = some (.string m.ds) := by rw [cell_of_row _ _ _ _ _ _ hbox3]; rfl
  have y6 : w3.cell? ⟨b, 6, none⟩ = some (.slice m.q m.n m.c) := by rw [cell_of_row _ _ _ _ _ _ hbox3]; rfl
  have y7 : w3.cell? ⟨b, 7, none⟩ = some (.int .i64 m.at_) := by rw [cell_of_row _ _ _ _ _ _ hbox3]; rfl
  have y8 : w3.cell? ⟨b, 8, none⟩ = some (.int .i64 m.un) := by rw [cell_of_row _ _ _ _ _ _ hbox3]; rfl
  have y9 : w3.cell? ⟨b, 9, none⟩ = some (.string m.rp) := by rw [cell_of_row _ _ _ _ _ _ hbox3]; rfl
  have y10 : w3.cell? ⟨b, 10, none⟩ = some (.int .i64 m.co) := by rw [cell_of_row _ _ _ _ _ _ hbox3]; rfl
  have y11 : w3.cell? ⟨b, 11, none⟩ = some (.int .i64 m.pr) := by rw [cell_of_row _ _ _ _ _ _ hbox3]; rfl
  have y12 : w3.cell? ⟨b, 12, none⟩ = some (.int .i64 m.ho) := by rw [cell_of_row _ _ _ _ _ _ hbox3]; rfl
  have v2 := frozen_of_row w3 b 2 _ _ hbox3
  have v3 := frozen_of_row w3 b 3 _ _ hbox3
  have v4 := frozen_of_row w3 b 4 _ _ hbox3
  have v5 := frozen_of_row w3 b 5 _ _ hbox3
  have v6 := frozen_of_row w3 b 6 _ _ hbox3
  have HBX3 := Lib.hid hbox3
  have HZ3 := Lib.hid hz3
  have HB3 := Lib.hid hb3
  have HD3 := Lib.hid hd3
  have HW0 : Hid (b < W0.heap.size) := (Array.getElem?_eq_some_iff.1 HX.out).1
  have HW1 : Hid (b + 1 < W0.heap.size) := (Array.getElem?_eq_some_iff.1 HZ.out).1
  clear hb3 hd3 hbox3 hz3
  go_upto_region 2 with fail
  refine wp_world (fun W => W.heap[b]? = some (.cells #[.int .i64 m.id, .string m.tp, .int .i64 m.kd, .int .i64 m.di, .int .u64 m.db, .string m.ds, .slice aq an ac, .int .i64 m.at_, .int .i64 m.un, .string m.rp, .int .i64 m.co, .int .i64 m.pr, .int .i64 m.ho] 36 (0, 0)) ∧ W.heap[(b + 1)]? = some (.cells #[.int .i64 0, .string ⟨#[]⟩, .int .i64 0, .int .i64 0, .int .u64 0, .string ⟨#[]⟩, .slice none 0 0, .int .i64 0, .int .i64 0, .string ⟨#[]⟩, .int .i64 0, .int .i64 0, .int .i64 0] 36 (0, 0)) ∧ w3.grownBy W (some b)) ⟨heap_setCell_same _ b 6 _ _ _ (heap_setCell_same _ b 5 _ _ _ (heap_setCell_same _ b 4 _ _ _ (heap_setCell_same _ b 3 _ _ _ (heap_setCell_same w3 b 2 _ _ _ HBX3.out)))), ((grown_set (grown_set (grown_set (grown_set (grown_set (grownBy_refl w3 (some b)) _ _) _ _) _ _) _ _) _ _).block (b + 1) (Array.getElem?_eq_some_iff.1 HZ3.out).1 (by simp)).trans HZ3.out, grown_set (grown_set (grown_set (grown_set (grown_set (grownBy_refl w3 _) _ _) _ _) _ _) _ _) _ _⟩ (fun W4 hW4 => ?_)
  have HG4 := Lib.hid hW4.2.2
  have hbox4 := hW4.1
  have hz4 := hW4.2.1
  have x0 : W4.cell? ⟨b, 0, none⟩ = some (.int .i64 m.id) := by rw [cell_of_row _ _ _ _ _ _ hbox4]; rfl
  have x1 : W4.cell? ⟨b, 1, none⟩ = some (.string m.tp) := by rw [cell_of_row _ _ _ _ _ _ hbox4]; rfl
  have x2 : W4.cell? ⟨b, 2, none⟩ = some (.int .i64 m.kd) := by rw [cell_of_row _ _ _ _ _ _ hbox4]; rfl
  have x3 : W4.cell? ⟨b, 3, none⟩ = some (.int .i64 m.di) := by rw [cell_of_row _ _ _ _ _ _ hbox4]; rfl
  have x4 : W4.cell? ⟨b, 4, none⟩ = some (.int .u64 m.db) := by rw [cell_of_row _ _ _ _ _ _ hbox4]; rfl
  have x5 : W4.cell? ⟨b, 5, none⟩ = some (.string m.ds) := by rw [cell_of_row _ _ _ _ _ _ hbox4]; rfl
  have x6 : W4.cell? ⟨b, 6, none⟩ = some (.slice aq an ac) := by rw [cell_of_row _ _ _ _ _ _ hbox4]; rfl
  have x7 : W4.cell? ⟨b, 7, none⟩ = some (.int .i64 m.at_) := by rw [cell_of_row _ _ _ _ _ _ hbox4]; rfl
  have x8 : W4.cell? ⟨b, 8, none⟩ = some (.int .i64 m.un) := by rw [cell_of_row _ _ _ _ _ _ hbox4]; rfl
  have x9 : W4.cell? ⟨b, 9, none⟩ = some (.string m.rp) := by rw [cell_of_row _ _ _ _ _ _ hbox4]; rfl
  have x10 : W4.cell? ⟨b, 10, none⟩ = some (.int .i64 m.co) := by rw [cell_of_row _ _ _ _ _ _ hbox4]; rfl
  have x11 : W4.cell? ⟨b, 11, none⟩ = some (.int .i64 m.pr) := by rw [cell_of_row _ _ _ _ _ _ hbox4]; rfl
  have x12 : W4.cell? ⟨b, 12, none⟩ = some (.int .i64 m.ho) := by rw [cell_of_row _ _ _ _ _ _ hbox4]; rfl
  have z0 : W4.cell? ⟨(b + 1), 0, none⟩ = some (.int .i64 0) := by rw [cell_of_row _ _ _ _ _ _ hz4]; rfl
  have z1 : W4.cell? ⟨(b + 1), 1, none⟩ = some (.string ⟨#[]⟩) := by rw [cell_of_row _ _ _ _ _ _ hz4]; rfl
  have z2 : W4.cell? ⟨(b + 1), 2, none⟩ = some (.int .i64 0) := by rw [cell_of_row _ _ _ _ _ _ hz4]; rfl
  have z3 : W4.cell? ⟨(b + 1), 3, none⟩ = some (.int .i64 0) := by rw [cell_of_row _ _ _ _ _ _ hz4]; rfl
  have z4 : W4.cell? ⟨(b + 1), 4, none⟩ = some (.int .u64 0) := by rw [cell_of_row _ _ _ _ _ _ hz4]; rfl
  have z5 : W4.cell? ⟨(b + 1), 5, none⟩ = some (.string ⟨#[]⟩) := by rw [cell_of_row _ _ _ _ _ _ hz4]; rfl
  have z6 : W4.cell? ⟨(b + 1), 6, none⟩ = some (.slice none 0 0) := by rw [cell_of_row _ _ _ _ _ _ hz4]; rfl
  have z7 : W4.cell? ⟨(b + 1), 7, none⟩ = some (.int .i64 0) := by rw [cell_of_row _ _ _ _ _ _ hz4]; rfl
  have z8 : W4.cell? ⟨(b + 1), 8, none⟩ = some (.int .i64 0) := by rw [cell_of_row _ _ _ _ _ _ hz4]; rfl
  have z9 : W4.cell? ⟨(b + 1), 9, none⟩ = some (.string ⟨#[]⟩) := by rw [cell_of_row _ _ _ _ _ _ hz4]; rfl
  have z10 : W4.cell? ⟨(b + 1), 10, none⟩ = some (.int .i64 0) := by rw [cell_of_row _ _ _ _ _ _ hz4]; rfl
  have z11 : W4.cell? ⟨(b + 1), 11, none⟩ = some (.int .i64 0) := by rw [cell_of_row _ _ _ _ _ _ hz4]; rfl
  have z12 : W4.cell? ⟨(b + 1), 12, none⟩ = some (.int .i64 0) := by rw [cell_of_row _ _ _ _ _ _ hz4]; rfl
  have xl := (Array.getElem?_eq_some_iff.1 hbox4).1
  have zl := (Array.getElem?_eq_some_iff.1 hz4).1
  have u0 := frozen_of_row W4 (b + 1) 0 _ _ hz4
  have u1 := frozen_of_row W4 (b + 1) 1 _ _ hz4
  have u2 := frozen_of_row W4 (b + 1) 2 _ _ hz4
  have u3 := frozen_of_row W4 (b + 1) 3 _ _ hz4
  have u4 := frozen_of_row W4 (b + 1) 4 _ _ hz4
  have u5 := frozen_of_row W4 (b + 1) 5 _ _ hz4
  have u6 := frozen_of_row W4 (b + 1) 6 _ _ hz4
  have u7 := frozen_of_row W4 (b + 1) 7 _ _ hz4
  have u8 := frozen_of_row W4 (b + 1) 8 _ _ hz4
  have u9 := frozen_of_row W4 (b + 1) 9 _ _ hz4
  have u10 := frozen_of_row W4 (b + 1) 10 _ _ hz4
  have u11 := frozen_of_row W4 (b + 1) 11 _ _ hz4
  have u12 := frozen_of_row W4 (b + 1) 12 _ _ hz4
  have HZ4 := Lib.hid hz4
  clear y0 y1 y2 y3 y4 y5 y6 y7 y8 y9 y10 y11 y12 v2 v3 v4 v5 v6 yl hW4 hbox4 hz4
  go_wp2_with fail
  refine wp_post (fun W => W.heap[(b + 1)]? = some (.cells #[.int .i64 m.id, .string m.tp, .int .i64 m.kd, .int .i64 m.di, .int .u64 m.db, .string m.ds, .slice aq an ac, .int .i64 m.at_, .int .i64 m.un, .string m.rp, .int .i64 m.co, .int .i64 m.pr, .int .i64 m.ho] 36 (0, 0)) ∧ W4.grownBy W (some (b + 1))) (set13m HZ4.out _ _ _ _ _ _ _ _ _ _ _ _ _) (fun W hW => ?_)
  refine bodyPost_ret (res_copym hW.1 rfl _ rfl) rfl ?_
  rw [← HPP.out]
  have hs3 := HB3.out.size
  have hs4 := HG4.out.size
  have h0 := HBB.out
  have hW0 := HW0.out
  have hW1 := HW1.out
  have hbel : Below w.heap.size w w3 := HB0.out.trans (HB3.out.mono HB0.out.size)
  have hbel4 := hbel.grown HG4.out hbel.size (fun k hk => by injection hk with hk; omega)
  have hbel5 := hbel4.grown hW.2 hbel4.size (fun k hk => by injection hk with hk; omega)
  refine ⟨aq, an, ac, rfl, hbel5, HD3.out.kept fun c hc hl => ⟨?_, ?_, ?_⟩⟩
  · have h1 : W0.heap.size ≤ c := hc.1
    exact (hW.2.block c (by omega) (fun e => by injection e with e; omega)).trans (HG4.out.block c hl (fun e => by injection e with e; omega))
  · have h1 : W0.heap.size ≤ c := hc.1
    have := HB0.out.size
    omega
  · have := hW.2.size
    omega
end
section
open Go Go.RowKit
attribute [local go_sem ↓] Go.wp_at_zero Go.wp_at_succ

/-- the row of messages turns -/
theorem RHub.msgs_to {w W' : World} {base rb : Nat} {vs vg vm vm' : Value} {l : Subs} {gs : List RG} {ms ms' : List Mg} {KB KB' : Nat → Prop} (h : RHub w base rb vs vg vm l gs ms KB) (hk : ∀ b, b < w.heap.size → b ≠ rb → W'.heap[b]? = w.heap[b]?)
    (hbox : W'.heap[rb]? = some (.cells #[vs, vg, vm'] 50 (0, 0))) (hrow : W'.ownsRow w.heap.size 36 13 vm' ms'.length (rowM ms')) (hbody : ∀ m ∈ ms', DvIn KB' W' m.f m.body m.t ∧ DvSm m.f m.t ∧ m.tp.size ≤ 1048576) (hKB : ∀ b, KB' b → (KB b ∨ w.heap.size ≤ b) ∧ b < W'.heap.size ∧ vm'.ownBlock ≠ some b) :
    RHub W' base rb vs vg vm' l gs ms' KB' := by
  obtain ⟨o1, o2, o3, o4⟩ := h.off_box
  have hsz := h.blt
  refine ⟨hbox, row_of_heap h.subs fun b hb => hk b (h.subs.lt b hb).2 (fun e => o1 (e ▸ hb)), row_of_heap h.grp fun b hb => hk b (h.grp.lt b hb).2 (fun e => o2 (e ▸ hb)), fun g hg => row_of_heap (h.mem g hg) fun b hb => hk b ((h.mem g hg).lt b hb).2 (fun e => o4 g hg (e ▸ hb)), h.dis, ownsRow_mono hrow (Nat.le_trans h.lo (Nat.le_of_lt hsz)), hbody, fun b hb => ?_, h.lo⟩
  obtain ⟨k1, k2, k3⟩ := hKB b hb
  have hlo := h.lo
  refine ⟨k1.elim (fun e => (h.kb b e).1) (fun e => by omega), k2, fun e => ?_⟩
  rcases e with rfl | e | e | e | ⟨g, hg, e⟩
  · rcases k1 with k1 | k1
    · exact (h.kb _ k1).2.2 (.inl rfl)
    · omega
  · rcases k1 with k1 | k1
    · exact (h.kb _ k1).2.2 (.inr (.inl e))
    · have := (h.subs.lt b e).2; omega
  · rcases k1 with k1 | k1
    · exact (h.kb _ k1).2.2 (.inr (.inr (.inl e)))
    · have := (h.grp.lt b e).2; omega
  · exact k3 e
  · rcases k1 with k1 | k1
    · exact (h.kb _ k1).2.2 (.inr (.inr (.inr (.inr ⟨g, hg, e⟩))))
    · have := ((h.mem g hg).lt b e).2; omega
theorem rowM_at : ∀ {ms : List Mg} {i : Nat} {m : Mg}, ms[i]? = some m → ∀ j u, m.cells[j]? = some u → (rowM ms)[i * 13 + j]? = some u
  | [], _, _, h, _, _, _ => by cases h
  | y :: ms, 0, m, h, j, u, hj => by
    injection h with h
    subst h
    have hl := (List.getElem?_eq_some_iff.1 hj).1
    unfold rowM
    rw [List.map_cons, List.flatten_cons, Nat.zero_mul, Nat.zero_add, List.getElem?_append_left hl]
    exact hj
  | y :: ms, i + 1, m, h, j, u, hj => by
    have ih := rowM_at (ms := ms) (i := i) h j u hj
    have hl : y.cells.length = 13 := rfl
    unfold rowM at ih ⊢
    rw [List.map_cons, List.flatten_cons, List.getElem?_append_right (by omega), hl, show (i + 1) * 13 + j - 13 = i * 13 + j by omega]
    exact ih
/-- a row of messages of the call's own, read -/
theorem MRow.at_ {W : World} {base n c : Nat} {q : Option Addr} {ms : List Mg} (h : MRow W base (.slice q n c) ms) {i : Nat} {m : Mg} (hm : ms[i]? = some m) : ∃ b, q = some ⟨b, 0, none⟩ ∧ b < W.heap.size ∧ W.cell? ⟨b, i * 13, none⟩ = some (.int .i64 m.id) ∧ W.cell? ⟨b, i * 13 + 1, none⟩ = some (.string m.tp) ∧ W.cell? ⟨b, i * 13 + 2, none⟩ = some (.int .i64 m.kd) ∧ W.cell? ⟨b, i * 13 + 3, none⟩ = some (.int .i64 m.di) ∧ W.cell? ⟨b, i * 13 + 4, none⟩ = some (.int .u64 m.db) ∧ W.cell? ⟨b, i * 13 + 5, none⟩ = some (.string m.ds) ∧ W.cell? ⟨b, i * 13 + 6, none⟩ = some (.slice m.q m.n m.c) ∧ W.cell? ⟨b, i * 13 + 7, none⟩ = some (.int .i64 m.at_) ∧ W.cell? ⟨b, i * 13 + 8, none⟩ = some (.int .i64 m.un) ∧ W.cell? ⟨b, i * 13 + 9, none⟩ = some (.string m.rp) ∧ W.cell? ⟨b, i * 13 + 10, none⟩ = some (.int .i64 m.co) ∧ W.cell? ⟨b, i * 13 + 11, none⟩ = some (.int .i64 m.pr) ∧ W.cell? ⟨b, i * 13 + 12, none⟩ = some (.int .i64 m.ho) := by
  have hil := (List.getElem?_eq_some_iff.1 hm).1
  have h' : W.ownsRow base 36 13 (.slice q n c) ms.length (rowM ms) := h
  rcases h'.2 with ⟨-, h2⟩ | ⟨b, cap, cur, h2, h3, h4⟩
  · omega
  · injection h2 with e1 e2 e3
    subst e1
    have hc := h'.cells (g := b) rfl
    have g : ∀ j u, m.cells[j]? = some u → W.cell? ⟨b, i * 13 + j, none⟩ = some u := fun j u hj => by
      have := hc _ _ (rowM_at hm j u hj)
      rw [flat_add, Nat.zero_add] at this
      exact this
    exact ⟨b, rfl, World.block_lt_of_cell? W _ (g 0 _ rfl), g 0 _ rfl, g 1 _ rfl, g 2 _ rfl, g 3 _ rfl, g 4 _ rfl, g 5 _ rfl, g 6 _ rfl, g 7 _ rfl, g 8 _ rfl, g 9 _ rfl, g 10 _ rfl, g 11 _ rfl, g 12 _ rfl⟩
/-- those of another topic -/
def restM (ms : List Mg) (s : ByteArray) : List Mg := ms.filter fun m => decide (m.tp.data.toList ≠ s.data.toList)
theorem restM_snoc {ms : List Mg} {i : Nat} {x : Mg} {s : ByteArray} (h : ms[i]? = some x) : restM (ms.take (i + 1)) s = restM (ms.take i) s ++ (if x.tp = s then [] else [x]) := by
  unfold restM
  rw [List.take_add_one, h, Option.toList_some, List.filter_append]
  congr 1
  by_cases e : x.tp = s
  · rw [if_pos e, List.filter_cons_of_neg (by rw [e]; simp), List.filter_nil]
  · rw [if_neg e, List.filter_cons_of_pos (by rw [decide_eq_true_iff]; exact fun e2 => e (ByteArray.ext (Array.ext' e2))), List.filter_nil]
theorem restM_len (ms : List Mg) (s : ByteArray) : (restM ms s).length ≤ ms.length := List.filter_sublist.length_le
theorem mem_restM {ms : List Mg} {s : ByteArray} {x : Mg} (h : x ∈ restM ms s) : x ∈ ms := (List.mem_filter.1 h).1
theorem tp_ne {a b : ByteArray} (h : a ≠ b) : (a.toList == b.toList) = false := by
  rw [beq_eq_false_iff_ne]
  intro e
  exact h (bytes_inj (by rw [← ByteArray.toList_eq, ← ByteArray.toList_eq, e]))
/-- the row of messages is another one -/
theorem keep_to {w0 w W1 : World} {P : Nat → Prop} {rb : Nat} {vs vg vm vx vm' : Value} {st : HSt} {gs : List RG} {ms ms' : List Mg} {KB KB' : Nat → Prop} {L' : List AM} (h : RHub w w0.heap.size rb vs vg vm st.1 gs ms KB) (hAG : gs.map RG.ag = st.2) (hOW : Owns w0 w P) (hPB : ∀ b, RF0 rb vs vg vm gs b ∨ KB b → P b) (h0 : w0.heap.size ≤ w.heap.size) (hf : Frame (fun b => b = rb) w W1)
    (hbox : W1.heap[rb]? = some (.cells #[vs, vg, vx] 50 (0, 0))) (hrow : W1.ownsRow w.heap.size 36 13 vm' ms'.length (rowM ms')) (hbody : ∀ m ∈ ms', DvIn KB' W1 m.f m.body m.t ∧ DvSm m.f m.t ∧ m.tp.size ≤ 1048576) (hKB : ∀ b, KB' b → (KB b ∨ w.heap.size ≤ b) ∧ b < W1.heap.size ∧ vm'.ownBlock ≠ some b) (hL : ms'.map Mg.am = L') :
    RefD w0 w P rb st L' (W1.setCell ⟨rb, 2, none⟩ vm') := by
  have hblt := h.blt
  have hoff : ∀ b, b ≠ rb → (W1.setCell ⟨rb, 2, none⟩ vm').heap[b]? = W1.heap[b]? := fun b hb => Below.heap_setCell _ _ _ _ (fun e => hb e)
  have hsz : (W1.setCell ⟨rb, 2, none⟩ vm').heap.size = W1.heap.size := by simp
  have hs := hf.size
  have hrb : ∀ b, KB' b → b ≠ rb := fun b hb e => by
    rcases (hKB b hb).1 with k | k
    · exact (h.kb b k).2.2 (.inl e)
    · omega
  refine refD_of hOW h0 hPB (h.msgs_to (fun b hb hne => (hoff b hne).trans (hf.block b hb hne)) (heap_setCell_same W1 rb 2 _ _ _ hbox) (row_of_heap hrow fun b hb => hoff b (fun e => by have := (hrow.lt b hb).1; omega)) (fun m hm => ⟨(hbody m hm).1.kept fun b hb _ => ⟨hoff b (hrb b hb), hb⟩, (hbody m hm).2⟩) (fun b hb => by rw [hsz]; exact hKB b hb)) hAG hL (Frame.trans hf ⟨rfl, rfl, rfl, by simp, fun b hb hne => hoff b (fun e => hne (.inl e))⟩) (fun b hb => .inl (.inl hb)) fun b hb => ?_
  rcases hb with (e | e | e | e | ⟨g, hg, e⟩) | e
  · exact .inl (.inl e)
  · exact .inl (.inr (.inl e))
  · exact .inl (.inr (.inr (.inl e)))
  · exact .inr (.inr (hrow.lt b e).1)
  · exact .inl (.inr (.inr (.inr (.inr ⟨g, hg, e⟩))))
  · rcases (hKB b e).1 with k | k
    · exact .inr (.inl k)
    · exact .inr (.inr k)
def RKeepPost (w0 w : World) (P : Nat → Prop) (rb : Nat) (st : HSt) (L : List AM) (m : AM) (e : Ending) (w' : World) : Prop := e = .returned (.bool (keepA L m).1) ∧ RefD w0 w P rb st (keepA L m).2 w'
set_option maxRecDepth 100000 in
set_option maxHeartbeats 8000000 in
set_option linter.unusedSimpArgs false in
theorem refKeep_any (w0 w : World) (P : Nat → Prop) (rb : Nat) (st : HSt) (L : List AM) (m : Mg) (h : RefS w0 w P rb st L) (hB : Below w0.heap.size w0 w) (hd : DvIs w0 m.f m.body m.t) (hsm : DvSm m.f m.t) (htp : m.tp.size ≤ 1048576) (hL : L.length ≤ 10000000) :
    Calls Tryz.prog 51 #[.pointer (some ⟨rb, 0, none⟩), .agg #[.int .i64 m.id, .string m.tp, .int .i64 m.kd, .int .i64 m.di, .int .u64 m.db, .string m.ds, .slice m.q m.n m.c, .int .i64 m.at_, .int .i64 m.un, .string m.rp, .int .i64 m.co, .int .i64 m.pr, .int .i64 m.ho]] w (RKeepPost w0 w P rb st L m.am) := by
  obtain ⟨PP, hPP⟩ : ∃ PP : Ending → World → Prop, RKeepPost w0 w P rb st L m.am = PP := ⟨_, rfl⟩
  rw [hPP]
  have HPP := Lib.hid hPP
  have HB0 := Lib.hid hB
  have HD := Lib.hid hd
  obtain ⟨vs, vg, vm, gs, ms, KB, h1, h2, h3, h4, h5⟩ := h
  have HR := Lib.hid h1
  have HAG := Lib.hid h2
  have HAM := Lib.hid h3
  have HOW := Lib.hid h4
  have HPB := Lib.hid h5
  have hml : ms.length ≤ 10000000 := by rw [← h3, List.length_map] at hL; exact hL
  obtain ⟨qm, cm, rfl⟩ : ∃ q c, vm = .slice q ms.length c := MRow.slice h1.msgs
  have CC : Hid (∀ W, Below w0.heap.size w0 W → Calls Tryz.prog 50 #[.agg #[.int .i64 m.id, .string m.tp, .int .i64 m.kd, .int .i64 m.di, .int .u64 m.db, .string m.ds, .slice m.q m.n m.c, .int .i64 m.at_, .int .i64 m.un, .string m.rp, .int .i64 m.co, .int .i64 m.pr, .int .i64 m.ho]] W (CopyPost W m)) := fun W hW => copyMsg_any W m (DvIs.below hW hd) hsm
  have hbl := h1.blt
  have HSM := Lib.hid hsm
  have HBD : Hid (∀ (W' : World) (KB' : Nat → Prop), w.heap.size ≤ W'.heap.size → (∀ b, b < w.heap.size → b ≠ rb → W'.heap[b]? = w.heap[b]?) → (∀ b, KB b → KB' b) → ∀ x ∈ restM ms m.tp, DvIn KB' W' x.f x.body x.t ∧ DvSm x.f x.t ∧ x.tp.size ≤ 1048576) := fun W' KB' hs hk hK x hx => by
    obtain ⟨k1, k2⟩ := HR.out.body x (mem_restM hx)
    exact ⟨k1.kept fun b hb hl => ⟨hk b hl (fun e => (HR.out.kb b hb).2.2 (.inl e)), hK b hb⟩, k2⟩
  have HAR : Hid ((restM ms m.tp).map Mg.am = restA L m.am.tp) := by rw [← HAM.out]; exact abs_rest ms m.tp
  clear hPP hB hd h1 h2 h3 h4 h5 hsm
  go_enter Tryz.func51, Tryz.ntmps51
  go_upto_region 1 with fail
  obtain ⟨b, hb⟩ : ∃ b, w.heap.size = b := ⟨_, rfl⟩
  rw [hb]
  refine wp_world (fun W => W.heap[b]? = some (.cells #[.int .i64 m.id, .string m.tp, .int .i64 m.kd, .int .i64 m.di, .int .u64 m.db, .string m.ds, .slice m.q m.n m.c, .int .i64 m.at_, .int .i64 m.un, .string m.rp, .int .i64 m.co, .int .i64 m.pr, .int .i64 m.ho] 36 (0, 0)) ∧ Below w.heap.size w W ∧ W.heap.size = b + 1) ⟨by rw [← hb]; exact heap_alloc_new w _, (Below.refl _ w).alloc (Nat.le_refl _) _, by rw [← hb]; simp⟩ (fun WB hWB => ?_)
  have HX := Lib.hid hWB.1
  have HWB := Lib.hid hWB.2.1
  have HWS := Lib.hid hWB.2.2
  have HBB := Lib.hid hb
  clear hWB hb
  go_wp2_with fail
  go_loopw [5, 6, 7] (fun s5 s6 s7 wr => ∃ (i : Nat) (q5 : Option Addr) (c5 : Nat) (rs : List Mg) (was : Bool), s5 = .slice q5 rs.length c5 ∧ s6 = .bool was ∧ s7 = .int .i64 (i : Nat) ∧ i ≤ ms.length ∧ rs.length ≤ i ∧ Hid (MRow wr (w.heap.size + 1) (.slice q5 rs.length c5) rs) ∧ Hid (rs = restM (ms.take i) m.tp) ∧ Hid (was = true ↔ ∃ x ∈ ms.take i, x.tp = m.tp) ∧ Hid (Below WB.heap.size WB wr)) (fun _ _ s7 _ => ms.length - (intOf s7).toNat)
  case atStart => exact ⟨0, none, 0, [], false, rfl, rfl, rfl, Nat.zero_le _, Nat.le_refl _, World.ownsRow_nil _ _ _ _, rfl, by show false = true ↔ _; simp, Below.refl _ _⟩
  case round =>
    obtain ⟨i, q5, c5, rs, was, rfl, rfl, rfl, hi, hrl, HRW, HRS, HWA, HBr⟩ := hrel
    have HBW : Hid (Below w.heap.size w wr) := HWB.out.trans (HBr.out.mono HWB.out.size)
    have HRr := Lib.hid (HR.out.below HBW.out)
    have k2 := HRr.out.cells.2.2
    have kb := HRr.out.blt
    by_cases hlt : i < ms.length
    · obtain ⟨x, hx⟩ : ∃ x, ms[i]? = some x := ⟨_, List.getElem?_eq_getElem hlt⟩
      obtain ⟨g, rfl, gl, e0, e1, e2, e3, e4, e5, e6, e7, e8, e9, e10, e11, e12⟩ := MRow.at_ HRr.out.msgs hx
      have hltI : (i : Int) < (ms.length : Int) := by omega
      have hi0 : (0 : Int) ≤ (i : Int) := by omega
      have hbw : b < wr.heap.size := by have := HBr.out.size; have := HWS.out; omega
      have y1 : wr.cell? ⟨b, 1, none⟩ = some (.string m.tp) := cell_of_heap (HBr.out.block b (by have := HWS.out; omega)) (by rw [cell_of_row _ _ _ _ _ _ HX.out]; rfl)
      have HTM := Lib.hid (take_mem hx)
      by_cases he : x.tp = m.tp
      · have t1 : (x.tp.toList == m.tp.toList) = true := by rw [he]; simp
        have HR2 : Hid (rs = restM (ms.take (i + 1)) m.tp) := by show rs = _; rw [restM_snoc hx, if_pos he, List.append_nil]; exact HRS.out
        have HW2 : Hid (∃ x ∈ ms.take (i + 1), x.tp = m.tp) := ⟨x, (HTM.out x).2 (.inr rfl), he⟩
        clear he hx
        go_wp2_with fail
        go_quiet (fail)
        go_wp2_with fail
        go_roundw
        case rel => exact ⟨i + 1, q5, c5, rs, true, rfl, rfl, by go_num, by omega, by omega, HRW.out, HR2.out, Iff.intro (fun _ => HW2.out) (fun _ => rfl), below_drewN' HBr.out _⟩
        case measure => simp [intOf]; omega
      · have t1 : (x.tp.toList == m.tp.toList) = false := tp_ne he
        have HR2 : Hid (rs ++ [x] = restM (ms.take (i + 1)) m.tp) := by show _ = _; rw [restM_snoc hx, if_neg he, ← HRS.out]
        have HW2 : Hid (was = true ↔ ∃ x ∈ ms.take (i + 1), x.tp = m.tp) := by
          show _ ↔ _
          rw [HWA.out]
          exact Iff.intro (fun ⟨y, h1, h2⟩ => ⟨y, (HTM.out y).2 (.inl h1), h2⟩) (fun ⟨y, h1, h2⟩ => by
            rcases (HTM.out y).1 h1 with h1 | h1
            · exact ⟨y, h1, h2⟩
            · subst h1; exact absurd h2 he)
        clear he hx
        obtain ⟨i0, hi', hz0, hz1, hz2⟩ := info_parts info_msg
        have hwl : w.heap.size + 1 ≤ wr.heap.size := by have := HBr.out.size; have := HWS.out; have := HBB.out; omega
        go_wp2_with fail
        go_quiet (fail)
        go_wp2_with (at_builtin; refine wpList_append_own_at _ rfl _ _ 30 rfl (w.heap.size + 1) 36 i0 msgZero 13 144 Tryz.underlying30 hi' hz0 hz1 hz2 rfl (by decide) _ _ _ rfl (HRW.out.alloc _) ⟨wr.heap.size, 0, none⟩ 1 1 [.int .i64 x.id, .string x.tp, .int .i64 x.kd, .int .i64 x.di, .int .u64 x.db, .string x.ds, .slice x.q x.n x.c, .int .i64 x.at_, .int .i64 x.un, .string x.rp, .int .i64 x.co, .int .i64 x.pr, .int .i64 x.ho] rfl rfl (news13 wr _ _) (by intro u hu; simp at hu; rcases hu with rfl | rfl | rfl | rfl | rfl | rfl | rfl | rfl | rfl | rfl | rfl | rfl | rfl <;> rfl) (by unfold maxLen; omega) (by omega) (by simp; omega) ?_; intro v2 w6 hown2 hg2 hnil2 hloc2; have HOW2 := Lib.hid hown2; have HG2 := Lib.hid hg2; clear hown2 hg2 hnil2 hloc2)
        have HK : Hid (MRow w6 (w.heap.size + 1) v2 (rs ++ [x])) := by
          have e : rowM (rs ++ [x]) = rowM rs ++ x.cells := by unfold rowM; simp
          show w6.ownsRow _ _ _ _ _ _
          rw [List.length_append, e]
          exact HOW2.out
        have HB6 : Hid (Below WB.heap.size WB w6) := ((below_drewN' HBr.out nq).alloc HBr.out.size _).grown HG2.out (by have := HBr.out.size; rw [World.size_alloc]; show _ ≤ wr.heap.size + 1; omega) (fun k hk => by have := (HRW.out.lt k hk).1; have := HWS.out; have := HBB.out; omega)
        obtain ⟨q6, c6, rfl⟩ := MRow.slice HK.out
        go_roundw
        case rel => exact ⟨i + 1, q6, c6, rs ++ [x], was, rfl, rfl, by go_num, by omega, by rw [List.length_append]; exact Nat.succ_le_succ hrl, HK.out, HR2.out, HW2.out, HB6.out⟩
        case measure => simp [intOf]; omega
    · obtain rfl : i = ms.length := by omega
      have hnI : ¬ (ms.length : Int) < (ms.length : Int) := by omega
      rw [List.take_length] at HRS HWA
      have y2 : wr.cell? ⟨b, 2, none⟩ = some (.int .i64 m.kd) := cell_of_heap (HBr.out.block b (by have := HWS.out; omega)) (by rw [cell_of_row _ _ _ _ _ _ HX.out]; rfl)
      have hne : rb ≠ b := by have := HBB.out; omega
      have z2 := frozen_of_row wr rb 2 _ _ HRr.out.box
      have HTK : Hid (m.t.kd = m.kd) := by
        obtain ⟨ps, e⟩ := DvIs.mk HD.out
        show m.t.kd = m.kd
        rw [e]; rfl
      have hws : w.heap.size ≤ wr.heap.size := HBW.out.size
      have HF1 : Hid (Frame (fun b => b = rb) w wr) := Frame.of_below HBW.out
      have HROW0 : Hid (wr.ownsRow w.heap.size 36 13 (.slice q5 rs.length c5) rs.length (rowM rs)) := ownsRow_mono HRW.out (Nat.le_succ _)
      by_cases h0 : m.kd = 0
      · have HK : Hid (keepA L m.am = (was, restA L m.am.tp)) := by
          show keepA L m.am = _
          unfold keepA
          rw [if_pos (show m.am.t.kd = 0 from HTK.out.trans h0)]
          congr 1
          rw [Bool.eq_iff_iff, HWA.out, decide_eq_true_iff, ← HAM.out]
          exact Iff.intro (fun ⟨x, h1, h2⟩ => (by
            obtain ⟨y, hy, rfl⟩ := List.mem_map.1 h1
            exact ⟨y, hy, h2⟩)) (fun ⟨x, h1, h2⟩ => ⟨x.am, List.mem_map.2 ⟨x, h1, rfl⟩, h2⟩)
        have HFIN : Hid (RKeepPost w0 w P rb st L m.am (.returned (.bool was)) (wr.setCell ⟨rb, 2, none⟩ (.slice q5 rs.length c5))) := by
          show RKeepPost _ _ _ _ _ _ _ _ _
          unfold RKeepPost
          rw [HK.out]
          refine ⟨rfl, keep_to HR.out HAG.out HOW.out HPB.out HB0.out.size HF1.out HRr.out.box HROW0.out (HRS.out ▸ HBD.out wr KB hws (fun b h1 h2 => HBW.out.block b h1) (fun _ e => e)) (fun b hb => ⟨.inl hb, (HRr.out.kb b hb).2.1, fun e => by have := (HROW0.out.lt b e).1; have := (HR.out.kb b hb).2.1; omega⟩) (by rw [HRS.out]; exact HAR.out)⟩
        go_wp2_with fail
        rw [← HPP.out]
        exact HFIN.out
      · have hb0 : (m.kd == 0) = false := by rw [beq_eq_false_iff_ne]; exact h0
        have HK : Hid (keepA L m.am = (true, restA L m.am.tp ++ [m.am])) := by
          show keepA L m.am = _
          unfold keepA
          rw [if_neg (show ¬ m.am.t.kd = 0 from fun e => h0 (HTK.out.symm.trans e))]
        clear h0
        have HXM0 : Hid (wr.heap[b]? = some (.cells #[.int .i64 m.id, .string m.tp, .int .i64 m.kd, .int .i64 m.di, .int .u64 m.db, .string m.ds, .slice m.q m.n m.c, .int .i64 m.at_, .int .i64 m.un, .string m.rp, .int .i64 m.co, .int .i64 m.pr, .int .i64 m.ho] 36 (0, 0))) := (HBr.out.block b (by have := HWS.out; omega)).trans HX.out
        go_upto_region 12 with fail
        refine wp_world (fun Wx => Wx.heap[rb]? = some (.cells #[vs, vg, (.slice q5 rs.length c5)] 50 (0, 0)) ∧ Frame (fun b => b = rb) w Wx ∧ MRow Wx (w.heap.size + 1) (.slice q5 rs.length c5) rs ∧ Wx.heap[b]? = some (.cells #[.int .i64 m.id, .string m.tp, .int .i64 m.kd, .int .i64 m.di, .int .u64 m.db, .string m.ds, .slice m.q m.n m.c, .int .i64 m.at_, .int .i64 m.un, .string m.rp, .int .i64 m.co, .int .i64 m.pr, .int .i64 m.ho] 36 (0, 0))) ⟨heap_setCell_same wr rb 2 _ _ _ HRr.out.box, Frame.trans HF1.out ⟨rfl, rfl, rfl, by simp, fun b hb hne => Below.heap_setCell _ _ _ _ (fun e => hne (.inl e))⟩, row_of_heap HRW.out (fun b hb => Below.heap_setCell _ _ _ _ (fun e => by have := (HRW.out.lt b hb).1; have e : b = rb := e; omega)), (Below.heap_setCell _ _ _ _ (fun e => hne e.symm)).trans HXM0.out⟩ (fun Wx hx => ?_)
        have HXB := Lib.hid hx.1
        have HXF := Lib.hid hx.2.1
        have HXR := Lib.hid hx.2.2.1
        have HXM := Lib.hid hx.2.2.2
        have HXL : Hid (w.heap.size + 1 ≤ Wx.heap.size) := by have := (Array.getElem?_eq_some_iff.1 hx.2.2.2).1; have := HBB.out; show _ ≤ _; omega
        have d2 : Wx.cell? ⟨rb, 2, none⟩ = some (.slice q5 rs.length c5) := by rw [cell_of_row _ _ _ _ _ _ hx.1]; rfl
        have dl : rb < Wx.heap.size := (Array.getElem?_eq_some_iff.1 hx.1).1
        have HSS : Hid (∀ W', Below Wx.heap.size Wx W' → W'.cell? ⟨b, 0, none⟩ = some (.int .i64 m.id) ∧ W'.cell? ⟨b, 1, none⟩ = some (.string m.tp) ∧ W'.cell? ⟨b, 2, none⟩ = some (.int .i64 m.kd) ∧ W'.cell? ⟨b, 3, none⟩ = some (.int .i64 m.di) ∧ W'.cell? ⟨b, 4, none⟩ = some (.int .u64 m.db) ∧ W'.cell? ⟨b, 5, none⟩ = some (.string m.ds) ∧ W'.cell? ⟨b, 6, none⟩ = some (.slice m.q m.n m.c) ∧ W'.cell? ⟨b, 7, none⟩ = some (.int .i64 m.at_) ∧ W'.cell? ⟨b, 8, none⟩ = some (.int .i64 m.un) ∧ W'.cell? ⟨b, 9, none⟩ = some (.string m.rp) ∧ W'.cell? ⟨b, 10, none⟩ = some (.int .i64 m.co) ∧ W'.cell? ⟨b, 11, none⟩ = some (.int .i64 m.pr) ∧ W'.cell? ⟨b, 12, none⟩ = some (.int .i64 m.ho)) := fun W' hb => by
          have e := (hb.block b (Array.getElem?_eq_some_iff.1 HXM.out).1).trans HXM.out
          exact ⟨by rw [cell_of_row _ _ _ _ _ _ e]; rfl, by rw [cell_of_row _ _ _ _ _ _ e]; rfl, by rw [cell_of_row _ _ _ _ _ _ e]; rfl, by rw [cell_of_row _ _ _ _ _ _ e]; rfl, by rw [cell_of_row _ _ _ _ _ _ e]; rfl, by rw [cell_of_row _ _ _ _ _ _ e]; rfl, by rw [cell_of_row _ _ _ _ _ _ e]; rfl, by rw [cell_of_row _ _ _ _ _ _ e]; rfl, by rw [cell_of_row _ _ _ _ _ _ e]; rfl, by rw [cell_of_row _ _ _ _ _ _ e]; rfl, by rw [cell_of_row _ _ _ _ _ _ e]; rfl, by rw [cell_of_row _ _ _ _ _ _ e]; rfl, by rw [cell_of_row _ _ _ _ _ _ e]; rfl⟩
        have HS0 := Lib.hid (HSS.out Wx.drew (Below.drew_of Wx))
        have HBx : Hid (Below w0.heap.size w0 Wx.drew) := by
          have h := below_frame HB0.out HXF.out (fun c e => by have := HR.out.lo; omega)
          exact h.trans ((Below.drew_of Wx).mono h.size)
        have HSG : Hid (∀ (W2 : World) (o : Obj) (w1 : World), Below Wx.heap.size Wx W2 → (W2.alloc o).grownBy w1 (Value.slice q5 rs.length c5).ownBlock → w1.cell? ⟨b, 0, none⟩ = some (.int .i64 m.id) ∧ w1.cell? ⟨b, 1, none⟩ = some (.string m.tp) ∧ w1.cell? ⟨b, 2, none⟩ = some (.int .i64 m.kd) ∧ w1.cell? ⟨b, 3, none⟩ = some (.int .i64 m.di) ∧ w1.cell? ⟨b, 4, none⟩ = some (.int .u64 m.db) ∧ w1.cell? ⟨b, 5, none⟩ = some (.string m.ds) ∧ w1.cell? ⟨b, 6, none⟩ = some (.slice m.q m.n m.c) ∧ w1.cell? ⟨b, 7, none⟩ = some (.int .i64 m.at_) ∧ w1.cell? ⟨b, 8, none⟩ = some (.int .i64 m.un) ∧ w1.cell? ⟨b, 9, none⟩ = some (.string m.rp) ∧ w1.cell? ⟨b, 10, none⟩ = some (.int .i64 m.co) ∧ w1.cell? ⟨b, 11, none⟩ = some (.int .i64 m.pr) ∧ w1.cell? ⟨b, 12, none⟩ = some (.int .i64 m.ho)) := fun W2 o w1 hb hg => by
          have hl := (Array.getElem?_eq_some_iff.1 HXM.out).1
          have e := ((hg.block b (by have := hb.size; simp; omega) (fun e => by have := (HXR.out.lt b e.symm).1; have := HBB.out; omega)).trans (Below.heap_alloc W2 o b (by have := hb.size; omega))).trans ((hb.block b hl).trans HXM.out)
          exact ⟨by rw [cell_of_row _ _ _ _ _ _ e]; rfl, by rw [cell_of_row _ _ _ _ _ _ e]; rfl, by rw [cell_of_row _ _ _ _ _ _ e]; rfl, by rw [cell_of_row _ _ _ _ _ _ e]; rfl, by rw [cell_of_row _ _ _ _ _ _ e]; rfl, by rw [cell_of_row _ _ _ _ _ _ e]; rfl, by rw [cell_of_row _ _ _ _ _ _ e]; rfl, by rw [cell_of_row _ _ _ _ _ _ e]; rfl, by rw [cell_of_row _ _ _ _ _ _ e]; rfl, by rw [cell_of_row _ _ _ _ _ _ e]; rfl, by rw [cell_of_row _ _ _ _ _ _ e]; rfl, by rw [cell_of_row _ _ _ _ _ _ e]; rfl, by rw [cell_of_row _ _ _ _ _ _ e]; rfl⟩
        have HX8 : Hid (∀ (W2 : World) (o : Obj) (w1 : World), Below Wx.heap.size Wx W2 → (W2.alloc o).grownBy w1 (Value.slice q5 rs.length c5).ownBlock → w1.cell? ⟨rb, 2, none⟩ = some (.slice q5 rs.length c5) ∧ rb < w1.heap.size ∧ w1.frozen? ⟨rb, 2, none⟩ = false) := fun W2 o w1 hb hg => by
          have hl := (Array.getElem?_eq_some_iff.1 HXB.out).1
          have e := ((hg.block rb (by have := hb.size; simp; omega) (fun e => by have := (HXR.out.lt rb e.symm).1; omega)).trans (Below.heap_alloc W2 o rb (by have := hb.size; omega))).trans ((hb.block rb hl).trans HXB.out)
          exact ⟨by rw [cell_of_row _ _ _ _ _ _ e]; rfl, (Array.getElem?_eq_some_iff.1 e).1, frozen_of_row _ _ _ _ _ e⟩
        have HSF0 : Hid (∀ (w1 : World) (v : Value), (w1.cell? ⟨b, 0, none⟩ = some (.int .i64 m.id) ∧ w1.cell? ⟨b, 1, none⟩ = some (.string m.tp) ∧ w1.cell? ⟨b, 2, none⟩ = some (.int .i64 m.kd) ∧ w1.cell? ⟨b, 3, none⟩ = some (.int .i64 m.di) ∧ w1.cell? ⟨b, 4, none⟩ = some (.int .u64 m.db) ∧ w1.cell? ⟨b, 5, none⟩ = some (.string m.ds) ∧ w1.cell? ⟨b, 6, none⟩ = some (.slice m.q m.n m.c) ∧ w1.cell? ⟨b, 7, none⟩ = some (.int .i64 m.at_) ∧ w1.cell? ⟨b, 8, none⟩ = some (.int .i64 m.un) ∧ w1.cell? ⟨b, 9, none⟩ = some (.string m.rp) ∧ w1.cell? ⟨b, 10, none⟩ = some (.int .i64 m.co) ∧ w1.cell? ⟨b, 11, none⟩ = some (.int .i64 m.pr) ∧ w1.cell? ⟨b, 12, none⟩ = some (.int .i64 m.ho)) → (w1.setCell ⟨rb, 2, none⟩ v).cell? ⟨b, 0, none⟩ = some (.int .i64 m.id) ∧ (w1.setCell ⟨rb, 2, none⟩ v).cell? ⟨b, 1, none⟩ = some (.string m.tp) ∧ (w1.setCell ⟨rb, 2, none⟩ v).cell? ⟨b, 2, none⟩ = some (.int .i64 m.kd) ∧ (w1.setCell ⟨rb, 2, none⟩ v).cell? ⟨b, 3, none⟩ = some (.int .i64 m.di) ∧ (w1.setCell ⟨rb, 2, none⟩ v).cell? ⟨b, 4, none⟩ = some (.int .u64 m.db) ∧ (w1.setCell ⟨rb, 2, none⟩ v).cell? ⟨b, 5, none⟩ = some (.string m.ds) ∧ (w1.setCell ⟨rb, 2, none⟩ v).cell? ⟨b, 6, none⟩ = some (.slice m.q m.n m.c) ∧ (w1.setCell ⟨rb, 2, none⟩ v).cell? ⟨b, 7, none⟩ = some (.int .i64 m.at_) ∧ (w1.setCell ⟨rb, 2, none⟩ v).cell? ⟨b, 8, none⟩ = some (.int .i64 m.un) ∧ (w1.setCell ⟨rb, 2, none⟩ v).cell? ⟨b, 9, none⟩ = some (.string m.rp) ∧ (w1.setCell ⟨rb, 2, none⟩ v).cell? ⟨b, 10, none⟩ = some (.int .i64 m.co) ∧ (w1.setCell ⟨rb, 2, none⟩ v).cell? ⟨b, 11, none⟩ = some (.int .i64 m.pr) ∧ (w1.setCell ⟨rb, 2, none⟩ v).cell? ⟨b, 12, none⟩ = some (.int .i64 m.ho)) := fun w1 v h => by
          have key : ∀ i, (w1.setCell ⟨rb, 2, none⟩ v).cell? ⟨b, i, none⟩ = w1.cell? ⟨b, i, none⟩ := fun i => by
            unfold World.cell?
            simp only [Below.heap_setCell w1 ⟨rb, 2, none⟩ v b (fun e => hne e.symm)]
          obtain ⟨s0, s1, s2, s3, s4, s5, s6, s7, s8, s9, s10, s11, s12⟩ := h
          exact ⟨(key 0).trans s0, (key 1).trans s1, (key 2).trans s2, (key 3).trans s3, (key 4).trans s4, (key 5).trans s5, (key 6).trans s6, (key 7).trans s7, (key 8).trans s8, (key 9).trans s9, (key 10).trans s10, (key 11).trans s11, (key 12).trans s12⟩
        have HFIN : Hid (∀ (aq : Option Addr) (an ac : Nat) (W2 : World) (g2 cap2 : Nat) (w1 : World), Below Wx.heap.size Wx W2 → DvIn (Fresh Wx W2) W2 m.f [.int .i64 m.kd, .int .i64 m.di, .int .u64 m.db, .string m.ds, .slice aq an ac] m.t → w1.ownsRow (w.heap.size + 1) 36 13 (.slice (some ⟨g2, 0, none⟩) (rs.length + 1) cap2) (rs.length + 1) (rowM rs ++ [.int .i64 m.id, .string m.tp, .int .i64 m.kd, .int .i64 m.di, .int .u64 m.db, .string m.ds, .slice aq an ac, .int .i64 m.at_, .int .i64 m.un, .string m.rp, .int .i64 m.co, .int .i64 m.pr, .int .i64 m.ho]) → (W2.alloc (.cells #[.int .i64 m.id, .string m.tp, .int .i64 m.kd, .int .i64 m.di, .int .u64 m.db, .string m.ds, .slice aq an ac, .int .i64 m.at_, .int .i64 m.un, .string m.rp, .int .i64 m.co, .int .i64 m.pr, .int .i64 m.ho] 36)).grownBy w1 (Value.slice q5 rs.length c5).ownBlock → ((Value.slice q5 rs.length c5).ownBlock = some g2 ∨ g2 = W2.heap.size + 1) → RKeepPost w0 w P rb st L m.am (.returned (.bool true)) (w1.setCell ⟨rb, 2, none⟩ (.slice (some ⟨g2, 0, none⟩) (rs.length + 1) cap2))) := fun aq an ac W2 g2 cap2 w1 hb2 hd2 hown hg hat => by
          show RKeepPost _ _ _ _ _ _ _ _ _
          unfold RKeepPost
          rw [HK.out]
          have hxs := HXL.out
          have hs2 := hb2.size
          have hg1 := hg.size
          rw [World.size_alloc] at hg1
          have hl5 := HXR.out.lt
          have hk2 : ∀ c, c < Wx.heap.size → (Value.slice q5 rs.length c5).ownBlock ≠ some c → w1.heap[c]? = Wx.heap[c]? := fun c hc hne => (hg.block c (by rw [World.size_alloc]; omega) (fun e => hne e.symm)).trans ((Below.heap_alloc _ _ _ (by omega)).trans (hb2.block c hc))
          have hv2 : ∀ c, (Value.slice (some ⟨g2, 0, none⟩) (rs.length + 1) cap2).ownBlock = some c → (Value.slice q5 rs.length c5).ownBlock = some c ∨ c = W2.heap.size + 1 := fun c e => by
            injection e with e
            have e : g2 = c := e
            subst e
            exact hat
          refine ⟨rfl, keep_to (vx := (.slice q5 rs.length c5)) (ms' := rs ++ [{ m with q := aq, n := an, c := ac }]) (KB' := fun c => KB c ∨ Fresh Wx W2 c) HR.out HAG.out HOW.out HPB.out HB0.out.size ?_ ?_ ?_ ?_ ?_ ?_⟩
          · exact Frame.trans (Frame.trans (Frame.trans HXF.out (Frame.of_below hb2)) (Frame.of_below ((Below.refl _ _).alloc (Nat.le_refl _) _))) (Frame.of_grown hg fun c hc => .inr (by have := (hl5 c hc).1; omega))
          · exact (hk2 rb dl (fun e => by have := (hl5 rb e).1; omega)).trans HXB.out
          · have e : rowM (rs ++ [{ m with q := aq, n := an, c := ac }]) = rowM rs ++ [.int .i64 m.id, .string m.tp, .int .i64 m.kd, .int .i64 m.di, .int .u64 m.db, .string m.ds, .slice aq an ac, .int .i64 m.at_, .int .i64 m.un, .string m.rp, .int .i64 m.co, .int .i64 m.pr, .int .i64 m.ho] := by unfold rowM; simp [Mg.cells]
            rw [List.length_append, e]
            exact ownsRow_mono hown (Nat.le_succ _)
          · intro x hx
            rcases List.mem_append.1 hx with hx | hx
            · rw [HRS.out] at hx
              exact HBD.out w1 _ (by omega) (fun c h1 h2 => (hk2 c (by omega) (fun e => by have := (hl5 c e).1; omega)).trans (HXF.out.block c h1 h2)) (fun _ e => .inl e) x hx
            · rw [List.mem_singleton] at hx
              subst hx
              refine ⟨hd2.kept fun c hc hl => ⟨?_, .inr hc⟩, HSM.out, htp⟩
              have h1 : Wx.heap.size ≤ c := hc.1
              exact (hg.block c (by rw [World.size_alloc]; omega) (fun e => by have := (hl5 c e.symm).2; omega)).trans (Below.heap_alloc _ _ _ hl)
          · intro c hc
            rcases hc with hc | hc
            · have h1 := (HR.out.kb c hc).2.1
              exact ⟨.inl hc, by omega, fun e => by
                rcases hv2 c e with e | e
                · have := (hl5 c e).1; omega
                · omega⟩
            · have h1 : Wx.heap.size ≤ c := hc.1
              have h2 : c < W2.heap.size := hc.2
              exact ⟨.inr (by omega), by omega, fun e => by
                rcases hv2 c e with e | e
                · have := (hl5 c e).2; omega
                · omega⟩
          · rw [List.map_append, HRS.out, HAR.out]
            rfl
        obtain ⟨i0, hi', hz0, hz1, hz2⟩ := info_parts info_msg
        clear hx y2 k2 z2
        refine wp_region_held_drew (S := fun W' => W'.cell? ⟨b, 0, none⟩ = some (.int .i64 m.id) ∧ W'.cell? ⟨b, 1, none⟩ = some (.string m.tp) ∧ W'.cell? ⟨b, 2, none⟩ = some (.int .i64 m.kd) ∧ W'.cell? ⟨b, 3, none⟩ = some (.int .i64 m.di) ∧ W'.cell? ⟨b, 4, none⟩ = some (.int .u64 m.db) ∧ W'.cell? ⟨b, 5, none⟩ = some (.string m.ds) ∧ W'.cell? ⟨b, 6, none⟩ = some (.slice m.q m.n m.c) ∧ W'.cell? ⟨b, 7, none⟩ = some (.int .i64 m.at_) ∧ W'.cell? ⟨b, 8, none⟩ = some (.int .i64 m.un) ∧ W'.cell? ⟨b, 9, none⟩ = some (.string m.rp) ∧ W'.cell? ⟨b, 10, none⟩ = some (.int .i64 m.co) ∧ W'.cell? ⟨b, 11, none⟩ = some (.int .i64 m.pr) ∧ W'.cell? ⟨b, 12, none⟩ = some (.int .i64 m.ho)) (by kernel_rfl) HS0.out (fun hHeld => ?_)
        refine wpAnyH_take (i := 0) (oi := _) (v := ?_) rfl (by kernel_rfl) (by kernel_rfl) (by kernel_rfl) (fun _ _ _ h => h) (Or.inl ⟨by rfl, ?_⟩) (by assumption) ?_
        rotate_left
        focus (intro w' hSw; (try dsimp only at hSw); go_simp; try with_reducible rfl)
        (try simp only [Act.put, List.setIfInBounds_toArray, List.set_cons_zero, List.set_cons_succ, List.getElem_toArray, List.getElem_cons_succ, List.getElem_cons_zero])
        refine wpAnyH_take (i := 1) (oi := _) (v := ?_) rfl (by kernel_rfl) (by kernel_rfl) (by kernel_rfl) (fun _ _ _ h => h) (Or.inl ⟨by rfl, ?_⟩) (by assumption) ?_
        rotate_left
        focus (intro w' hSw; (try dsimp only at hSw); go_simp; try with_reducible rfl)
        (try simp only [Act.put, List.setIfInBounds_toArray, List.set_cons_zero, List.set_cons_succ, List.getElem_toArray, List.getElem_cons_succ, List.getElem_cons_zero])
        refine wpAnyH_take (i := 2) (oi := _) (v := ?_) rfl (by kernel_rfl) (by kernel_rfl) (by kernel_rfl) (fun _ _ _ h => h) (Or.inl ⟨by rfl, ?_⟩) (by assumption) ?_
        rotate_left
        focus (intro w' hSw; (try dsimp only at hSw); go_simp; try with_reducible rfl)
        (try simp only [Act.put, List.setIfInBounds_toArray, List.set_cons_zero, List.set_cons_succ, List.getElem_toArray, List.getElem_cons_succ, List.getElem_cons_zero])
        refine wpAnyH_take (i := 3) (oi := _) (v := ?_) rfl (by kernel_rfl) (by kernel_rfl) (by kernel_rfl) (fun _ _ _ h => h) (Or.inl ⟨by rfl, ?_⟩) (by assumption) ?_
        rotate_left
        focus (intro w' hSw; (try dsimp only at hSw); go_simp; try with_reducible rfl)
        (try simp only [Act.put, List.setIfInBounds_toArray, List.set_cons_zero, List.set_cons_succ, List.getElem_toArray, List.getElem_cons_succ, List.getElem_cons_zero])
        refine wpAnyH_take (i := 5) (oi := _) (v := ?_) rfl (by kernel_rfl) (by kernel_rfl) (by kernel_rfl) (fun _ _ _ h => h) (Or.inl ⟨by rfl, ?_⟩) (by assumption) ?_
        rotate_left
        focus (intro w' hSw; (try dsimp only at hSw); go_simp; try with_reducible rfl)
        (try simp only [Act.put, List.setIfInBounds_toArray, List.set_cons_zero, List.set_cons_succ, List.getElem_toArray, List.getElem_cons_succ, List.getElem_cons_zero])
        refine wpAnyH_ready (rs := [4, 6]) (by kernel_rfl) (by simp) ?_
        refine AllReadyH.cons (o := _) rfl (fun K hK => ?_) ?_
        · go_simp
          refine hK.out _ _ HS0.out (fun hHeld => ?_)
          clear hK K
          (try simp only [Act.put, List.setIfInBounds_toArray, List.set_cons_zero, List.set_cons_succ, List.getElem_toArray, List.getElem_cons_succ, List.getElem_cons_zero])
          refine wpAnyH_ready (rs := [6]) (by kernel_rfl) (by simp) ?_
          refine AllReadyH.cons (o := _) rfl (fun K hK => ?_) AllReadyH.nil
          go_simp; refine (CC.out _ HBx.out).mono ?_; rintro e W2 ⟨aq, an, ac, rfl, hb2, hd2⟩; have HB2 : Hid (Below Wx.heap.size Wx W2) := Below.undrew hb2; have HD2 : Hid (DvIn (Fresh Wx W2) W2 m.f [.int .i64 m.kd, .int .i64 m.di, .int .u64 m.db, .string m.ds, .slice aq an ac] m.t) := hd2; have HS6 := Lib.hid (HSS.out _ HB2.out); have HRW2 : Hid (MRow W2 (w.heap.size + 1) (.slice q5 rs.length c5) rs) := row_of_heap HXR.out (fun b hv => HB2.out.block b (HXR.out.lt b hv).2); have e1 := (HB2.out.cell (p := ⟨rb, 2, none⟩) dl).trans d2; have e2 := Nat.lt_of_lt_of_le dl HB2.out.size; clear hb2 hd2; dsimp only
          refine hK.out _ _ HS6.out (fun hHeld => ?_)
          clear hK K
          (try simp only [Act.put, List.setIfInBounds_toArray, List.set_cons_zero, List.set_cons_succ, List.getElem_toArray, List.getElem_cons_succ, List.getElem_cons_zero])
          refine wpAnyH_ready (rs := [7]) (by kernel_rfl) (by simp) ?_
          refine AllReadyH.cons (o := _) rfl (fun K hK => ?_) AllReadyH.nil
          go_simp; have HBn : Hid (Below Wx.heap.size Wx (W2.alloc (.cells #[.int .i64 m.id, .string m.tp, .int .i64 m.kd, .int .i64 m.di, .int .u64 m.db, .string m.ds, .slice aq an ac, .int .i64 m.at_, .int .i64 m.un, .string m.rp, .int .i64 m.co, .int .i64 m.pr, .int .i64 m.ho] 36))) := HB2.out.alloc HB2.out.size _; have HS7 := Lib.hid (HSS.out _ HBn.out)
          refine hK.out _ _ HS7.out (fun hHeld => ?_)
          clear hK K
          (try simp only [Act.put, List.setIfInBounds_toArray, List.set_cons_zero, List.set_cons_succ, List.getElem_toArray, List.getElem_cons_succ, List.getElem_cons_zero])
          refine wpAnyH_ready (rs := [8]) (by kernel_rfl) (by simp) ?_
          refine AllReadyH.cons (o := _) rfl (fun K hK => ?_) AllReadyH.nil
          (refine step_append_lies _ (by rfl) _ _ _ (by rfl) (w.heap.size + 1) 36 i0 msgZero 13 144 Tryz.underlying30 hi' hz0 hz1 hz2 rfl (by decide) (.slice q5 rs.length c5) rs.length (rowM rs) (by rfl) (HRW2.out.alloc _) ⟨W2.heap.size, 0, none⟩ 1 1 [.int .i64 m.id, .string m.tp, .int .i64 m.kd, .int .i64 m.di, .int .u64 m.db, .string m.ds, .slice aq an ac, .int .i64 m.at_, .int .i64 m.un, .string m.rp, .int .i64 m.co, .int .i64 m.pr, .int .i64 m.ho] (by rfl) rfl (news13 W2 _ _) (by intro u hu; simp at hu; rcases hu with rfl | rfl | rfl | rfl | rfl | rfl | rfl | rfl | rfl | rfl | rfl | rfl | rfl <;> rfl) (by decide) (by unfold maxLen; omega) (by omega) (by have := HXL.out; have := HB2.out.size; simp; omega) (W2.heap.size + 1) (by simp) ?_); intro g2 cap2 w1 hown' hgrow hat hlt2; have HOW8 := Lib.hid hown'; have HG8 := Lib.hid hgrow; have HLOC8 := Lib.hid hat; have HS8 := Lib.hid (HSG.out _ _ _ HB2.out hgrow); obtain ⟨x4, x5, x6⟩ := HX8.out _ _ _ HB2.out hgrow; clear hown' hgrow hat
          refine hK.out _ _ HS8.out (fun hHeld => ?_)
          clear hK K
          (try simp only [Act.put, List.setIfInBounds_toArray, List.set_cons_zero, List.set_cons_succ, List.getElem_toArray, List.getElem_cons_succ, List.getElem_cons_zero])
          refine wpAnyH_take (i := 9) (oi := _) (v := ?_) rfl (by kernel_rfl) (by kernel_rfl) (by kernel_rfl) (fun _ _ _ h => h) (Or.inl ⟨by rfl, ?_⟩) (by assumption) ?_
          rotate_left
          focus (intro w' hSw; (try dsimp only at hSw); go_simp; try with_reducible rfl)
          (try simp only [Act.put, List.setIfInBounds_toArray, List.set_cons_zero, List.set_cons_succ, List.getElem_toArray, List.getElem_cons_succ, List.getElem_cons_zero])
          refine wpAnyH_take (i := 10) (oi := _) (v := ?_) rfl (by kernel_rfl) (by kernel_rfl) (by kernel_rfl) (fun _ _ _ h => h) (Or.inl ⟨by rfl, ?_⟩) (by assumption) ?_
          rotate_left
          focus (intro w' hSw; (try dsimp only at hSw); go_simp; try with_reducible rfl)
          (try simp only [Act.put, List.setIfInBounds_toArray, List.set_cons_zero, List.set_cons_succ, List.getElem_toArray, List.getElem_cons_succ, List.getElem_cons_zero])
          refine wpAnyH_ready (rs := [11]) (by kernel_rfl) (by simp) ?_
          refine AllReadyH.cons (o := _) rfl (fun K hK => ?_) AllReadyH.nil
          go_simp
          refine hK.out _ _ (HSF0.out _ _ HS8.out) (fun hHeld => ?_)
          clear hK K
          (try simp only [Act.put, List.setIfInBounds_toArray, List.set_cons_zero, List.set_cons_succ, List.getElem_toArray, List.getElem_cons_succ, List.getElem_cons_zero])
          refine wpAnyH_done (by kernel_rfl) ?_ _
          go_simp
          go_wp2_with fail
          rw [← HPP.out]
          exact HFIN.out _ _ _ _ _ _ _ HB2.out HD2.out HOW8.out HG8.out HLOC8.out
        refine AllReadyH.cons (o := _) rfl (fun K hK => ?_) AllReadyH.nil
        go_simp; refine (CC.out _ HBx.out).mono ?_; rintro e W2 ⟨aq, an, ac, rfl, hb2, hd2⟩; have HB2 : Hid (Below Wx.heap.size Wx W2) := Below.undrew hb2; have HD2 : Hid (DvIn (Fresh Wx W2) W2 m.f [.int .i64 m.kd, .int .i64 m.di, .int .u64 m.db, .string m.ds, .slice aq an ac] m.t) := hd2; have HS6 := Lib.hid (HSS.out _ HB2.out); have HRW2 : Hid (MRow W2 (w.heap.size + 1) (.slice q5 rs.length c5) rs) := row_of_heap HXR.out (fun b hv => HB2.out.block b (HXR.out.lt b hv).2); have e1 := (HB2.out.cell (p := ⟨rb, 2, none⟩) dl).trans d2; have e2 := Nat.lt_of_lt_of_le dl HB2.out.size; clear hb2 hd2; dsimp only
        refine hK.out _ _ HS6.out (fun hHeld => ?_)
        clear hK K
        (try simp only [Act.put, List.setIfInBounds_toArray, List.set_cons_zero, List.set_cons_succ, List.getElem_toArray, List.getElem_cons_succ, List.getElem_cons_zero])
        refine wpAnyH_ready (rs := [4, 7]) (by kernel_rfl) (by simp) ?_
        refine AllReadyH.cons (o := _) rfl (fun K hK => ?_) ?_
        · go_simp
          refine hK.out _ _ HS6.out (fun hHeld => ?_)
          clear hK K
          (try simp only [Act.put, List.setIfInBounds_toArray, List.set_cons_zero, List.set_cons_succ, List.getElem_toArray, List.getElem_cons_succ, List.getElem_cons_zero])
          refine wpAnyH_ready (rs := [7]) (by kernel_rfl) (by simp) ?_
          refine AllReadyH.cons (o := _) rfl (fun K hK => ?_) AllReadyH.nil
          go_simp; have HBn : Hid (Below Wx.heap.size Wx (W2.alloc (.cells #[.int .i64 m.id, .string m.tp, .int .i64 m.kd, .int .i64 m.di, .int .u64 m.db, .string m.ds, .slice aq an ac, .int .i64 m.at_, .int .i64 m.un, .string m.rp, .int .i64 m.co, .int .i64 m.pr, .int .i64 m.ho] 36))) := HB2.out.alloc HB2.out.size _; have HS7 := Lib.hid (HSS.out _ HBn.out)
          refine hK.out _ _ HS7.out (fun hHeld => ?_)
          clear hK K
          (try simp only [Act.put, List.setIfInBounds_toArray, List.set_cons_zero, List.set_cons_succ, List.getElem_toArray, List.getElem_cons_succ, List.getElem_cons_zero])
          refine wpAnyH_ready (rs := [8]) (by kernel_rfl) (by simp) ?_
          refine AllReadyH.cons (o := _) rfl (fun K hK => ?_) AllReadyH.nil
          (refine step_append_lies _ (by rfl) _ _ _ (by rfl) (w.heap.size + 1) 36 i0 msgZero 13 144 Tryz.underlying30 hi' hz0 hz1 hz2 rfl (by decide) (.slice q5 rs.length c5) rs.length (rowM rs) (by rfl) (HRW2.out.alloc _) ⟨W2.heap.size, 0, none⟩ 1 1 [.int .i64 m.id, .string m.tp, .int .i64 m.kd, .int .i64 m.di, .int .u64 m.db, .string m.ds, .slice aq an ac, .int .i64 m.at_, .int .i64 m.un, .string m.rp, .int .i64 m.co, .int .i64 m.pr, .int .i64 m.ho] (by rfl) rfl (news13 W2 _ _) (by intro u hu; simp at hu; rcases hu with rfl | rfl | rfl | rfl | rfl | rfl | rfl | rfl | rfl | rfl | rfl | rfl | rfl <;> rfl) (by decide) (by unfold maxLen; omega) (by omega) (by have := HXL.out; have := HB2.out.size; simp; omega) (W2.heap.size + 1) (by simp) ?_); intro g2 cap2 w1 hown' hgrow hat hlt2; have HOW8 := Lib.hid hown'; have HG8 := Lib.hid hgrow; have HLOC8 := Lib.hid hat; have HS8 := Lib.hid (HSG.out _ _ _ HB2.out hgrow); obtain ⟨x4, x5, x6⟩ := HX8.out _ _ _ HB2.out hgrow; clear hown' hgrow hat
          refine hK.out _ _ HS8.out (fun hHeld => ?_)
          clear hK K
          (try simp only [Act.put, List.setIfInBounds_toArray, List.set_cons_zero, List.set_cons_succ, List.getElem_toArray, List.getElem_cons_succ, List.getElem_cons_zero])
          refine wpAnyH_take (i := 9) (oi := _) (v := ?_) rfl (by kernel_rfl) (by kernel_rfl) (by kernel_rfl) (fun _ _ _ h => h) (Or.inl ⟨by rfl, ?_⟩) (by assumption) ?_
          rotate_left
          focus (intro w' hSw; (try dsimp only at hSw); go_simp; try with_reducible rfl)
          (try simp only [Act.put, List.setIfInBounds_toArray, List.set_cons_zero, List.set_cons_succ, List.getElem_toArray, List.getElem_cons_succ, List.getElem_cons_zero])
          refine wpAnyH_take (i := 10) (oi := _) (v := ?_) rfl (by kernel_rfl) (by kernel_rfl) (by kernel_rfl) (fun _ _ _ h => h) (Or.inl ⟨by rfl, ?_⟩) (by assumption) ?_
          rotate_left
          focus (intro w' hSw; (try dsimp only at hSw); go_simp; try with_reducible rfl)
          (try simp only [Act.put, List.setIfInBounds_toArray, List.set_cons_zero, List.set_cons_succ, List.getElem_toArray, List.getElem_cons_succ, List.getElem_cons_zero])
          refine wpAnyH_ready (rs := [11]) (by kernel_rfl) (by simp) ?_
          refine AllReadyH.cons (o := _) rfl (fun K hK => ?_) AllReadyH.nil
          go_simp
          refine hK.out _ _ (HSF0.out _ _ HS8.out) (fun hHeld => ?_)
          clear hK K
          (try simp only [Act.put, List.setIfInBounds_toArray, List.set_cons_zero, List.set_cons_succ, List.getElem_toArray, List.getElem_cons_succ, List.getElem_cons_zero])
          refine wpAnyH_done (by kernel_rfl) ?_ _
          go_simp
          go_wp2_with fail
          rw [← HPP.out]
          exact HFIN.out _ _ _ _ _ _ _ HB2.out HD2.out HOW8.out HG8.out HLOC8.out
        refine AllReadyH.cons (o := _) rfl (fun K hK => ?_) AllReadyH.nil
        go_simp; have HBn : Hid (Below Wx.heap.size Wx (W2.alloc (.cells #[.int .i64 m.id, .string m.tp, .int .i64 m.kd, .int .i64 m.di, .int .u64 m.db, .string m.ds, .slice aq an ac, .int .i64 m.at_, .int .i64 m.un, .string m.rp, .int .i64 m.co, .int .i64 m.pr, .int .i64 m.ho] 36))) := HB2.out.alloc HB2.out.size _; have HS7 := Lib.hid (HSS.out _ HBn.out)
        refine hK.out _ _ HS7.out (fun hHeld => ?_)
        clear hK K
        (try simp only [Act.put, List.setIfInBounds_toArray, List.set_cons_zero, List.set_cons_succ, List.getElem_toArray, List.getElem_cons_succ, List.getElem_cons_zero])
        refine wpAnyH_ready (rs := [4]) (by kernel_rfl) (by simp) ?_
        refine AllReadyH.cons (o := _) rfl (fun K hK => ?_) AllReadyH.nil
        go_simp
        refine hK.out _ _ HS7.out (fun hHeld => ?_)
        clear hK K
        (try simp only [Act.put, List.setIfInBounds_toArray, List.set_cons_zero, List.set_cons_succ, List.getElem_toArray, List.getElem_cons_succ, List.getElem_cons_zero])
        refine wpAnyH_ready (rs := [8]) (by kernel_rfl) (by simp) ?_
        refine AllReadyH.cons (o := _) rfl (fun K hK => ?_) AllReadyH.nil
        (refine step_append_lies _ (by rfl) _ _ _ (by rfl) (w.heap.size + 1) 36 i0 msgZero 13 144 Tryz.underlying30 hi' hz0 hz1 hz2 rfl (by decide) (.slice q5 rs.length c5) rs.length (rowM rs) (by rfl) (HRW2.out.alloc _) ⟨W2.heap.size, 0, none⟩ 1 1 [.int .i64 m.id, .string m.tp, .int .i64 m.kd, .int .i64 m.di, .int .u64 m.db, .string m.ds, .slice aq an ac, .int .i64 m.at_, .int .i64 m.un, .string m.rp, .int .i64 m.co, .int .i64 m.pr, .int .i64 m.ho] (by rfl) rfl (news13 W2 _ _) (by intro u hu; simp at hu; rcases hu with rfl | rfl | rfl | rfl | rfl | rfl | rfl | rfl | rfl | rfl | rfl | rfl | rfl <;> rfl) (by decide) (by unfold maxLen; omega) (by omega) (by have := HXL.out; have := HB2.out.size; simp; omega) (W2.heap.size + 1) (by simp) ?_); intro g2 cap2 w1 hown' hgrow hat hlt2; have HOW8 := Lib.hid hown'; have HG8 := Lib.hid hgrow; have HLOC8 := Lib.hid hat; have HS8 := Lib.hid (HSG.out _ _ _ HB2.out hgrow); obtain ⟨x4, x5, x6⟩ := HX8.out _ _ _ HB2.out hgrow; clear hown' hgrow hat
        refine hK.out _ _ HS8.out (fun hHeld => ?_)
        clear hK K
        (try simp only [Act.put, List.setIfInBounds_toArray, List.set_cons_zero, List.set_cons_succ, List.getElem_toArray, List.getElem_cons_succ, List.getElem_cons_zero])
        refine wpAnyH_take (i := 9) (oi := _) (v := ?_) rfl (by kernel_rfl) (by kernel_rfl) (by kernel_rfl) (fun _ _ _ h => h) (Or.inl ⟨by rfl, ?_⟩) (by assumption) ?_
        rotate_left
        focus (intro w' hSw; (try dsimp only at hSw); go_simp; try with_reducible rfl)
        (try simp only [Act.put, List.setIfInBounds_toArray, List.set_cons_zero, List.set_cons_succ, List.getElem_toArray, List.getElem_cons_succ, List.getElem_cons_zero])
        refine wpAnyH_take (i := 10) (oi := _) (v := ?_) rfl (by kernel_rfl) (by kernel_rfl) (by kernel_rfl) (fun _ _ _ h => h) (Or.inl ⟨by rfl, ?_⟩) (by assumption) ?_
        rotate_left
        focus (intro w' hSw; (try dsimp only at hSw); go_simp; try with_reducible rfl)
        (try simp only [Act.put, List.setIfInBounds_toArray, List.set_cons_zero, List.set_cons_succ, List.getElem_toArray, List.getElem_cons_succ, List.getElem_cons_zero])
        refine wpAnyH_ready (rs := [11]) (by kernel_rfl) (by simp) ?_
        refine AllReadyH.cons (o := _) rfl (fun K hK => ?_) AllReadyH.nil
        go_simp
        refine hK.out _ _ (HSF0.out _ _ HS8.out) (fun hHeld => ?_)
        clear hK K
        (try simp only [Act.put, List.setIfInBounds_toArray, List.set_cons_zero, List.set_cons_succ, List.getElem_toArray, List.getElem_cons_succ, List.getElem_cons_zero])
        refine wpAnyH_done (by kernel_rfl) ?_ _
        go_simp
        go_wp2_with fail
        rw [← HPP.out]
        exact HFIN.out _ _ _ _ _ _ _ HB2.out HD2.out HOW8.out HG8.out HLOC8.out
end
section
open Go Go.RowKit

/-- one message a topic -/
def GoodL (L : List AM) : Prop := (L.map (·.tp)).Nodup ∧ ∀ x ∈ L, x.tp.size ≤ 1048576
theorem goodL_nil : GoodL [] := ⟨List.nodup_nil, fun x h => by cases h⟩
theorem HubS.goodL {w0 W : World} {P : Nat → Prop} {hb : Nat} {st : HSt} {L : List AM} {sz gn kn : Nat} (h : HubS w0 W P hb st L sz gn kn) : GoodL L := by
  obtain ⟨H, kn', KD, KB, ms, -, h2, -, rfl, -⟩ := h
  refine ⟨?_, fun x hx => ?_⟩
  · rw [List.map_map]
    exact h2.kept.keys
  · obtain ⟨m, hm, rfl⟩ := List.mem_map.1 hx
    exact (h2.kept.each m hm).2.2
theorem restA_sub (L : List AM) (s : ByteArray) : (restA L s).Sublist L := List.filter_sublist
theorem keepA_len (L : List AM) (m : AM) : (keepA L m).2.length ≤ L.length + 1 := by
  have h := (restA_sub L m.tp).length_le
  unfold keepA
  split
  · exact Nat.le_trans h (Nat.le_succ _)
  · show (restA L m.tp ++ [m]).length ≤ _
    rw [List.length_append]
    exact Nat.succ_le_succ h
theorem am_eq {L : List AM} (hL : GoodL L) {x y : AM} (hx : x ∈ L) (hy : y ∈ L) (e : x.tp = y.tp) : x = y := by
  rcases pair_mem (List.pairwise_map.1 hL.1) (fun a b hab e => hab e.symm) hx hy with h1 | h1
  · exact h1
  · exact absurd e h1
theorem ltB_irr {t : ByteArray} : ¬ t.data.toList < t.data.toList := List.lt_irrefl _
theorem tps_rise {a : List AM} (h : a.Pairwise (fun x y => x.tp.data.toList < y.tp.data.toList)) : (a.map (·.tp)).Pairwise ltB := List.pairwise_map.2 h
/-- the answer is one -/
theorem keptA_fun {L : List AM} (hL : GoodL L) {s : ByteArray} {a b : List AM} (h : KeptA L s a) (k : KeptA L s b) : a = b := by
  have hm : ∀ x, x ∈ a ↔ x ∈ b := fun x => (h.mem x).trans (k.mem x).symm
  have ht : a.map (·.tp) = b.map (·.tp) := sorted_ext ord_text (tps_rise h.rise) (tps_rise k.rise) fun t => by
    constructor
    · intro ht
      obtain ⟨x, hx, rfl⟩ := List.mem_map.1 ht
      exact List.mem_map.2 ⟨x, (hm x).1 hx, rfl⟩
    · intro ht
      obtain ⟨x, hx, rfl⟩ := List.mem_map.1 ht
      exact List.mem_map.2 ⟨x, (hm x).2 hx, rfl⟩
  have hlen : a.length = b.length := by have := congrArg List.length ht; simpa using this
  refine List.ext_getElem hlen fun i h1 h2 => ?_
  have ha := List.getElem_mem h1
  have hb := List.getElem_mem h2
  refine am_eq hL ((h.mem _).1 ha).1 ((k.mem _).1 hb).1 ?_
  have e1 : (a.map (·.tp))[i]? = some (a[i]).tp := by rw [List.getElem?_map, List.getElem?_eq_getElem h1]; rfl
  have e2 : (b.map (·.tp))[i]? = some (b[i]).tp := by rw [List.getElem?_map, List.getElem?_eq_getElem h2]; rfl
  rw [ht, e2] at e1
  injection e1 with e1
  exact e1.symm
/-- those of a topic -/
def ofTp (L : List AM) (t : ByteArray) : List AM := L.filter fun x => decide (x.tp.data.toList = t.data.toList)
theorem mem_ofTp {L : List AM} {t : ByteArray} {x : AM} : x ∈ ofTp L t ↔ x ∈ L ∧ x.tp = t := by
  unfold ofTp
  rw [List.mem_filter, decide_eq_true_iff]
  exact and_congr_right fun _ => ⟨fun h => ByteArray.ext (Array.ext' h), fun h => by rw [h]⟩
theorem ofTp_pair {L : List AM} (hL : GoodL L) (t : ByteArray) : (ofTp L t).Pairwise (fun x y => x.tp.data.toList < y.tp.data.toList) := by
  have h1 : ((ofTp L t).map (·.tp)).Nodup := (List.filter_sublist.map _).nodup hL.1
  have h2 := List.pairwise_map.1 h1
  refine List.Pairwise.imp_of_mem (fun {a b} ha hb hab => ?_) h2
  exact absurd ((mem_ofTp.1 ha).2.trans (mem_ofTp.1 hb).2.symm) hab
/-- topic by topic -/
def told (L : List AM) (T : List ByteArray) : List AM := T.flatMap (ofTp L)
theorem told_snoc {L : List AM} {T : List ByteArray} {i : Nat} {t : ByteArray} (h : T[i]? = some t) : told L (T.take (i + 1)) = told L (T.take i) ++ ofTp L t := by
  unfold told
  rw [List.take_add_one, h, Option.toList_some, List.flatMap_append, List.flatMap_singleton]
theorem mem_told {L : List AM} {T : List ByteArray} {x : AM} : x ∈ told L T ↔ x ∈ L ∧ x.tp ∈ T := by
  unfold told
  rw [List.mem_flatMap]
  constructor
  · rintro ⟨t, ht, h⟩
    obtain ⟨h1, rfl⟩ := mem_ofTp.1 h
    exact ⟨h1, ht⟩
  · rintro ⟨h1, h2⟩
    exact ⟨_, h2, mem_ofTp.2 ⟨h1, rfl⟩⟩
theorem told_rise {L : List AM} (hL : GoodL L) : ∀ {T : List ByteArray}, T.Pairwise ltB → (told L T).Pairwise (fun x y => x.tp.data.toList < y.tp.data.toList)
  | [], _ => List.Pairwise.nil
  | t :: T, h => by
    obtain ⟨h1, h2⟩ := List.pairwise_cons.1 h
    have e : told L (t :: T) = ofTp L t ++ told L T := List.flatMap_cons
    rw [e]
    refine List.pairwise_append.2 ⟨ofTp_pair hL t, told_rise hL h2, fun a ha b hb => ?_⟩
    obtain ⟨-, rfl⟩ := mem_ofTp.1 ha
    exact h1 _ (mem_told.1 hb).2
theorem told_kept {L : List AM} (hL : GoodL L) {s f : ByteArray} (hf : keptF s = some f) {T : List ByteArray} (hT : T.Pairwise ltB) (hM : ∀ t, t ∈ T ↔ ∃ x ∈ L, x.tp = t ∧ matchB f x.tp = true) : KeptA L s (told L T) := by
  refine ⟨told_rise hL hT, fun x => ?_⟩
  rw [mem_told, hM]
  constructor
  · rintro ⟨h1, y, h2, h3, h4⟩
    exact ⟨h1, f, hf, by rw [← h3]; exact h4⟩
  · rintro ⟨h1, f', h2, h3⟩
    rw [hf] at h2
    injection h2 with h2
    subst h2
    exact ⟨h1, x, h1, rfl, h3⟩
theorem keptA_none {L : List AM} {s : ByteArray} (hf : keptF s = none) : KeptA L s [] :=
  ⟨List.Pairwise.nil, fun x => Iff.intro (fun h => (by cases h)) (fun ⟨_, f, h1, _⟩ => (by rw [hf] at h1; cases h1))⟩
theorem told_len {L : List AM} (hL : GoodL L) {T : List ByteArray} (hT : T.Pairwise ltB) : (told L T).length ≤ L.length := by
  have h1 : ((told L T).map (·.tp)).Nodup := (tps_rise (told_rise hL hT)).imp fun {a b} h e => by subst e; exact ltB_irr h
  have h2 := nodup_le h1 (fun t ht => by
    obtain ⟨x, hx, rfl⟩ := List.mem_map.1 ht
    exact List.mem_map.2 ⟨x, (mem_told.1 hx).1, rfl⟩ : ∀ t ∈ (told L T).map (·.tp), t ∈ L.map (·.tp))
  rwa [List.length_map, List.length_map] at h2
end
section
open Go Go.RowKit
attribute [local go_sem ↓] Go.wp_at_zero Go.wp_at_succ

def RKeptPost (w : World) (L : List AM) (s : ByteArray) (e : Ending) (w' : World) : Prop := ∃ (v : Value) (out : List Mg), e = .returned v ∧ MRow w' w.heap.size v out ∧ KeptA L s (out.map Mg.am) ∧ (∀ m ∈ out, DvIn (RowP w.heap.size w' v) w' m.f m.body m.t ∧ DvSm m.f m.t) ∧ Below w.heap.size w w'
/-- the messages gathered so far -/
structure OutR (A W : World) (v : Value) (out : List Mg) : Prop where
  row : MRow W A.heap.size v out
  parts : ∀ m ∈ out, DvIn (RowP A.heap.size W v) W m.f m.body m.t ∧ DvSm m.f m.t
  bel : Below A.heap.size A W
theorem OutR.below {A W W' : World} {v : Value} {out : List Mg} (h : OutR A W v out) (hb : Below W.heap.size W W') : OutR A W' v out :=
  ⟨row_of_heap h.row fun b hv => hb.block b (h.row.lt b hv).2, fun m hm => ⟨(h.parts m hm).1.kept fun b hb2 hl => ⟨hb.block b hl, hb2.1, Nat.lt_of_lt_of_le hl hb.size, hb2.2.2⟩, (h.parts m hm).2⟩, h.bel.trans (hb.mono h.bel.size)⟩
theorem OutR.add {A W W4 w6 : World} {v v2 : Value} {out : List Mg} {m' : Mg} (h : OutR A W v out) (hb : Below W.heap.size W W4) (hd : DvIn (Fresh W W4) W4 m'.f m'.body m'.t) (hsm : DvSm m'.f m'.t) (o : Obj) (hg : (W4.alloc o).grownBy w6 v.ownBlock) (hloc : v2.ownBlock = v.ownBlock ∨ v2.ownBlock = some (W4.alloc o).heap.size)
    (hown : w6.ownsRow A.heap.size 36 13 v2 (out.length + 1) (rowM out ++ m'.cells)) : OutR A w6 v2 (out ++ [m']) := by
  have h4 := h.below hb
  have hl := h4.row.lt
  have hl0 := h.row.lt
  have hA := h.bel.size
  have hs := hb.size
  have hsz : (W4.alloc o).heap.size = W4.heap.size + 1 := by simp
  have hgs := hg.size
  have hne : ∀ c, c < W4.heap.size → some c ≠ v.ownBlock → some c ≠ v2.ownBlock := fun c h1 h2 e => by
    rcases hloc with e2 | e2
    · exact h2 (e.trans e2)
    · rw [e2] at e; injection e with e; omega
  refine ⟨?_, fun x hx => ?_, ?_⟩
  · have e : rowM (out ++ [m']) = rowM out ++ m'.cells := by unfold rowM; simp
    unfold MRow
    rw [e, List.length_append]
    exact hown
  · rcases List.mem_append.1 hx with hx | hx
    · obtain ⟨h1, h2⟩ := h4.parts x hx
      exact ⟨h1.kept fun c hc hlt => ⟨(hg.block c (by omega) hc.2.2).trans (Below.heap_alloc _ _ _ hlt), hc.1, by omega, hne c hlt hc.2.2⟩, h2⟩
    · rw [List.mem_singleton] at hx
      subst hx
      refine ⟨hd.kept fun c hc hlt => ?_, hsm⟩
      have hc1 : W.heap.size ≤ c := hc.1
      have hcv : some c ≠ v.ownBlock := fun e => by have := (hl0 c e.symm).2; omega
      exact ⟨(hg.block c (by omega) hcv).trans (Below.heap_alloc _ _ _ hlt), by omega, by omega, hne c hlt hcv⟩
  · exact (h4.bel.alloc h4.bel.size o).grown hg (by have := h4.bel.size; omega) (fun k hk => by have := (hl k hk).1; omega)
theorem ofTp_snoc {L : List AM} {k : Nat} {x : AM} {t : ByteArray} (h : L[k]? = some x) : ofTp (L.take (k + 1)) t = ofTp (L.take k) t ++ (if x.tp = t then [x] else []) := by
  unfold ofTp
  rw [List.take_add_one, h, Option.toList_some, List.filter_append]
  congr 1
  by_cases e : x.tp = t
  · rw [if_pos e, List.filter_cons_of_pos (by rw [e]; simp), List.filter_nil]
  · rw [if_neg e, List.filter_cons_of_neg (by rw [decide_eq_true_iff]; exact fun e2 => e (ByteArray.ext (Array.ext' e2))), List.filter_nil]
theorem ofTp_len (L : List AM) (t : ByteArray) : (ofTp L t).length ≤ L.length := List.filter_sublist.length_le
set_option maxRecDepth 100000 in
set_option maxHeartbeats 8000000 in
theorem refKept_any (w0 w : World) (P : Nat → Prop) (rb : Nat) (st : HSt) (L : List AM) (s : ByteArray) (h : RefS w0 w P rb st L) (hGd : GoodL L) (hB : Below w0.heap.size w0 w) (hT0 : Tabs w0) (hs : s.size ≤ 1048576) (hL : L.length ≤ 10000000) :
    Calls Tryz.prog 53 #[.pointer (some ⟨rb, 0, none⟩), .string s] w (RKeptPost w L s) := by
  obtain ⟨PP, hPP⟩ : ∃ PP : Ending → World → Prop, RKeptPost w L s = PP := ⟨_, rfl⟩
  rw [hPP]
  have HPP := Lib.hid hPP
  have hT := hT0.below hB
  have HT := Lib.hid hT
  have HGD := Lib.hid hGd
  have CS : Hid (Calls Tryz.prog 54 #[.string s] w (SplitPost s w)) := refSplit_any s w hs hT
  obtain ⟨vs, vg, vm, gs, ms, KB, h1, -, h3, -, -⟩ := h
  have HR := Lib.hid h1
  have HAM := Lib.hid h3
  have hml : ms.length ≤ 10000000 := by rw [← h3, List.length_map] at hL; exact hL
  have hml2 : L.length = ms.length := by rw [← h3, List.length_map]
  obtain ⟨qm, cm, rfl⟩ : ∃ q c, vm = .slice q ms.length c := MRow.slice h1.msgs
  have HTP : Hid (∀ x ∈ ms, x.tp.size ≤ 1048576) := fun x hx => by
    have := hGd.2 x.am (by rw [← h3]; exact List.mem_map.2 ⟨x, hx, rfl⟩)
    exact this
  have hbl := h1.blt
  clear hPP hT hT0 hGd hB h1 h3 hL
  cases hk : splitK s with
  | none =>
    have HSV := Lib.hid (split_no hk)
    have HF : Hid (keptF s = none) := by show keptF s = none; unfold keptF; rw [hk]
    clear hk
    go_enter Tryz.func53, Tryz.ntmps53
    go_wp2_with fail
    refine CS.out.mono ?_
    rintro e w1 ⟨rfl, hb1⟩
    rw [HSV.out]
    have HB1 := Lib.hid hb1
    clear hb1
    go_wp2_with fail
    rw [← HPP.out]
    exact ⟨_, [], rfl, World.ownsRow_nil _ _ _ _, keptA_none HF.out, fun m hm => (by cases hm), HB1.out⟩
  | some x =>
    obtain ⟨n, f⟩ := x
    have HSV := Lib.hid (split_yes hk)
    have hfs : f.size ≤ s.size := split_size hk
    by_cases hn : n.size = 0
    · have hl1 : n.toList = [] := by rw [ByteArray.toList_eq]; exact List.eq_nil_of_length_eq_zero (by rw [show n.data.toList.length = n.size from Array.length_toList]; exact hn)
      have hl2 : n.toList.isEmpty = true := by rw [hl1]; rfl
      have hn2 : n = ByteArray.empty := by apply bytes_inj; rw [← ByteArray.toList_eq, hl1]; rfl
      subst hn2
      have HF : Hid (keptF s = some f) := by show keptF s = some f; unfold keptF; rw [hk]; exact if_pos hn
      clear hk hn
      go_enter Tryz.func53, Tryz.ntmps53
      go_wp2_with fail
      refine CS.out.mono ?_
      rintro e w1 ⟨rfl, hb1⟩
      rw [HSV.out]
      have HB1 := Lib.hid hb1
      have HR1 := Lib.hid (HR.out.below hb1)
      clear hb1
      go_wp2_with fail
      go_loopw [8, 9] (fun s8 s9 wr => ∃ (i : Nat) (q8 : Option Addr) (c8 : Nat) (K : List ByteArray), s8 = .slice q8 K.length c8 ∧ s9 = .int .i64 (i : Nat) ∧ i ≤ ms.length ∧ Hid (SRow wr w1.heap.size (.slice q8 K.length c8) K) ∧ Hid (K.Pairwise ltB) ∧ Hid (∀ k, k ∈ K ↔ ∃ g ∈ ms.take i, g.tp = k ∧ matchB f g.tp = true) ∧ K.length ≤ i ∧ Hid (Below w1.heap.size w1 wr)) (fun _ s9 _ => ms.length - (intOf s9).toNat)
      case atStart => exact ⟨0, none, 0, [], rfl, rfl, Nat.zero_le _, SRow.nil _ _, List.Pairwise.nil, fun k => by simp, Nat.le_refl _, Below.refl _ _⟩
      case round =>
        obtain ⟨i, q8, c8, K, rfl, rfl, hi, hS, hW, hM, hLn, hB⟩ := hrel
        have HRr := Lib.hid (HR1.out.below hB.out)
        have k0 := HRr.out.cells.2.2
        have kb := HRr.out.blt
        by_cases hlt : i < ms.length
        · obtain ⟨x, hx⟩ : ∃ x, ms[i]? = some x := ⟨_, List.getElem?_eq_getElem hlt⟩
          obtain ⟨g, rfl, gl, -, e1, -⟩ := MRow.at_ HRr.out.msgs hx
          have hltI : (i : Int) < (ms.length : Int) := by omega
          have hi0 : (0 : Int) ≤ (i : Int) := by omega
          have HTM := Lib.hid (take_mem hx)
          have hxs := HTP.out x (List.mem_of_getElem? hx)
          have HX := Lib.hid hx
          clear hx
          have HTw := Lib.hid (HT.out.below (HB1.out.trans (hB.out.mono HB1.out.size)))
          cases hm : matchB f x.tp with
          | false =>
            have HNO : Hid (¬ matchB f x.tp = true) := by rw [hm]; exact Bool.false_ne_true
            have CM' := refMatch_any valid_said f x.tp wr (by omega) hxs HTw.out
            rw [hm] at CM'
            have CM2 := Lib.hid CM'
            clear CM' hm
            go_wp2_with (go_at_call 82; refine CM2.out.mono ?_; rintro e w2 ⟨rfl, hb2⟩; have HB2 := Lib.hid (hB.out.trans (hb2.mono hB.out.size)); have HS2 : Hid (SRow w2 w1.heap.size (.slice q8 K.length c8) K) := row_of_heap hS.out (fun b hv => hb2.block b (hS.out.lt b hv).2); clear hb2)
            go_roundw
            case rel =>
              refine ⟨i + 1, q8, c8, K, rfl, by go_num, by omega, HS2.out, hW.out, fun k => ?_, by omega, HB2.out⟩
              rw [hM.out]
              constructor
              · rintro ⟨g', h1, h2⟩; exact ⟨g', (HTM.out _).2 (.inl h1), h2⟩
              · rintro ⟨g', h1, h2, h3⟩
                rcases (HTM.out _).1 h1 with h1 | h1
                · exact ⟨g', h1, h2, h3⟩
                · exact absurd h3 (by subst h1; exact HNO.out)
            case measure => simp [intOf]; omega
          | true =>
            have HYES : Hid (matchB f x.tp = true) := hm
            have CM' := refMatch_any valid_said f x.tp wr (by omega) hxs HTw.out
            rw [hm] at CM'
            have CM2 := Lib.hid CM'
            clear CM' hm
            go_wp2_with (go_at_call 82; refine CM2.out.mono ?_; rintro e w2 ⟨rfl, hb2⟩; have HB2 := Lib.hid (hB.out.trans (hb2.mono hB.out.size)); have HS2 : Hid (SRow w2 w1.heap.size (.slice q8 K.length c8) K) := row_of_heap hS.out (fun b hv => hb2.block b (hS.out.lt b hv).2); have k2 := (hb2.cell (p := ⟨rb, 2, none⟩) kb).trans k0; have e2 := (hb2.cell (p := ⟨g, i * 13 + 1, none⟩) gl).trans e1; have kb2 := Nat.lt_of_lt_of_le kb hb2.size; have gl2 := Nat.lt_of_lt_of_le gl hb2.size; clear hb2)
            have HMEM2 : Hid (∀ k, k ∈ putL ltB K x.tp ↔ ∃ g' ∈ ms.take (i + 1), g'.tp = k ∧ matchB f g'.tp = true) := fun k => by
              rw [putL_mem, hM.out]
              constructor
              · rintro (h1 | ⟨f', h1, h2⟩)
                · subst h1; exact ⟨x, (HTM.out _).2 (.inr rfl), rfl, HYES.out⟩
                · exact ⟨f', (HTM.out _).2 (.inl h1), h2⟩
              · rintro ⟨f', h1, h2, h3⟩
                rcases (HTM.out _).1 h1 with h1 | h1
                · exact .inr ⟨f', h1, h2, h3⟩
                · exact .inl (by subst h1; exact h2.symm)
            have HWP := Lib.hid (putL_sorted ord_text hW.out x.tp)
            have hLP := putL_len (lt := ltB) K x.tp
            go_wp2_with fail
            refine (refWordO_any w2 w1.heap.size _ K x.tp HS2.out HB2.out.size hW.out (by omega)).mono ?_
            rintro e wp ⟨⟨vp, rfl, hp⟩, hbp⟩
            obtain ⟨qp, cp, rfl⟩ : ∃ qp cp, vp = .slice qp (putL ltB K x.tp).length cp := (Fl.of_own hp).form
            have HBP := Lib.hid (HB2.out.trans (hbp.mono HB2.out.size))
            have HP := Lib.hid hp
            clear hbp hp
            generalize putL ltB K x.tp = idp at *
            go_wp2_with fail
            go_roundw
            case rel => exact ⟨i + 1, qp, cp, idp, rfl, by go_num, by omega, HP.out, HWP.out, HMEM2.out, by omega, HBP.out⟩
            case measure => simp [intOf]; omega
        · have hltI : ¬ ((i : Int) < (ms.length : Int)) := by omega
          obtain rfl : i = ms.length := by omega
          rw [List.take_length] at hM
          have HKM : Hid (∀ t, t ∈ K ↔ ∃ x ∈ L, x.tp = t ∧ matchB f x.tp = true) := fun t => by
            rw [hM.out, ← HAM.out]
            exact Iff.intro (fun ⟨x, h1, h2, h3⟩ => ⟨x.am, List.mem_map.2 ⟨x, h1, rfl⟩, h2, h3⟩) (fun ⟨x, h1, h2, h3⟩ => (by
              obtain ⟨y, hy, rfl⟩ := List.mem_map.1 h1
              exact ⟨y, hy, h2, h3⟩))
          go_wp2_with fail
          obtain ⟨A, hA⟩ : ∃ A, wr = A := ⟨_, rfl⟩
          rw [hA] at HRr hS hB k0 kb ⊢
          clear hA
          obtain ⟨i0, hi', hz0, hz1, hz2⟩ := info_parts info_msg
          go_loopw [10, 11] (fun s10 s11 W => ∃ (j : Nat) (q10 : Option Addr) (c10 : Nat) (out : List Mg), s10 = .slice q10 out.length c10 ∧ s11 = .int .i64 (j : Nat) ∧ j ≤ K.length ∧ Hid (OutR A W (.slice q10 out.length c10) out) ∧ Hid (out.map Mg.am = told L (K.take j))) (fun _ s11 _ => K.length - (intOf s11).toNat)
          case atStart => exact ⟨0, none, 0, [], rfl, rfl, Nat.zero_le _, ⟨World.ownsRow_nil _ _ _ _, fun m hm => (by cases hm), Below.refl _ _⟩, by rw [List.take_zero]; rfl⟩
          case round =>
            obtain ⟨j, q10, c10, out, rfl, rfl, hj, HO, HTO⟩ := hrel
            by_cases hlt : j < K.length
            · obtain ⟨t, ht⟩ : ∃ t, K[j]? = some t := ⟨_, List.getElem?_eq_getElem hlt⟩
              have hltI : (j : Int) < (K.length : Int) := by omega
              have hj0 : (0 : Int) ≤ (j : Int) := by omega
              have HTN := Lib.hid (told_snoc (L := L) ht)
              have hbd : (told L (K.take j)).length ≤ L.length := told_len HGD.out (hW.out.sublist (List.take_sublist _ _))
              obtain ⟨gk, rfl⟩ := hS.out.some_ptr (by omega)
              have EK := Lib.hid (hS.out.cell ht)
              clear ht
              go_wp2_with fail
              go_loopw [10, 12] (fun s10 s12 W => ∃ (k : Nat) (q10 : Option Addr) (c10 : Nat) (out : List Mg), s10 = .slice q10 out.length c10 ∧ s12 = .int .i64 (k : Nat) ∧ k ≤ ms.length ∧ Hid (OutR A W (.slice q10 out.length c10) out) ∧ Hid (out.map Mg.am = told L (K.take j) ++ ofTp (L.take k) t)) (fun _ s12 _ => ms.length - (intOf s12).toNat)
              case atStart => exact ⟨0, q10, c10, out, rfl, rfl, Nat.zero_le _, HO.out, by rw [List.take_zero]; show _ = told L (K.take j) ++ []; rw [List.append_nil]; exact HTO.out⟩
              case round =>
                clear HO HTO
                obtain ⟨k, q10, c10, out, rfl, rfl, hk, HO, HTO⟩ := hrel
                have HRw := Lib.hid (HRr.out.below HO.out.bel)
                have k2 := HRw.out.cells.2.2
                have kb2 := HRw.out.blt
                by_cases hlt : k < ms.length
                · obtain ⟨x, hx⟩ : ∃ x, ms[k]? = some x := ⟨_, List.getElem?_eq_getElem hlt⟩
                  obtain ⟨g, rfl, gl, e0, e1, e2, e3, e4, e5, e6, e7, e8, e9, e10, e11, e12⟩ := MRow.at_ HRw.out.msgs hx
                  have hltI2 : (k : Int) < (ms.length : Int) := by omega
                  have hk0 : (0 : Int) ≤ (k : Int) := by omega
                  have ek := (HO.out.bel.cell (p := ⟨gk, j, none⟩) (World.block_lt_of_cell? A _ EK.out)).trans EK.out
                  have gkl : gk < wr.heap.size := World.block_lt_of_cell? wr _ ek
                  have hLx : L[k]? = some x.am := by rw [← HAM.out, List.getElem?_map, hx]; rfl
                  have HSN := Lib.hid (ofTp_snoc (t := t) hLx)
                  have hol : out.length ≤ 100000000 := by
                    have e := congrArg List.length HTO.out
                    rw [List.length_map, List.length_append] at e
                    have := ofTp_len (L.take k) t
                    rw [List.length_take] at this
                    omega
                  by_cases he : x.tp = t
                  · have t1 : (x.tp.toList == t.toList) = true := by rw [he]; simp
                    have HE2 : Hid (out.map Mg.am ++ [x.am] = told L (K.take j) ++ ofTp (L.take (k + 1)) t) := by
                      show _ = _
                      rw [HSN.out, if_pos (show x.am.tp = t from he), HTO.out, List.append_assoc]
                    obtain ⟨hbx, hbs, -⟩ := HRw.out.body x (List.mem_of_getElem? hx)
                    have HDX := Lib.hid hbx.is
                    have HSX := Lib.hid hbs
                    have CC : Hid (∀ W, Below wr.heap.size wr W → Calls Tryz.prog 50 #[.agg #[.int .i64 x.id, .string x.tp, .int .i64 x.kd, .int .i64 x.di, .int .u64 x.db, .string x.ds, .slice x.q x.n x.c, .int .i64 x.at_, .int .i64 x.un, .string x.rp, .int .i64 x.co, .int .i64 x.pr, .int .i64 x.ho]] W (CopyPost W x)) := fun W hW => copyMsg_any W x (DvIs.below hW HDX.out) HSX.out
                    clear hbx hbs he hx hLx
                    have HBQ : Hid (∀ n, Below wr.heap.size wr (wr.drewN n)) := fun n => below_drewN' (Below.refl _ _) n
                    go_wp2_with fail
                    go_quiet (fail)
                    go_wp2_with fail
                    refine (CC.out _ (HBQ.out _)).mono ?_
                    rintro e w4 ⟨aq, an, ac, rfl, hb4, hd4⟩
                    have HB4 : Hid (Below wr.heap.size wr w4) := (HBQ.out _).trans hb4
                    have HD4 : Hid (DvIn (Fresh wr w4) w4 x.f [.int .i64 x.kd, .int .i64 x.di, .int .u64 x.db, .string x.ds, .slice aq an ac] x.t) := hd4
                    have HO4 := Lib.hid (HO.out.below HB4.out)
                    have hal : A.heap.size ≤ w4.heap.size := HO4.out.bel.size
                    clear hb4 hd4
                    go_wp2_with (at_builtin; refine wpList_append_own_at _ rfl _ _ 30 rfl A.heap.size 36 i0 msgZero 13 144 Tryz.underlying30 hi' hz0 hz1 hz2 rfl (by decide) _ _ _ rfl (HO4.out.row.alloc _) ⟨w4.heap.size, 0, none⟩ 1 1 [.int .i64 x.id, .string x.tp, .int .i64 x.kd, .int .i64 x.di, .int .u64 x.db, .string x.ds, .slice aq an ac, .int .i64 x.at_, .int .i64 x.un, .string x.rp, .int .i64 x.co, .int .i64 x.pr, .int .i64 x.ho] rfl rfl (news13 w4 _ _) (by intro u hu; simp at hu; rcases hu with rfl | rfl | rfl | rfl | rfl | rfl | rfl | rfl | rfl | rfl | rfl | rfl | rfl <;> rfl) (by unfold maxLen; omega) (by omega) (by simp; omega) ?_; intro v2 w6 hown2 hg2 hnil2 hloc2; have HOW2 := Lib.hid hown2; have HG2 := Lib.hid hg2; have HLOC := Lib.hid hloc2; clear hown2 hg2 hnil2 hloc2)
                    have HK : Hid (OutR A w6 v2 (out ++ [{ x with q := aq, n := an, c := ac }])) := HO.out.add (m' := { x with q := aq, n := an, c := ac }) HB4.out HD4.out HSX.out _ HG2.out HLOC.out HOW2.out
                    have HXA : Hid (({ x with q := aq, n := an, c := ac } : Mg).am = x.am) := rfl
                    generalize ({ x with q := aq, n := an, c := ac } : Mg) = x' at HK HXA
                    obtain ⟨q6, c6, rfl⟩ := MRow.slice HK.out.row
                    go_roundw
                    case rel => exact ⟨k + 1, q6, c6, out ++ [x'], rfl, by go_num, by omega, HK.out, by rw [List.map_append, List.map_singleton, HXA.out]; exact HE2.out⟩
                    case measure => simp [intOf]; omega
                  · have t1 : (x.tp.toList == t.toList) = false := tp_ne he
                    have HE2 : Hid (out.map Mg.am = told L (K.take j) ++ ofTp (L.take (k + 1)) t) := by
                      show _ = _
                      rw [HSN.out, if_neg (show ¬ x.am.tp = t from he), List.append_nil]
                      exact HTO.out
                    have HOQ : Hid (∀ n, OutR A (wr.drewN n) (.slice q10 out.length c10) out) := fun n => HO.out.below (below_drewN' (Below.refl _ _) n)
                    clear he hx hLx
                    go_wp2_with fail
                    go_quiet (fail)
                    go_wp2_with fail
                    go_roundw
                    case rel => exact ⟨k + 1, q10, c10, out, rfl, by go_num, by omega, HOQ.out _, HE2.out⟩
                    case measure => simp [intOf]; omega
                · have hltI2 : ¬ ((k : Int) < (ms.length : Int)) := by omega
                  obtain rfl : k = ms.length := by omega
                  have HE2 : Hid (out.map Mg.am = told L (K.take (j + 1))) := by
                    show _ = _
                    rw [HTN.out, HTO.out, ← hml2, List.take_length]
                  go_wp2_with fail
                  go_roundw
                  case rel => exact ⟨j + 1, q10, c10, out, rfl, by go_num, by omega, HO.out, HE2.out⟩
                  case measure => simp [intOf]; omega
            · have hltI : ¬ ((j : Int) < (K.length : Int)) := by omega
              obtain rfl : j = K.length := by omega
              rw [List.take_length] at HTO
              go_wp2_with fail
              rw [← HPP.out]
              have h1 := HB1.out.size
              have h2 := hB.out.size
              refine ⟨_, out, rfl, ownsRow_mono HO.out.row (by omega), ?_, fun m hm => ⟨(HO.out.parts m hm).1.kept fun b hb hl => ⟨rfl, by have := hb.1; omega, hl, hb.2.2⟩, (HO.out.parts m hm).2⟩, HB1.out.trans ((hB.out.trans (HO.out.bel.mono h2)).mono h1)⟩
              rw [HTO.out]
              exact told_kept HGD.out HF.out hW.out HKM.out
    · have hl1 : ¬ n.toList = [] := by rw [ByteArray.toList_eq]; intro e; apply hn; rw [← show n.data.toList.length = n.size from Array.length_toList, e]; rfl
      have hl2 : n.toList.isEmpty = false := by cases hh : n.toList with
        | nil => exact absurd hh hl1
        | cons a b => rfl
      have HF : Hid (keptF s = none) := by show keptF s = none; unfold keptF; rw [hk]; exact if_neg hn
      clear hk hn
      go_enter Tryz.func53, Tryz.ntmps53
      go_wp2_with fail
      refine CS.out.mono ?_
      rintro e w1 ⟨rfl, hb1⟩
      rw [HSV.out]
      have HB1 := Lib.hid hb1
      clear hb1
      go_wp2_with fail
      rw [← HPP.out]
      exact ⟨_, [], rfl, World.ownsRow_nil _ _ _ _, keptA_none HF.out, fun m hm => (by cases hm), HB1.out⟩
end
end Go.Proofs.YtincmegllckcjaaGreatDoor
