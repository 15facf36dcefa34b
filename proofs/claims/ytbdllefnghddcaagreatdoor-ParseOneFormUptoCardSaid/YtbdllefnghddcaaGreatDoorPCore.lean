/- PARSE: a declaration under way: the reader's block, the result's, the declaration's. PARSE: a core. -/
import Derived.Test.YtbdllefnghddcaaGreatDoorParseOne2
import Derived.Test.YtbdllefnghddcaaGreatDoorPMem
namespace Go.Proofs.YtbdllefnghddcaaGreatDoor
section
open Go Go.RowKit

structure Dec (W0 Ws w : World) (B X D : Nat) (T TY : TypeId) (S : Src) (tv nv : Value) (zs cs : Array Value) (a deep : Nat) : Prop where
 at_ : At W0 w B T S tv nv a deep
 gr : Ws.grownBy w (some B)
 res : w.heap[X]? = some (.cells zs TY (0, 0))
 dec : w.heap[D]? = some (.cells cs TY (0, 0))
 bx : B < X
 xd : X < D
 wx : Ws.heap.size ≤ X
section
variable {W0 Ws w w' : World} {B X D : Nat} {T TY : TypeId} {S : Src} {tv nv : Value} {zs cs : Array Value} {a a' deep : Nat}
theorem Dec.dlt (h : Dec W0 Ws w B X D T TY S tv nv zs cs a deep) : D < w.heap.size := (Array.getElem?_eq_some_iff.1 h.dec).1
theorem Dec.call (h : Dec W0 Ws w B X D T TY S tv nv zs cs a deep) (hA : At W0 w' B T S tv nv a' deep) (hg : w.grownBy w' (some B)) : Dec W0 Ws w' B X D T TY S tv nv zs cs a' deep := by
 have hd := h.dlt
 have h1 := h.bx
 have h2 := h.xd
 exact ⟨hA, g_trans h.gr hg, (hg.block X (by omega) (fun e => by injection e with e; omega)).trans h.res, (hg.block D hd (fun e => by injection e with e; omega)).trans h.dec, h1, h2, h.wx⟩
theorem Dec.below (h : Dec W0 Ws w B X D T TY S tv nv zs cs a deep) (hb : Below w.heap.size w w') : Dec W0 Ws w' B X D T TY S tv nv zs cs a deep := h.call (h.at_.below hb) (g_of hb)
theorem Dec.set (h : Dec W0 Ws w B X D T TY S tv nv zs cs a deep) (i : Nat) (v : Value) : Dec W0 Ws (w.setCell ⟨D, i, none⟩ v) B X D T TY S tv nv zs (cs.setIfInBounds i v) a deep := by
 have h1 := h.bx
 have h2 := h.xd
 have hx : X < w.heap.size := (Array.getElem?_eq_some_iff.1 h.res).1
 have hg : w.grownBy (w.setCell ⟨D, i, none⟩ v) (some D) := g_set (g_refl w D) v
 exact ⟨h.at_.fin hg (by omega), g_fin h.gr hg (by have := h.wx; omega), (hg.block X hx (fun e => by injection e with e; omega)).trans h.res, heap_setCell_same w D i _ _ _ h.dec, h1, h2, h.wx⟩
theorem Dec.cell (h : Dec W0 Ws w B X D T TY S tv nv zs cs a deep) {i : Nat} {v : Value} (hv : cs[i]? = some v) : w.cell? ⟨D, i, none⟩ = some v := by rw [cell_of_row _ _ _ _ _ _ h.dec]; exact hv
theorem Dec.free (h : Dec W0 Ws w B X D T TY S tv nv zs cs a deep) (i : Nat) : w.frozen? ⟨D, i, none⟩ = false := frozen_of_row w D i _ _ h.dec
theorem Dec.rcell (h : Dec W0 Ws w B X D T TY S tv nv zs cs a deep) {i : Nat} {v : Value} (hv : zs[i]? = some v) : w.cell? ⟨X, i, none⟩ = some v := by rw [cell_of_row _ _ _ _ _ _ h.res]; exact hv
theorem Dec.rfree (h : Dec W0 Ws w B X D T TY S tv nv zs cs a deep) (i : Nat) : w.frozen? ⟨X, i, none⟩ = false := frozen_of_row w X i _ _ h.res
theorem Dec.fin (h : Dec W0 Ws w B X D T TY S tv nv zs cs a deep) (hg : w.grownBy w' (some X)) : At W0 w' B T S tv nv a deep ∧ Ws.grownBy w' (some B) := ⟨h.at_.fin hg h.bx, g_fin h.gr hg h.wx⟩
theorem Dec.stays (h : Dec W0 Ws w B X D T TY S tv nv zs cs a deep) (hg : w.grownBy w' (some B)) : ∀ b, D < b → b < w.heap.size → w'.heap[b]? = w.heap[b]? ∧ D < b := fun b hb hl => ⟨hg.block b hl (fun e => by injection e with e; have := h.bx; have := h.xd; omega), hb⟩
end
theorem stays_set {w : World} {D i : Nat} {v : Value} : ∀ b, D < b → b < w.heap.size → (w.setCell ⟨D, i, none⟩ v).heap[b]? = w.heap[b]? ∧ D < b := fun b hb _ => ⟨Below.heap_setCell _ _ _ _ (fun e => by have e : b = D := e; omega), hb⟩
end
section
open Go Go.RowKit
attribute [local go_sem ↓] Go.wp_at_zero Go.wp_at_succ

def RepCo (P : Nat → Prop) (w : World) (v : Value) (c : CoreT) : Prop := ∃ cs : List Value, v = .agg cs.toArray ∧ CoreP P w cs c
theorem set6c {W : World} {b : Nat} {t : TypeId} {o0 o1 o2 o3 o4 o5 : Value} (h : W.heap[b]? = some (.cells #[o0, o1, o2, o3, o4, o5] t (0, 0))) (c0 c1 c2 c3 c4 c5 : Value) :
  ((((((W.setCell ⟨b, 0, none⟩ c0).setCell ⟨b, 1, none⟩ c1).setCell ⟨b, 2, none⟩ c2).setCell ⟨b, 3, none⟩ c3).setCell ⟨b, 4, none⟩ c4).setCell ⟨b, 5, none⟩ c5).heap[b]? = some (.cells #[c0, c1, c2, c3, c4, c5] t (0, 0)) ∧ W.grownBy ((((((W.setCell ⟨b, 0, none⟩ c0).setCell ⟨b, 1, none⟩ c1).setCell ⟨b, 2, none⟩ c2).setCell ⟨b, 3, none⟩ c3).setCell ⟨b, 4, none⟩ c4).setCell ⟨b, 5, none⟩ c5) (some b) := by
 have g := gr_refl W (some b)
 have h0 : (W.setCell ⟨b, 0, none⟩ c0).heap[b]? = some (.cells #[c0, o1, o2, o3, o4, o5] t (0, 0)) := heap_setCell_same W b 0 _ _ _ h
 have g0 := gr_set g 0 c0
 generalize W.setCell ⟨b, 0, none⟩ c0 = W0 at h0 g0 ⊢
 have h1 : (W0.setCell ⟨b, 1, none⟩ c1).heap[b]? = some (.cells #[c0, c1, o2, o3, o4, o5] t (0, 0)) := heap_setCell_same W0 b 1 _ _ _ h0
 have g1 := gr_set g0 1 c1
 generalize W0.setCell ⟨b, 1, none⟩ c1 = W1 at h1 g1 ⊢
 have h2 : (W1.setCell ⟨b, 2, none⟩ c2).heap[b]? = some (.cells #[c0, c1, c2, o3, o4, o5] t (0, 0)) := heap_setCell_same W1 b 2 _ _ _ h1
 have g2 := gr_set g1 2 c2
 generalize W1.setCell ⟨b, 2, none⟩ c2 = W2 at h2 g2 ⊢
 have h3 : (W2.setCell ⟨b, 3, none⟩ c3).heap[b]? = some (.cells #[c0, c1, c2, c3, o4, o5] t (0, 0)) := heap_setCell_same W2 b 3 _ _ _ h2
 have g3 := gr_set g2 3 c3
 generalize W2.setCell ⟨b, 3, none⟩ c3 = W3 at h3 g3 ⊢
 have h4 : (W3.setCell ⟨b, 4, none⟩ c4).heap[b]? = some (.cells #[c0, c1, c2, c3, c4, o5] t (0, 0)) := heap_setCell_same W3 b 4 _ _ _ h3
 have g4 := gr_set g3 4 c4
 generalize W3.setCell ⟨b, 4, none⟩ c4 = W4 at h4 g4 ⊢
 have h5 : (W4.setCell ⟨b, 5, none⟩ c5).heap[b]? = some (.cells #[c0, c1, c2, c3, c4, c5] t (0, 0)) := heap_setCell_same W4 b 5 _ _ _ h4
 have g5 := gr_set g4 5 c5
 exact ⟨h5, g5⟩
theorem res_core {W : World} {B : Nat} {cs : Array Value} (h : W.heap[B]? = some (.cells cs 78 (0, 0))) (hs : cs.size = 6) (tmps : Array Value) (h4 : tmps.getD 2 undef = .pointer (some ⟨B, 0, none⟩)) :
  (results Tryz.f121 tmps).run Tryz.prog W = .ok (.agg cs) W := by
 have h4' : tmps[2]?.getD undef = .pointer (some ⟨B, 0, none⟩) := by simpa using h4
 have hl := run_loadVar_row (P := Tryz.prog) W B 78 78 cs (0, 0) _ h Tryz.underlying78 rfl (by rw [hs]; kernel_rfl)
 simp [results, Tryz.results121, h4', asAddr, hl]
set_option maxRecDepth 100000 in
set_option maxHeartbeats 8000000 in
set_option linter.unusedSimpArgs false in
theorem tcore_any {W0 W : World} {B : Nat} {T : TypeId} {S : Src} {tv nv brk : Value} {a deep : Nat} (hC : Cx W0 S tv nv brk) (h : At W0 W B T S tv nv a deep) :
  Calls Tryz.prog 121 #[.pointer (some ⟨B, 0, none⟩)] W (StepPost W0 B T S tv nv brk deep RepCo W (coreP S a)) := by
 obtain ⟨PP, hPP⟩ : ∃ PP : Ending → World → Prop, StepPost W0 B T S tv nv brk deep RepCo W (coreP S a) = PP := ⟨_, rfl⟩
 rw [hPP]
 have HPP := Lib.hid hPP
 obtain ⟨X, hX⟩ : ∃ X, W.heap.size = X := ⟨_, rfl⟩
 obtain ⟨WA, hWA⟩ : ∃ WA, W.alloc (.cells #[.string ⟨#[]⟩, .bool false, .bool false, .int .u64 0, .slice none 0 0, .int .i64 0] 78) = WA := ⟨_, rfl⟩
 have hz := aRow_ hWA hX
 have hbA : Below W.heap.size W WA := by rw [← hWA]; exact (Below.refl _ W).alloc (Nat.le_refl _) _
 have hsA : WA.heap.size = X + 1 := by rw [← hWA, ← hX]; simp
 have hXB : B < X := by have := h.lt; omega
 have HX := Lib.hid hX
 have HWA := Lib.hid hWA
 have HZ := Lib.hid hz
 have HBA := Lib.hid hbA
 have HSA := Lib.hid hsA
 have HC := Lib.hid hC
 have CN := Lib.hid (tname_any hC (h.below hbA))
 have hfew := hC.few
 clear hPP hC h hX hWA hz hbA hsA
 go_enter Tryz.func121, Tryz.ntmps121
 go_upto_region 1 with fail
 rw [HX.out, HWA.out]
 go_wp2_with fail
 cases hn : nameP S a with
 | bad p k =>
  have HN := Lib.hid hn
  rw [hn] at CN
  clear hn
  refine CN.out.mono ?_
  rintro e1 w1 ⟨rfl, h1, h2⟩
  have HE : Hid (coreP S a = .bad p k) := by have e0 := HN.out; show _ = _; simp [coreP, takeP, PR.bind, e0]
  refine ⟨rfl, ?_⟩
  rw [← HPP.out, HE.out]
  exact ⟨rfl, h1, g_trans (g_of HBA.out) h2⟩
 | ok u a1 =>
  have HN := Lib.hid hn
  rw [hn] at CN
  obtain rfl := nameP_le hn
  refine CN.out.mono ?_
  rintro e1 w1 ⟨v, rfl, hv, hA1, hg1⟩
  have hv : v = .agg #[.string u.name, .int .i64 u.pos] := hv
  subst hv
  obtain ⟨R, hR⟩ : ∃ R, w1.heap.size = R := ⟨_, rfl⟩
  obtain ⟨D, hD⟩ : ∃ D, R + 1 = D := ⟨_, rfl⟩
  have hs1 := hg1.size
  have hsa := HSA.out
  have hxd : X < D := by omega
  have hb3 : Below w1.heap.size w1 ((w1.alloc (.cells #[.string u.name, .int .i64 u.pos] 74)).alloc (.cells #[.string u.name, .bool false, .bool false, .int .u64 0, .slice none 0 0, .int .i64 u.pos] 78)) := ((Below.refl _ _).alloc (Nat.le_refl _) _).alloc (by simp) _
  have HD0 : Hid (Dec W0 W ((w1.alloc (.cells #[.string u.name, .int .i64 u.pos] 74)).alloc (.cells #[.string u.name, .bool false, .bool false, .int .u64 0, .slice none 0 0, .int .i64 u.pos] 78)) B X D T 78 S tv nv #[.string ⟨#[]⟩, .bool false, .bool false, .int .u64 0, .slice none 0 0, .int .i64 0] #[.string u.name, .bool false, .bool false, .int .u64 0, .slice none 0 0, .int .i64 u.pos] (a + 1) deep) := ⟨hA1.below hb3, g_below (g_trans (g_of HBA.out) hg1) hb3, (hb3.block X (by omega)).trans ((hg1.block X (by omega) (fun e => by injection e with e; omega)).trans HZ.out), by (have h := heap_alloc_new (w1.alloc (.cells #[.string u.name, .int .i64 u.pos] 74)) (.cells #[.string u.name, .bool false, .bool false, .int .u64 0, .slice none 0 0, .int .i64 u.pos] 78); rw [World.size_alloc, hR, hD] at h; exact h), hXB, hxd, by have := HX.out; omega⟩
  have HR := Lib.hid hR
  have HDD := Lib.hid hD
  clear hn CN hA1 hg1 hR hD hb3 hs1 hsa
  go_upto_region 3 with fail
  rw [HR.out, HDD.out]
  refine wp_world (fun W3 => Dec W0 W W3 B X D T 78 S tv nv #[.string ⟨#[]⟩, .bool false, .bool false, .int .u64 0, .slice none 0 0, .int .i64 0] #[.string u.name, .bool false, .bool false, .int .u64 0, .slice none 0 0, .int .i64 u.pos] (a + 1) deep) HD0.out (fun W3 hW3 => ?_)
  have HD3 := Lib.hid hW3
  have CT := Lib.hid (ttake_any HC.out hW3.at_ 20 (by omega))
  clear hW3 HD0
  by_cases hm : kindP S (a + 1) = 20
  ·rw [decide_eq_true hm, if_pos hm] at CT
   have HM := Lib.hid hm
   clear hm
   go_wp2_with fail
   refine CT.out.mono ?_
   rintro e4 w4 ⟨rfl, hA4, hg4⟩
   have HD4 := Lib.hid (HD3.out.call hA4 hg4)
   clear hA4 hg4
   have k2 := HD4.out.cell (i := 2) rfl
   have fk2 := HD4.out.free 2
   have dl := HD4.out.dlt
   go_upto_region 4 with fail
   refine wp_world (fun W5 => Dec W0 W W5 B X D T 78 S tv nv #[.string ⟨#[]⟩, .bool false, .bool false, .int .u64 0, .slice none 0 0, .int .i64 0] #[.string u.name, .bool false, .bool true, .int .u64 0, .slice none 0 0, .int .i64 u.pos] (a + 1 + 1) deep) (HD4.out.set 2 _) (fun W5 hW5 => ?_)
   have HD5 := Lib.hid hW5
   have CM := Lib.hid (tnumber_any HC.out hW5.at_)
   clear hW5 k2 fk2 dl
   have k2 := HD5.out.cell (i := 2) rfl
   have fk2 := HD5.out.free 2
   have dl := HD5.out.dlt
   go_wp2_with fail
   cases hq : numP S (a + 1 + 1) with
   | bad p k =>
    have HQ := Lib.hid hq
    rw [hq] at CM
    clear hq
    refine CM.out.mono ?_
    rintro e6 w6 ⟨rfl, h1, h2⟩
    have HE : Hid (coreP S a = .bad p k) := by have e0 := HN.out; have e1 := HM.out; have e2 := HQ.out; show _ = _; simp [coreP, takeP, PR.bind, e0, e1, e2]
    refine ⟨rfl, ?_⟩
    rw [← HPP.out, HE.out]
    exact ⟨rfl, h1, g_trans HD5.out.gr h2⟩
   | ok n6 p6 =>
    have HQ := Lib.hid hq
    rw [hq] at CM
    refine CM.out.mono ?_
    rintro e6 w6 ⟨v6, rfl, hv6, hA6, hg6⟩
    have hv6 : v6 = .int .u64 n6 := hv6
    subst hv6
    have HD6 := Lib.hid (HD5.out.call hA6 hg6)
    clear hq CM hA6 hg6 k2 fk2 dl
    have k1 := HD6.out.cell (i := 1) rfl
    have k3 := HD6.out.cell (i := 3) rfl
    have fk1 := HD6.out.free 1
    have fk3 := HD6.out.free 3
    have dl := HD6.out.dlt
    go_upto_region 6 with fail
    refine wp_world (fun W7 => Dec W0 W W7 B X D T 78 S tv nv #[.string ⟨#[]⟩, .bool false, .bool false, .int .u64 0, .slice none 0 0, .int .i64 0] #[.string u.name, .bool true, .bool true, .int .u64 n6, .slice none 0 0, .int .i64 u.pos] p6 deep) ((HD6.out.set 1 _).set 3 _) (fun W7 hW7 => ?_)
    have HDt := Lib.hid hW7
    clear hW7 k1 k3 fk1 fk3 dl
    have CT := Lib.hid (ttake_any HC.out HDt.out.at_ 5 (by omega))
    by_cases h5 : kindP S (p6) = 5
    ·rw [decide_eq_true h5, if_pos h5] at CT
     have H5 := Lib.hid h5
     clear h5
     go_wp2_with fail
     refine CT.out.mono ?_
     rintro e7 w7 ⟨rfl, hA7, hg7⟩
     have HD7 := Lib.hid (HDt.out.call hA7 hg7)
     have CL := Lib.hid (tlist_any HC.out hA7)
     clear hA7 hg7
     go_wp2_with fail
     cases hl : listP S (p6 + 1) with
     | bad p k =>
      have HL := Lib.hid hl
      rw [hl] at CL
      clear hl
      refine CL.out.mono ?_
      rintro e8 w8 ⟨rfl, h1, h2⟩
      have HE : Hid (coreP S a = .bad p k) := by have e0 := HN.out; have e1 := HM.out; have e2 := HQ.out; have e3 := H5.out; have e4 := HL.out; show _ = _; simp [coreP, takeP, PR.bind, e0, e1, e2, e3, e4]
      refine ⟨rfl, ?_⟩
      rw [← HPP.out, HE.out]
      exact ⟨rfl, h1, g_trans HD7.out.gr h2⟩
     | ok us p8 =>
      have HL := Lib.hid hl
      rw [hl] at CL
      refine CL.out.mono ?_
      rintro e8 w8 ⟨v8, rfl, hv8, hA8, hg8⟩
      clear hl CL
      obtain ⟨q, n, c, rfl⟩ : ∃ q n c, v8 = .slice q n c := by (obtain ⟨q, c, e⟩ := FlP.form hv8; exact ⟨_, _, _, e⟩)
      have HD8 := Lib.hid (HD7.out.call hA8 hg8)
      have hdl7 := HD7.out.dlt
      have HU8 : Hid (UsP (fun b => D < b) w8 (.slice q n c) us) := FlP.kept hv8 fun b hb _ => ⟨rfl, by omega⟩
      clear hA8 hg8 hv8
      have k4 := HD8.out.cell (i := 4) rfl
      have fk4 := HD8.out.free 4
      have dl := HD8.out.dlt
      go_upto_region 8 with fail
      refine wp_world (fun W9 => Dec W0 W W9 B X D T 78 S tv nv #[.string ⟨#[]⟩, .bool false, .bool false, .int .u64 0, .slice none 0 0, .int .i64 0] #[.string u.name, .bool true, .bool true, .int .u64 n6, .slice q n c, .int .i64 u.pos] p8 deep ∧ UsP (fun b => D < b) W9 (.slice q n c) us) ⟨HD8.out.set 4 _, FlP.kept HU8.out stays_set⟩ (fun W9 hW9 => ?_)
      have HD9 := Lib.hid hW9.1
      have HU9 := Lib.hid hW9.2
      clear hW9 k4 fk4 dl
      have HE : Hid (coreP S a = .ok ⟨u.name, true, true, n6, us, u.pos⟩ (p8)) := by have e0 := HN.out; have e1 := HM.out; have e2 := HQ.out; have e3 := H5.out; have e4 := HL.out; show _ = _; simp [coreP, takeP, PR.bind, e0, e1, e2, e3, e4]
      have k0 := HD9.out.cell (i := 0) rfl
      have k1 := HD9.out.cell (i := 1) rfl
      have k2 := HD9.out.cell (i := 2) rfl
      have k3 := HD9.out.cell (i := 3) rfl
      have k4 := HD9.out.cell (i := 4) rfl
      have k5 := HD9.out.cell (i := 5) rfl
      have fk0 := HD9.out.free 0
      have fk1 := HD9.out.free 1
      have fk2 := HD9.out.free 2
      have fk3 := HD9.out.free 3
      have fk4 := HD9.out.free 4
      have fk5 := HD9.out.free 5
      have dl := HD9.out.dlt
      have z0 := HD9.out.rcell (i := 0) rfl
      have z1 := HD9.out.rcell (i := 1) rfl
      have z2 := HD9.out.rcell (i := 2) rfl
      have z3 := HD9.out.rcell (i := 3) rfl
      have z4 := HD9.out.rcell (i := 4) rfl
      have z5 := HD9.out.rcell (i := 5) rfl
      have fz0 := HD9.out.rfree 0
      have fz1 := HD9.out.rfree 1
      have fz2 := HD9.out.rfree 2
      have fz3 := HD9.out.rfree 3
      have fz4 := HD9.out.rfree 4
      have fz5 := HD9.out.rfree 5
      have xl := (Array.getElem?_eq_some_iff.1 HD9.out.res).1
      go_wp2_with fail
      refine wp_post (fun W' => W'.heap[X]? = some (.cells #[.string u.name, .bool true, .bool true, .int .u64 n6, .slice q n c, .int .i64 u.pos] 78 (0, 0)) ∧ W9.grownBy W' (some X)) (set6c HD9.out.res _ _ _ _ _ _) (fun W' hW => ?_)
      refine bodyPost_ret (res_core hW.1 rfl _ rfl) rfl ?_
      rw [← HPP.out, HE.out]
      obtain ⟨hA9, hg9⟩ := HD9.out.fin hW.2
      have hxd := HD9.out.xd
      have hwx := HD9.out.wx
      exact ⟨_, rfl, ⟨[.string u.name, .bool true, .bool true, .int .u64 n6, .slice q n c, .int .i64 u.pos], rfl, _, rfl, FlP.kept (HU9.out) fun b hb hl => ⟨hW.2.block b hl (fun e => by injection e with e; omega), by omega⟩⟩, hA9, hg9⟩
    ·rw [decide_eq_false h5, if_neg h5] at CT
     have H5 := Lib.hid h5
     clear h5
     go_wp2_with fail
     refine CT.out.mono ?_
     rintro e7 w7 ⟨rfl, hA7, hg7⟩
     have HD7 := Lib.hid (HDt.out.call hA7 hg7)
     clear hA7 hg7
     have HE : Hid (coreP S a = .ok ⟨u.name, true, true, n6, [], u.pos⟩ (p6)) := by have e0 := HN.out; have e1 := HM.out; have e2 := HQ.out; have e3 := H5.out; show _ = _; simp [coreP, takeP, PR.bind, e0, e1, e2, e3]
     have k0 := HD7.out.cell (i := 0) rfl
     have k1 := HD7.out.cell (i := 1) rfl
     have k2 := HD7.out.cell (i := 2) rfl
     have k3 := HD7.out.cell (i := 3) rfl
     have k4 := HD7.out.cell (i := 4) rfl
     have k5 := HD7.out.cell (i := 5) rfl
     have fk0 := HD7.out.free 0
     have fk1 := HD7.out.free 1
     have fk2 := HD7.out.free 2
     have fk3 := HD7.out.free 3
     have fk4 := HD7.out.free 4
     have fk5 := HD7.out.free 5
     have dl := HD7.out.dlt
     have z0 := HD7.out.rcell (i := 0) rfl
     have z1 := HD7.out.rcell (i := 1) rfl
     have z2 := HD7.out.rcell (i := 2) rfl
     have z3 := HD7.out.rcell (i := 3) rfl
     have z4 := HD7.out.rcell (i := 4) rfl
     have z5 := HD7.out.rcell (i := 5) rfl
     have fz0 := HD7.out.rfree 0
     have fz1 := HD7.out.rfree 1
     have fz2 := HD7.out.rfree 2
     have fz3 := HD7.out.rfree 3
     have fz4 := HD7.out.rfree 4
     have fz5 := HD7.out.rfree 5
     have xl := (Array.getElem?_eq_some_iff.1 HD7.out.res).1
     go_wp2_with fail
     refine wp_post (fun W' => W'.heap[X]? = some (.cells #[.string u.name, .bool true, .bool true, .int .u64 n6, .slice none 0 0, .int .i64 u.pos] 78 (0, 0)) ∧ w7.grownBy W' (some X)) (set6c HD7.out.res _ _ _ _ _ _) (fun W' hW => ?_)
     refine bodyPost_ret (res_core hW.1 rfl _ rfl) rfl ?_
     rw [← HPP.out, HE.out]
     obtain ⟨hA9, hg9⟩ := HD7.out.fin hW.2
     have hxd := HD7.out.xd
     have hwx := HD7.out.wx
     exact ⟨_, rfl, ⟨[.string u.name, .bool true, .bool true, .int .u64 n6, .slice none 0 0, .int .i64 u.pos], rfl, _, rfl, FlP.kept (FlP.nil (fun b => D < b) w7 2) fun b hb hl => ⟨hW.2.block b hl (fun e => by injection e with e; omega), by omega⟩⟩, hA9, hg9⟩
  ·rw [decide_eq_false hm, if_neg hm] at CT
   have HM := Lib.hid hm
   clear hm
   go_wp2_with fail
   refine CT.out.mono ?_
   rintro e4 w4 ⟨rfl, hA4, hg4⟩
   have HD4 := Lib.hid (HD3.out.call hA4 hg4)
   clear hA4 hg4
   have k2 := HD4.out.cell (i := 2) rfl
   have fk2 := HD4.out.free 2
   have dl := HD4.out.dlt
   go_upto_region 4 with fail
   refine wp_world (fun W5 => Dec W0 W W5 B X D T 78 S tv nv #[.string ⟨#[]⟩, .bool false, .bool false, .int .u64 0, .slice none 0 0, .int .i64 0] #[.string u.name, .bool false, .bool false, .int .u64 0, .slice none 0 0, .int .i64 u.pos] (a + 1) deep) (HD4.out.set 2 _) (fun W5 hW5 => ?_)
   have HD5 := Lib.hid hW5
   have CK := Lib.hid (tkind_any HC.out hW5.at_)
   clear hW5 k2 fk2 dl
   have k2 := HD5.out.cell (i := 2) rfl
   have fk2 := HD5.out.free 2
   have dl := HD5.out.dlt
   go_wp2_with fail
   refine CK.out.mono ?_
   rintro e5 w5 ⟨rfl, hb5⟩
   have HD5b := Lib.hid (HD5.out.below hb5)
   clear hb5 k2 fk2 dl
   by_cases h2k : kindP S (a + 1) = 2
   ·have t2 : ((kindP S (a + 1) : Int) == 2) = true := by rw [h2k]; rfl
    have H2K := Lib.hid h2k
    have CM := Lib.hid (tnumber_any HC.out HD5b.out.at_)
    clear h2k
    go_wp2_with fail
    cases hq : numP S (a + 1) with
    | bad p k =>
     have HQ := Lib.hid hq
     rw [hq] at CM
     clear hq
     refine CM.out.mono ?_
     rintro e6 w6 ⟨rfl, h1, h2⟩
     have HE : Hid (coreP S a = .bad p k) := by have e0 := HN.out; have e1 := HM.out; have e2 := H2K.out; have e3 := HQ.out; show _ = _; simp [coreP, takeP, PR.bind, e0, e1, e2, e3]
     refine ⟨rfl, ?_⟩
     rw [← HPP.out, HE.out]
     exact ⟨rfl, h1, g_trans HD5b.out.gr h2⟩
    | ok n6 p6 =>
     have HQ := Lib.hid hq
     rw [hq] at CM
     refine CM.out.mono ?_
     rintro e6 w6 ⟨v6, rfl, hv6, hA6, hg6⟩
     have hv6 : v6 = .int .u64 n6 := hv6
     subst hv6
     have HD6 := Lib.hid (HD5b.out.call hA6 hg6)
     clear hq CM hA6 hg6
     have k1 := HD6.out.cell (i := 1) rfl
     have k3 := HD6.out.cell (i := 3) rfl
     have fk1 := HD6.out.free 1
     have fk3 := HD6.out.free 3
     have dl := HD6.out.dlt
     go_upto_region 6 with fail
     refine wp_world (fun W7 => Dec W0 W W7 B X D T 78 S tv nv #[.string ⟨#[]⟩, .bool false, .bool false, .int .u64 0, .slice none 0 0, .int .i64 0] #[.string u.name, .bool true, .bool false, .int .u64 n6, .slice none 0 0, .int .i64 u.pos] p6 deep) ((HD6.out.set 1 _).set 3 _) (fun W7 hW7 => ?_)
     have HDt := Lib.hid hW7
     clear hW7 k1 k3 fk1 fk3 dl
     have CT := Lib.hid (ttake_any HC.out HDt.out.at_ 5 (by omega))
     by_cases h5 : kindP S (p6) = 5
     ·rw [decide_eq_true h5, if_pos h5] at CT
      have H5 := Lib.hid h5
      clear h5
      go_wp2_with fail
      refine CT.out.mono ?_
      rintro e7 w7 ⟨rfl, hA7, hg7⟩
      have HD7 := Lib.hid (HDt.out.call hA7 hg7)
      have CL := Lib.hid (tlist_any HC.out hA7)
      clear hA7 hg7
      go_wp2_with fail
      cases hl : listP S (p6 + 1) with
      | bad p k =>
       have HL := Lib.hid hl
       rw [hl] at CL
       clear hl
       refine CL.out.mono ?_
       rintro e8 w8 ⟨rfl, h1, h2⟩
       have HE : Hid (coreP S a = .bad p k) := by have e0 := HN.out; have e1 := HM.out; have e2 := H2K.out; have e3 := HQ.out; have e4 := H5.out; have e5 := HL.out; show _ = _; simp [coreP, takeP, PR.bind, e0, e1, e2, e3, e4, e5]
       refine ⟨rfl, ?_⟩
       rw [← HPP.out, HE.out]
       exact ⟨rfl, h1, g_trans HD7.out.gr h2⟩
      | ok us p8 =>
       have HL := Lib.hid hl
       rw [hl] at CL
       refine CL.out.mono ?_
       rintro e8 w8 ⟨v8, rfl, hv8, hA8, hg8⟩
       clear hl CL
       obtain ⟨q, n, c, rfl⟩ : ∃ q n c, v8 = .slice q n c := by (obtain ⟨q, c, e⟩ := FlP.form hv8; exact ⟨_, _, _, e⟩)
       have HD8 := Lib.hid (HD7.out.call hA8 hg8)
       have hdl7 := HD7.out.dlt
       have HU8 : Hid (UsP (fun b => D < b) w8 (.slice q n c) us) := FlP.kept hv8 fun b hb _ => ⟨rfl, by omega⟩
       clear hA8 hg8 hv8
       have k4 := HD8.out.cell (i := 4) rfl
       have fk4 := HD8.out.free 4
       have dl := HD8.out.dlt
       go_upto_region 8 with fail
       refine wp_world (fun W9 => Dec W0 W W9 B X D T 78 S tv nv #[.string ⟨#[]⟩, .bool false, .bool false, .int .u64 0, .slice none 0 0, .int .i64 0] #[.string u.name, .bool true, .bool false, .int .u64 n6, .slice q n c, .int .i64 u.pos] p8 deep ∧ UsP (fun b => D < b) W9 (.slice q n c) us) ⟨HD8.out.set 4 _, FlP.kept HU8.out stays_set⟩ (fun W9 hW9 => ?_)
       have HD9 := Lib.hid hW9.1
       have HU9 := Lib.hid hW9.2
       clear hW9 k4 fk4 dl
       have HE : Hid (coreP S a = .ok ⟨u.name, true, false, n6, us, u.pos⟩ (p8)) := by have e0 := HN.out; have e1 := HM.out; have e2 := H2K.out; have e3 := HQ.out; have e4 := H5.out; have e5 := HL.out; show _ = _; simp [coreP, takeP, PR.bind, e0, e1, e2, e3, e4, e5]
       have k0 := HD9.out.cell (i := 0) rfl
       have k1 := HD9.out.cell (i := 1) rfl
       have k2 := HD9.out.cell (i := 2) rfl
       have k3 := HD9.out.cell (i := 3) rfl
       have k4 := HD9.out.cell (i := 4) rfl
       have k5 := HD9.out.cell (i := 5) rfl
       have fk0 := HD9.out.free 0
       have fk1 := HD9.out.free 1
       have fk2 := HD9.out.free 2
       have fk3 := HD9.out.free 3
       have fk4 := HD9.out.free 4
       have fk5 := HD9.out.free 5
       have dl := HD9.out.dlt
       have z0 := HD9.out.rcell (i := 0) rfl
       have z1 := HD9.out.rcell (i := 1) rfl
       have z2 := HD9.out.rcell (i := 2) rfl
       have z3 := HD9.out.rcell (i := 3) rfl
       have z4 := HD9.out.rcell (i := 4) rfl
       have z5 := HD9.out.rcell (i := 5) rfl
       have fz0 := HD9.out.rfree 0
       have fz1 := HD9.out.rfree 1
       have fz2 := HD9.out.rfree 2
       have fz3 := HD9.out.rfree 3
       have fz4 := HD9.out.rfree 4
       have fz5 := HD9.out.rfree 5
       have xl := (Array.getElem?_eq_some_iff.1 HD9.out.res).1
       go_wp2_with fail
       refine wp_post (fun W' => W'.heap[X]? = some (.cells #[.string u.name, .bool true, .bool false, .int .u64 n6, .slice q n c, .int .i64 u.pos] 78 (0, 0)) ∧ W9.grownBy W' (some X)) (set6c HD9.out.res _ _ _ _ _ _) (fun W' hW => ?_)
       refine bodyPost_ret (res_core hW.1 rfl _ rfl) rfl ?_
       rw [← HPP.out, HE.out]
       obtain ⟨hA9, hg9⟩ := HD9.out.fin hW.2
       have hxd := HD9.out.xd
       have hwx := HD9.out.wx
       exact ⟨_, rfl, ⟨[.string u.name, .bool true, .bool false, .int .u64 n6, .slice q n c, .int .i64 u.pos], rfl, _, rfl, FlP.kept (HU9.out) fun b hb hl => ⟨hW.2.block b hl (fun e => by injection e with e; omega), by omega⟩⟩, hA9, hg9⟩
     ·rw [decide_eq_false h5, if_neg h5] at CT
      have H5 := Lib.hid h5
      clear h5
      go_wp2_with fail
      refine CT.out.mono ?_
      rintro e7 w7 ⟨rfl, hA7, hg7⟩
      have HD7 := Lib.hid (HDt.out.call hA7 hg7)
      clear hA7 hg7
      have HE : Hid (coreP S a = .ok ⟨u.name, true, false, n6, [], u.pos⟩ (p6)) := by have e0 := HN.out; have e1 := HM.out; have e2 := H2K.out; have e3 := HQ.out; have e4 := H5.out; show _ = _; simp [coreP, takeP, PR.bind, e0, e1, e2, e3, e4]
      have k0 := HD7.out.cell (i := 0) rfl
      have k1 := HD7.out.cell (i := 1) rfl
      have k2 := HD7.out.cell (i := 2) rfl
      have k3 := HD7.out.cell (i := 3) rfl
      have k4 := HD7.out.cell (i := 4) rfl
      have k5 := HD7.out.cell (i := 5) rfl
      have fk0 := HD7.out.free 0
      have fk1 := HD7.out.free 1
      have fk2 := HD7.out.free 2
      have fk3 := HD7.out.free 3
      have fk4 := HD7.out.free 4
      have fk5 := HD7.out.free 5
      have dl := HD7.out.dlt
      have z0 := HD7.out.rcell (i := 0) rfl
      have z1 := HD7.out.rcell (i := 1) rfl
      have z2 := HD7.out.rcell (i := 2) rfl
      have z3 := HD7.out.rcell (i := 3) rfl
      have z4 := HD7.out.rcell (i := 4) rfl
      have z5 := HD7.out.rcell (i := 5) rfl
      have fz0 := HD7.out.rfree 0
      have fz1 := HD7.out.rfree 1
      have fz2 := HD7.out.rfree 2
      have fz3 := HD7.out.rfree 3
      have fz4 := HD7.out.rfree 4
      have fz5 := HD7.out.rfree 5
      have xl := (Array.getElem?_eq_some_iff.1 HD7.out.res).1
      go_wp2_with fail
      refine wp_post (fun W' => W'.heap[X]? = some (.cells #[.string u.name, .bool true, .bool false, .int .u64 n6, .slice none 0 0, .int .i64 u.pos] 78 (0, 0)) ∧ w7.grownBy W' (some X)) (set6c HD7.out.res _ _ _ _ _ _) (fun W' hW => ?_)
      refine bodyPost_ret (res_core hW.1 rfl _ rfl) rfl ?_
      rw [← HPP.out, HE.out]
      obtain ⟨hA9, hg9⟩ := HD7.out.fin hW.2
      have hxd := HD7.out.xd
      have hwx := HD7.out.wx
      exact ⟨_, rfl, ⟨[.string u.name, .bool true, .bool false, .int .u64 n6, .slice none 0 0, .int .i64 u.pos], rfl, _, rfl, FlP.kept (FlP.nil (fun b => D < b) w7 2) fun b hb hl => ⟨hW.2.block b hl (fun e => by injection e with e; omega), by omega⟩⟩, hA9, hg9⟩
   ·have t2 : ((kindP S (a + 1) : Int) == 2) = false := by rw [beq_eq_false_iff_ne]; omega
    have H2K := Lib.hid h2k
    clear h2k
    go_upto_region 6 with fail
    have CT := Lib.hid (ttake_any HC.out HD5b.out.at_ 5 (by omega))
    by_cases h5 : kindP S (a + 1) = 5
    ·rw [decide_eq_true h5, if_pos h5] at CT
     have H5 := Lib.hid h5
     clear h5
     go_wp2_with fail
     refine CT.out.mono ?_
     rintro e7 w7 ⟨rfl, hA7, hg7⟩
     have HD7 := Lib.hid (HD5b.out.call hA7 hg7)
     have CL := Lib.hid (tlist_any HC.out hA7)
     clear hA7 hg7
     go_wp2_with fail
     cases hl : listP S (a + 1 + 1) with
     | bad p k =>
      have HL := Lib.hid hl
      rw [hl] at CL
      clear hl
      refine CL.out.mono ?_
      rintro e8 w8 ⟨rfl, h1, h2⟩
      have HE : Hid (coreP S a = .bad p k) := by have e0 := HN.out; have e1 := HM.out; have e2 := H2K.out; have e3 := H5.out; have e4 := HL.out; show _ = _; simp [coreP, takeP, PR.bind, e0, e1, e2, e3, e4]
      refine ⟨rfl, ?_⟩
      rw [← HPP.out, HE.out]
      exact ⟨rfl, h1, g_trans HD7.out.gr h2⟩
     | ok us p8 =>
      have HL := Lib.hid hl
      rw [hl] at CL
      refine CL.out.mono ?_
      rintro e8 w8 ⟨v8, rfl, hv8, hA8, hg8⟩
      clear hl CL
      obtain ⟨q, n, c, rfl⟩ : ∃ q n c, v8 = .slice q n c := by (obtain ⟨q, c, e⟩ := FlP.form hv8; exact ⟨_, _, _, e⟩)
      have HD8 := Lib.hid (HD7.out.call hA8 hg8)
      have hdl7 := HD7.out.dlt
      have HU8 : Hid (UsP (fun b => D < b) w8 (.slice q n c) us) := FlP.kept hv8 fun b hb _ => ⟨rfl, by omega⟩
      clear hA8 hg8 hv8
      have k4 := HD8.out.cell (i := 4) rfl
      have fk4 := HD8.out.free 4
      have dl := HD8.out.dlt
      go_upto_region 8 with fail
      refine wp_world (fun W9 => Dec W0 W W9 B X D T 78 S tv nv #[.string ⟨#[]⟩, .bool false, .bool false, .int .u64 0, .slice none 0 0, .int .i64 0] #[.string u.name, .bool false, .bool false, .int .u64 0, .slice q n c, .int .i64 u.pos] p8 deep ∧ UsP (fun b => D < b) W9 (.slice q n c) us) ⟨HD8.out.set 4 _, FlP.kept HU8.out stays_set⟩ (fun W9 hW9 => ?_)
      have HD9 := Lib.hid hW9.1
      have HU9 := Lib.hid hW9.2
      clear hW9 k4 fk4 dl
      have HE : Hid (coreP S a = .ok ⟨u.name, false, false, 0, us, u.pos⟩ (p8)) := by have e0 := HN.out; have e1 := HM.out; have e2 := H2K.out; have e3 := H5.out; have e4 := HL.out; show _ = _; simp [coreP, takeP, PR.bind, e0, e1, e2, e3, e4]
      have k0 := HD9.out.cell (i := 0) rfl
      have k1 := HD9.out.cell (i := 1) rfl
      have k2 := HD9.out.cell (i := 2) rfl
      have k3 := HD9.out.cell (i := 3) rfl
      have k4 := HD9.out.cell (i := 4) rfl
      have k5 := HD9.out.cell (i := 5) rfl
      have fk0 := HD9.out.free 0
      have fk1 := HD9.out.free 1
      have fk2 := HD9.out.free 2
      have fk3 := HD9.out.free 3
      have fk4 := HD9.out.free 4
      have fk5 := HD9.out.free 5
      have dl := HD9.out.dlt
      have z0 := HD9.out.rcell (i := 0) rfl
      have z1 := HD9.out.rcell (i := 1) rfl
      have z2 := HD9.out.rcell (i := 2) rfl
      have z3 := HD9.out.rcell (i := 3) rfl
      have z4 := HD9.out.rcell (i := 4) rfl
      have z5 := HD9.out.rcell (i := 5) rfl
      have fz0 := HD9.out.rfree 0
      have fz1 := HD9.out.rfree 1
      have fz2 := HD9.out.rfree 2
      have fz3 := HD9.out.rfree 3
      have fz4 := HD9.out.rfree 4
      have fz5 := HD9.out.rfree 5
      have xl := (Array.getElem?_eq_some_iff.1 HD9.out.res).1
      go_wp2_with fail
      refine wp_post (fun W' => W'.heap[X]? = some (.cells #[.string u.name, .bool false, .bool false, .int .u64 0, .slice q n c, .int .i64 u.pos] 78 (0, 0)) ∧ W9.grownBy W' (some X)) (set6c HD9.out.res _ _ _ _ _ _) (fun W' hW => ?_)
      refine bodyPost_ret (res_core hW.1 rfl _ rfl) rfl ?_
      rw [← HPP.out, HE.out]
      obtain ⟨hA9, hg9⟩ := HD9.out.fin hW.2
      have hxd := HD9.out.xd
      have hwx := HD9.out.wx
      exact ⟨_, rfl, ⟨[.string u.name, .bool false, .bool false, .int .u64 0, .slice q n c, .int .i64 u.pos], rfl, _, rfl, FlP.kept (HU9.out) fun b hb hl => ⟨hW.2.block b hl (fun e => by injection e with e; omega), by omega⟩⟩, hA9, hg9⟩
    ·rw [decide_eq_false h5, if_neg h5] at CT
     have H5 := Lib.hid h5
     clear h5
     go_wp2_with fail
     refine CT.out.mono ?_
     rintro e7 w7 ⟨rfl, hA7, hg7⟩
     have HD7 := Lib.hid (HD5b.out.call hA7 hg7)
     clear hA7 hg7
     have HE : Hid (coreP S a = .ok ⟨u.name, false, false, 0, [], u.pos⟩ (a + 1)) := by have e0 := HN.out; have e1 := HM.out; have e2 := H2K.out; have e3 := H5.out; show _ = _; simp [coreP, takeP, PR.bind, e0, e1, e2, e3]
     have k0 := HD7.out.cell (i := 0) rfl
     have k1 := HD7.out.cell (i := 1) rfl
     have k2 := HD7.out.cell (i := 2) rfl
     have k3 := HD7.out.cell (i := 3) rfl
     have k4 := HD7.out.cell (i := 4) rfl
     have k5 := HD7.out.cell (i := 5) rfl
     have fk0 := HD7.out.free 0
     have fk1 := HD7.out.free 1
     have fk2 := HD7.out.free 2
     have fk3 := HD7.out.free 3
     have fk4 := HD7.out.free 4
     have fk5 := HD7.out.free 5
     have dl := HD7.out.dlt
     have z0 := HD7.out.rcell (i := 0) rfl
     have z1 := HD7.out.rcell (i := 1) rfl
     have z2 := HD7.out.rcell (i := 2) rfl
     have z3 := HD7.out.rcell (i := 3) rfl
     have z4 := HD7.out.rcell (i := 4) rfl
     have z5 := HD7.out.rcell (i := 5) rfl
     have fz0 := HD7.out.rfree 0
     have fz1 := HD7.out.rfree 1
     have fz2 := HD7.out.rfree 2
     have fz3 := HD7.out.rfree 3
     have fz4 := HD7.out.rfree 4
     have fz5 := HD7.out.rfree 5
     have xl := (Array.getElem?_eq_some_iff.1 HD7.out.res).1
     go_wp2_with fail
     refine wp_post (fun W' => W'.heap[X]? = some (.cells #[.string u.name, .bool false, .bool false, .int .u64 0, .slice none 0 0, .int .i64 u.pos] 78 (0, 0)) ∧ w7.grownBy W' (some X)) (set6c HD7.out.res _ _ _ _ _ _) (fun W' hW => ?_)
     refine bodyPost_ret (res_core hW.1 rfl _ rfl) rfl ?_
     rw [← HPP.out, HE.out]
     obtain ⟨hA9, hg9⟩ := HD7.out.fin hW.2
     have hxd := HD7.out.xd
     have hwx := HD7.out.wx
     exact ⟨_, rfl, ⟨[.string u.name, .bool false, .bool false, .int .u64 0, .slice none 0 0, .int .i64 u.pos], rfl, _, rfl, FlP.kept (FlP.nil (fun b => D < b) w7 2) fun b hb hl => ⟨hW.2.block b hl (fun e => by injection e with e; omega), by omega⟩⟩, hA9, hg9⟩
end
end Go.Proofs.YtbdllefnghddcaaGreatDoor
