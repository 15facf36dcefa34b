/- PARSE: an argument of type []byte, opened. PARSE: the law ParseOneForm. -/
import Derived.Test.YtbdllefnghddcaaGreatDoorPPar
import Derived.Test.YtbdllefnghddcaaGreatDoorPScan2
import Derived.Lib.QuietBelow
import Derived.Test.YtbdllefnghddcaaGreatDoorPLawA
import Derived.Test.YtbdllefnghddcaaGreatDoorParseSameH
import Derived.Test.YtbdllefnghddcaaGreatDoorPLex
import Derived.Test.YtbdllefnghddcaaGreatDoorPMem
namespace Go.Proofs.YtbdllefnghddcaaGreatDoor
section
open Go Go.ChangeShapes Go.WideShapes Go.ChangeAt Go.RowKit

theorem laidOutBs : laidOutB Tryz.prog = true := by kernel_rfl
theorem cells_by : Tryz.prog.cellsOf 5 = 1 := by kernel_rfl
theorem open_by {H : Type} {enc : TypeId × Value → H} {W : World} {a0 : Option Addr} {len cap : Nat} {d0 : DataW H} {p : List MemPlace}
  (h0 : DataW.Trod enc Tryz.prog W 0 (fun _ => true) true 22 (.slice a0 len cap) d0 p) :
  ∃ l : List UInt8, Bs W (.slice a0 len cap) l ∧ (a0 = none → cap = 0) := by
 obtain ⟨fuel, hf⟩ := h0
 rcases open_ints Tryz.underlying22 Tryz.underlying5 cells_by hf with ⟨hcs, hx⟩ | ⟨a, len', cap', zs, hcs, _, hl, hm, hz, hx, hcell, hwz⟩
 ·simp [Value.cells] at hcs
  obtain ⟨rfl, rfl, rfl⟩ := hcs
  exact ⟨[], ⟨none, 0, rfl, Nat.le_refl _, by omega, fun h => by simp at h⟩, fun _ => rfl⟩
 ·simp [Value.cells] at hcs
  obtain ⟨rfl, rfl, rfl⟩ := hcs
  simp only [Prod.mk.injEq] at hx
  obtain ⟨rfl, rfl⟩ := hx
  simp only [if_true] at hz
  unfold maxLen at hm
  have hlen : ((zs.take len).map fun n => UInt8.ofNat n.toNat).length = len := by simp; omega
  refine ⟨(zs.take len).map fun n => UInt8.ofNat n.toNat, ⟨_, _, by rw [hlen], by rw [hlen]; exact hl, by omega, fun h => ?_⟩, fun h => by simp at h⟩
  ·rw [hlen] at h
   have hB := Lib.BytesIn.of_cells (a := a) (n := len) (xs := zs.take len) (fun i hi => by rw [hcell i (by omega)]; simp [List.getD, hi])
   obtain ⟨b, o, e, hc⟩ := hB h
   refine ⟨b, o, e, fun j x hj => ?_⟩
   obtain ⟨n, hn, rfl⟩ : ∃ n, (zs.take len)[j]? = some n ∧ UInt8.ofNat n.toNat = x := by rw [List.getElem?_map] at hj; exact Option.map_eq_some_iff.1 hj
   obtain ⟨hlt, e2⟩ := List.getElem?_eq_some_iff.1 hn
   have hw := hwz n (List.mem_of_mem_take (e2 ▸ List.getElem_mem hlt))
   have hw2 : 0 ≤ n ∧ n ≤ 255 := by
    simp only [Lit.wf, Bool.and_eq_true, decide_eq_true_eq] at hw
    exact hw
   rw [hc j (by rw [List.length_take] at hlt; omega)]
   have e3 : (zs.take len).getD j 0 = n := by rw [List.getD, hn]; rfl
   have e4 : ((UInt8.ofNat n.toNat).toNat : Int) = n := by rw [UInt8.toNat_ofNat']; omega
   rw [e3, e4]
end
section
set_option maxHeartbeats 8000000
set_option maxRecDepth 100000
open Go Go.RowKit Go.Shelf Go.Sort
attribute [local go_sem ↓] Go.wp_at_zero Go.wp_at_succ

theorem parse_all {W : World} {ad : Addr} {v : Value} {l : List UInt8} (hP : Px W ad) (hV : Bs W v l) : Calls Tryz.prog 10 #[v] W (ParsePost W (parseS l)) :=
 parse_any hP hV fun _ hs _ _ h => config_ne hs h
theorem oneform_a {W : World} {ad : Addr} {v : Value} {l : List UInt8} {p e : Nat} (hP : Px W ad) (hp : Pow W) (hV : Bs W v l) (h : parseS l = .fault p e) :
  Calls Tryz.prog 7 #[v] W (PatPost W (.bool true)) := by
 obtain ⟨PP, hPP⟩ : ∃ PP, PatPost W (.bool true) = PP := ⟨_, rfl⟩
 rw [hPP]
 have HPP := Lib.hid hPP
 obtain ⟨hp1, hp2, -⟩ := parse_fault h
 have CP := parse_all hP hV
 rw [h] at CP
 have HCP := Lib.hid CP
 have CA : Hid (∀ W', Below W.heap.size W W' → Calls Tryz.prog 13 #[] W' (PatPost W' (.bool true))) := fun W' hb => awake_any (hP.below hb) (hp.block (hb.block _ (Pv.of hP hp).lp))
 obtain ⟨pv, cap, rfl, hcap, hm, -⟩ := hV
 have he0 : ¬ ((e : Nat) : Int) = 0 := by omega
 obtain ⟨n1, n2⟩ := neI he0
 have hpl : ((p : Nat) : Int) ≤ ((l.length : Nat) : Int) := by omega
 have hp0 : (0 : Int) ≤ ((p : Nat) : Int) := by omega
 clear hPP CP h hP hp hp1 hp2 hcap hm he0
 go_enter Tryz.func7, Tryz.ntmps7
 go_wp2_with (go_at_call 10; refine HCP.out.mono ?_)
 rintro e2 w2 ⟨hb2, rfl⟩
 obtain ⟨X, hX⟩ : ∃ X, w2.heap.size = X := ⟨_, rfl⟩
 obtain ⟨F, hF⟩ : ∃ F, X + 1 = F := ⟨_, rfl⟩
 obtain ⟨w3, hw3⟩ : ∃ w3, (w2.alloc (.cells #[.slice none 0 0, .slice none 0 0] 26)).alloc (.cells #[.int .i64 (p : Nat), .int .i64 (e : Nat)] 29) = w3 := ⟨_, rfl⟩
 have hb3 : Below w2.heap.size w2 w3 := by rw [← hw3]; exact ((Below.refl _ w2).alloc (Nat.le_refl _) _).alloc (by simp) _
 have hs1 : (w2.alloc (.cells #[.slice none 0 0, .slice none 0 0] 26)).heap.size = X + 1 := by rw [World.size_alloc]; omega
 have hG3 : w3.heap[X]? = some (.cells #[.slice none 0 0, .slice none 0 0] 26 (0, 0)) := by rw [← hw3, Below.heap_alloc _ _ _ (by rw [hs1]; omega), ← hX]; exact heap_alloc_new w2 _
 have hF3 : w3.heap[F]? = some (.cells #[.int .i64 (p : Nat), .int .i64 (e : Nat)] 29 (0, 0)) := by rw [← hw3, ← hF, ← hs1]; exact heap_alloc_new _ _
 obtain ⟨g0, g1⟩ := row2_ hG3
 obtain ⟨f0, f1⟩ := row2_ hF3
 have lX := (Array.getElem?_eq_some_iff.1 hG3).1
 have lF := (Array.getElem?_eq_some_iff.1 hF3).1
 have hBW : Below W.heap.size W w3 := hb2.trans (hb3.mono hb2.size)
 have HX := Lib.hid hX
 have HF := Lib.hid hF
 have Hw3 := Lib.hid hw3
 have HBW := Lib.hid hBW
 clear hX hF hw3 hb3 hs1 hG3 hF3 hBW hb2
 go_upto_region 2 with fail
 rw [HX.out, HF.out, Hw3.out]
 go_wp2_with (go_at_call 13; refine (CA.out _ HBW.out).mono ?_; rintro e4 w4 ⟨rfl, hb4⟩)
 rw [← HPP.out]
 exact ⟨rfl, HBW.out.trans (hb4.mono HBW.out.size)⟩
theorem oneform_b {W : World} {ad : Addr} {v : Value} {l : List UInt8} {t : TreeT} (hP : Px W ad) (hp : Pow W) (hV : Bs W v l) (h : parseS l = .tree t) :
  Calls Tryz.prog 7 #[v] W (PatPost W (.bool true)) := by
 obtain ⟨PP, hPP⟩ : ∃ PP, PatPost W (.bool true) = PP := ⟨_, rfl⟩
 rw [hPP]
 have HPP := Lib.hid hPP
 obtain ⟨hft, hnm, hsm, hlen⟩ := parse_fit h
 have hpt : printT t = printW t := by unfold printT; rw [if_pos hft]
 have CP := parse_all hP hV
 rw [h] at CP
 have HCP := Lib.hid CP
 have hpl := (Pv.of hP hp).lp
 have CA : Hid (∀ W', Below W.heap.size W W' → Calls Tryz.prog 13 #[] W' (PatPost W' (.bool true))) := fun W' hb => awake_any (hP.below hb) (hp.block (hb.block _ hpl))
 have HPv : Hid (∀ W', Below W.heap.size W W' → Px W' ad ∧ Pv W'.heap.size W') := fun W' hb => ⟨hP.below hb, Pv.of (hP.below hb) (hp.block (hb.block _ hpl))⟩
 obtain ⟨s, hs⟩ : ∃ s, ba (printT t) = s := ⟨_, rfl⟩
 have hsd : s.data.toList = printW t := by rw [← hs, hpt]; simp [ba]
 have hss : s.size = (printW t).length := by rw [← hsd, Array.length_toList]; rfl
 have HB1 : Hid (∀ t', sameT t' t = true → ba (printT t') = s) := fun t' he => by rw [← hs, (sameT_to he).1]
 have HBK : Hid ((∃ t', parseS (printW t) = .tree t' ∧ sameT t' t = true) ∨ (∃ q e, parseS (printW t) = .fault q e ∧ 60 ≤ e ∧ e ≤ 66)) := print_back hft hnm
 have HNE : Hid (0 < t.hands.length + t.routes.length → printW t ≠ []) := print_ne
 have CPR : Hid (∀ (W' : World) (k : Nat) (vh vr : Value), Below W.heap.size W W' → TreeP All W' k vh vr t → Calls Tryz.prog 16 #[.agg #[vh, vr]] W' (PatPost W' (.string s))) := fun W' k vh vr hb hR => by
  have h := print_any t W' k vh vr (HPv.out W' hb).1.env (HPv.out W' hb).2 hsm hnm hR hlen
  rw [hs] at h
  exact h
 have CF : Hid (∀ (W' : World) (k : Nat) (vh vr : Value), Below W.heap.size W W' → TreeP All W' k vh vr t → Calls Tryz.prog 14 #[.agg #[vh, vr]] W' (PatPost W' (.bool true))) := fun W' k vh vr hb hR => by
  have h := fit_any t W' k vh vr (HPv.out W' hb).1.env hsm hR
  rw [hft] at h
  exact h
 have HSD := Lib.hid hsd
 have HSS := Lib.hid hss
 have HLN := Lib.hid hlen
 have hsz9 : s.size ≤ 140737488355328 := by omega
 obtain ⟨pv, cap, rfl, hcap, hm, -⟩ := hV
 clear hPP CP h hP hp hcap hm hft hnm hsm hlen hpt hs hsd hss hpl
 go_enter Tryz.func7, Tryz.ntmps7
 go_wp2_with (go_at_call 10; refine HCP.out.mono ?_)
 rintro e2 w2 ⟨hb2, vh, vr, k, rfl, hTr⟩
 obtain ⟨hq, hk, rfl, hh9⟩ := hTr.1.shape
 obtain ⟨rq, rk, rfl, hr9⟩ := hTr.2.shape
 obtain ⟨X, hX⟩ : ∃ X, w2.heap.size = X := ⟨_, rfl⟩
 obtain ⟨F, hF⟩ : ∃ F, X + 1 = F := ⟨_, rfl⟩
 obtain ⟨w3, hw3⟩ : ∃ w3, (w2.alloc (.cells #[.slice hq t.hands.length hk, .slice rq t.routes.length rk] 26)).alloc (.cells #[.int .i64 0, .int .i64 0] 29) = w3 := ⟨_, rfl⟩
 have hb3 : Below w2.heap.size w2 w3 := by rw [← hw3]; exact ((Below.refl _ w2).alloc (Nat.le_refl _) _).alloc (by simp) _
 have hs1 : (w2.alloc (.cells #[.slice hq t.hands.length hk, .slice rq t.routes.length rk] 26)).heap.size = X + 1 := by rw [World.size_alloc]; omega
 have hG3 : w3.heap[X]? = some (.cells #[.slice hq t.hands.length hk, .slice rq t.routes.length rk] 26 (0, 0)) := by rw [← hw3, Below.heap_alloc _ _ _ (by rw [hs1]; omega), ← hX]; exact heap_alloc_new w2 _
 have hF3 : w3.heap[F]? = some (.cells #[.int .i64 0, .int .i64 0] 29 (0, 0)) := by rw [← hw3, ← hF, ← hs1]; exact heap_alloc_new _ _
 obtain ⟨g0, g1⟩ := row2_ hG3
 obtain ⟨f0, f1⟩ := row2_ hF3
 have lX := (Array.getElem?_eq_some_iff.1 hG3).1
 have lF := (Array.getElem?_eq_some_iff.1 hF3).1
 have hBW : Below W.heap.size W w3 := hb2.trans (hb3.mono hb2.size)
 have HT3 : Hid (TreeP All w3 k (.slice hq t.hands.length hk) (.slice rq t.routes.length rk) t) := hTr.kept (Q := All) (w' := w3) fun c _ hl => ⟨hb3.block c hl, trivial⟩
 have HWX : Hid (W.heap.size ≤ X) := by have := hb2.size; show _ ≤ _; omega
 have HTX : Hid (TreeP (fun c => c < X) w3 k (.slice hq t.hands.length hk) (.slice rq t.routes.length rk) t) := hTr.kept (Q := fun c => c < X) (w' := w3) fun c _ hl => ⟨hb3.block c hl, by show c < X; omega⟩
 have HX := Lib.hid hX
 have HF := Lib.hid hF
 have Hw3 := Lib.hid hw3
 have HB3 := Lib.hid hBW
 have HG3 := Lib.hid hG3
 have HF3 := Lib.hid hF3
 have C3 := Lib.hid (CPR.out w3 _ _ _ hBW HT3.out)
 clear hTr hX hF hw3 hb3 hs1 hG3 hF3 hBW hb2
 go_upto_region 2 with fail
 rw [HX.out, HF.out, Hw3.out]
 go_wp2_with (go_at_call 16; refine C3.out.mono ?_)
 clear g0 g1 f0 f1 lX lF
 rintro e4 w4 ⟨rfl, hb4⟩
 have HB4 := Lib.hid (HB3.out.trans (hb4.mono HB3.out.size))
 have hG4 := (hb4.block X (Array.getElem?_eq_some_iff.1 HG3.out).1).trans HG3.out
 have hF4 := (hb4.block F (Array.getElem?_eq_some_iff.1 HF3.out).1).trans HF3.out
 obtain ⟨g0, g1⟩ := row2_ hG4
 obtain ⟨f0, f1⟩ := row2_ hF4
 have lX := (Array.getElem?_eq_some_iff.1 hG4).1
 have lF := (Array.getElem?_eq_some_iff.1 hF4).1
 have HT4 := Lib.hid (HT3.out.kept (All.kept hb4))
 have HG4 := Lib.hid hG4
 have HF4 := Lib.hid hF4
 have C4 := Lib.hid (CF.out w4 _ _ _ HB4.out HT4.out)
 have H34 := Lib.hid hb4
 clear hb4 hG4 hF4
 go_upto_region 5 with fail
 go_cut [57] (fun s57 wx => s57 = .bool false ∧ Hid (wx.heap[X]? = some (.cells #[.slice hq t.hands.length hk, .slice rq t.routes.length rk] 26 (0, 0))) ∧ Hid (wx.heap[F]? = some (.cells #[.int .i64 0, .int .i64 0] 29 (0, 0))) ∧ Hid (Below w4.heap.size w4 wx))
 case first =>
  by_cases hz : printW t = []
  ·have h0 : ¬ 0 < t.hands.length + t.routes.length := fun h => HNE.out h hz
   have h1 : t.hands.length = 0 := by omega
   have h2 : t.routes.length = 0 := by omega
   have h3 : s.size = 0 := by rw [HSS.out, hz]; rfl
   have h4 : ((s.size : Nat) : Int) = 0 := by omega
   have H1 := Lib.hid h1
   have H2 := Lib.hid h2
   have H4 := Lib.hid h4
   clear hz h0 h1 h2 h3 h4
   go_wp2_with (go_at_call 14; refine C4.out.mono ?_)
   skip
   rintro e5 w5 ⟨rfl, hb5⟩
   have hG5 := (hb5.block X (Array.getElem?_eq_some_iff.1 HG4.out).1).trans HG4.out
   have hF5 := (hb5.block F (Array.getElem?_eq_some_iff.1 HF4.out).1).trans HF4.out
   obtain ⟨q0, q1⟩ := row2_ hG5
   have lX5 := (Array.getElem?_eq_some_iff.1 hG5).1
   have HG5 := Lib.hid hG5
   have HF5 := Lib.hid hF5
   clear hG5 hF5
   have HB5 := Lib.hid hb5
   clear hb5
   have h4 := H4.out
   rw [H1.out] at q0
   rw [H2.out] at q1
   clear g0 g1
   go_wp2_with fail
   go_meet
   exact ⟨rfl, HG5, HF5, HB5⟩
  ·have h3 : ¬ s.size = 0 := by rw [HSS.out]; exact fun h => hz (List.eq_nil_of_length_eq_zero h)
   have h4 : ¬ ((s.size : Nat) : Int) = 0 := by omega
   have h5 : ¬ s = ByteArray.empty := fun e => h3 (by rw [e]; rfl)
   have H4 := Lib.hid h4
   have H5 := Lib.hid h5
   clear hz h3 h4 h5
   go_wp2_with (go_at_call 14; refine C4.out.mono ?_)
   skip
   rintro e5 w5 ⟨rfl, hb5⟩
   have hG5 := (hb5.block X (Array.getElem?_eq_some_iff.1 HG4.out).1).trans HG4.out
   have hF5 := (hb5.block F (Array.getElem?_eq_some_iff.1 HF4.out).1).trans HF4.out
   obtain ⟨q0, q1⟩ := row2_ hG5
   have lX5 := (Array.getElem?_eq_some_iff.1 hG5).1
   have HG5 := Lib.hid hG5
   have HF5 := Lib.hid hF5
   clear hG5 hF5
   have HB5 := Lib.hid hb5
   clear hb5
   have h4 := H4.out
   have h5 := H5.out
   clear g0 g1
   go_wp2_with fail
   go_meet
   exact ⟨rfl, HG5, HF5, HB5⟩
 case rest =>
  obtain ⟨hs57, HG5, HF5, HB45⟩ := hcut
  subst hs57
  clear g0 g1 f0 f1 lX lF
  have HB5 : Hid (Below W.heap.size W wc) := HB4.out.trans (HB45.out.mono HB4.out.size)
  have HT5 := Lib.hid (HT4.out.kept (All.kept HB45.out))
  obtain ⟨v0, w6, hr, hV6, hb6⟩ := conv_all s wc (by omega)
  have HB6 := Lib.hid (HB5.out.trans (hb6.mono HB5.out.size))
  rw [HSD.out] at hV6
  have CP6 := parse_all (HPv.out w6 HB6.out).1 hV6
  have HG6 := Lib.hid ((hb6.block X (Array.getElem?_eq_some_iff.1 HG5.out).1).trans HG5.out)
  have HF6 := Lib.hid ((hb6.block F (Array.getElem?_eq_some_iff.1 HF5.out).1).trans HF5.out)
  have HT6 := Lib.hid (HT5.out.kept (All.kept hb6))
  have H56 := Lib.hid hb6
  clear hb6 hV6
  rcases HBK.out with ⟨t2, ht2, hsm2⟩ | ⟨p2, e2, ht2, he1, he2⟩
  ·skip
   rw [ht2] at CP6
   have HC6 := Lib.hid CP6
   clear CP6
   go_wp2_with (go_at_call 10; refine HC6.out.mono ?_)
   rintro e7 w7 ⟨hb7, vh2, vr2, k2, rfl, hT7⟩
   obtain ⟨hq2, hk2, rfl, -⟩ := hT7.1.shape
   obtain ⟨rq2, rk2, rfl, -⟩ := hT7.2.shape
   clear hr
   have hG7 := (hb7.block X (Array.getElem?_eq_some_iff.1 HG6.out).1).trans HG6.out
   have hF7 := (hb7.block F (Array.getElem?_eq_some_iff.1 HF6.out).1).trans HF6.out
   have HB7 := Lib.hid (HB6.out.trans (hb7.mono HB6.out.size))
   obtain ⟨Z, hZ⟩ : ∃ Z, w7.heap.size = Z := ⟨_, rfl⟩
   obtain ⟨w8, hw8⟩ : ∃ w8, w7.alloc (.cells #[.slice hq2 t2.hands.length hk2, .slice rq2 t2.routes.length rk2] 26) = w8 := ⟨_, rfl⟩
   have hb8 : Below w7.heap.size w7 w8 := by rw [← hw8]; exact (Below.refl _ w7).alloc (Nat.le_refl _) _
   have hZ8 := aRow_ hw8 hZ
   have hlX : X < w7.heap.size := (Array.getElem?_eq_some_iff.1 hG7).1
   have hlF : F < w7.heap.size := (Array.getElem?_eq_some_iff.1 hF7).1
   have hG8 := (hb8.block X hlX).trans hG7
   have hF8 := (hb8.block F hlF).trans hF7
   have hXF : X ≠ F := by have := HF.out; omega
   have hZF : Z ≠ F := by omega
   have f0 : (w7.alloc (.cells #[.slice hq2 t2.hands.length hk2, .slice rq2 t2.routes.length rk2] 26)).cell? ⟨F, 0, none⟩ = some (.int .i64 0) := by rw [hw8, cell_of_row _ _ _ _ _ _ hF8]; rfl
   have f1 : (w7.alloc (.cells #[.slice hq2 t2.hands.length hk2, .slice rq2 t2.routes.length rk2] 26)).cell? ⟨F, 1, none⟩ = some (.int .i64 0) := by rw [hw8, cell_of_row _ _ _ _ _ _ hF8]; rfl
   have z0 : (w7.alloc (.cells #[.slice hq2 t2.hands.length hk2, .slice rq2 t2.routes.length rk2] 26)).frozen? ⟨F, 0, none⟩ = false := by rw [hw8]; exact frozen_of_row w8 F 0 _ _ hF8
   have z1 : (w7.alloc (.cells #[.slice hq2 t2.hands.length hk2, .slice rq2 t2.routes.length rk2] 26)).frozen? ⟨F, 1, none⟩ = false := by rw [hw8]; exact frozen_of_row w8 F 1 _ _ hF8
   have lF8 : F < (w7.alloc (.cells #[.slice hq2 t2.hands.length hk2, .slice rq2 t2.routes.length rk2] 26)).heap.size := by rw [hw8]; exact (Array.getElem?_eq_some_iff.1 hF8).1
   obtain ⟨w9, hw9⟩ : ∃ w9, (w8.setCell ⟨F, 0, none⟩ (.int .i64 0)).setCell ⟨F, 1, none⟩ (.int .i64 0) = w9 := ⟨_, rfl⟩
   have hF9 : w9.heap[F]? = some (.cells #[.int .i64 0, .int .i64 0] 29 (0, 0)) := by rw [← hw9]; exact heap_setCell_same _ F 1 _ _ _ (heap_setCell_same w8 F 0 _ _ _ hF8)
   have hot : ∀ c, c ≠ F → w9.heap[c]? = w8.heap[c]? := fun c hc => by rw [← hw9, heap_setCell_other _ ⟨F, 1, none⟩ c _ hc, heap_setCell_other _ ⟨F, 0, none⟩ c _ hc]
   have hG9 := (hot X hXF).trans hG8
   have hZ9 := (hot Z hZF).trans hZ8
   have HB9 : Hid (Below W.heap.size W w9) := by
    have h1 := HB7.out.trans (hb8.mono HB7.out.size)
    have hWF : W.heap.size ≤ F := by have := HF.out; have := HX.out; have := HWX.out; omega
    show Below _ _ _
    rw [← hw9]
    exact (h1.setCell (p := ⟨F, 0, none⟩) hWF _).setCell (p := ⟨F, 1, none⟩) hWF _
   have b1 : w9.cell? ⟨F, 1, none⟩ = some (.int .i64 0) := by rw [cell_of_row _ _ _ _ _ _ hF9]; rfl
   have lF9 := (Array.getElem?_eq_some_iff.1 hF9).1
   have HT7 : Hid (TreeP All w9 k2 (.slice hq2 t2.hands.length hk2) (.slice rq2 t2.routes.length rk2) t2) := hT7.kept (Q := All) (w' := w9) fun c hc hl => ⟨(hot c (by have := HF.out; have := HX.out; have := HWX.out; have hc : w6.heap.size ≤ c := hc; have := (Array.getElem?_eq_some_iff.1 HF6.out).1; omega)).trans (hb8.block c hl), trivial⟩
   have h37 := H34.out.trans ((HB45.out.trans ((H56.out.trans (hb7.mono H56.out.size)).mono HB45.out.size)).mono H34.out.size)
   have HT9 : Hid (TreeP All w9 k (.slice hq t.hands.length hk) (.slice rq t.routes.length rk) t) := HTX.out.kept (Q := All) (w' := w9) fun c hc hl => ⟨(hot c (by have := HF.out; have hc : c < X := hc; omega)).trans ((hb8.block c (Nat.lt_of_lt_of_le hl h37.size)).trans (h37.block c hl)), trivial⟩
   clear h37
   have Hw8 := Lib.hid hw8
   have Hw9 := Lib.hid hw9
   have HZe := Lib.hid hZ
   have HG9 := Lib.hid hG9
   have HZ9 := Lib.hid hZ9
   have HF9 := Lib.hid hF9
   clear hw8 hw9 hZ hG9 hZ9 hF9 hG7 hF7 hb8 hZ8 hlX hlF hG8 hF8 hot hb7 hT7
   go_upto_region 8 with fail
   rw [HZe.out, Hw8.out, Hw9.out]
   clear f0 f1 z0 z1 lF8
   obtain ⟨-, hnm2, hsz2, hlen2⟩ := parse_fit ht2
   have hp2 := HB1.out t2 hsm2
   have HSM2 := Lib.hid hsm2
   have CS := Lib.hid (same_any t2 t w9 _ _ _ _ _ _ HT7.out HT9.out)
   rw [hsm2] at CS
   have HT2 := HT7
   obtain ⟨g0, g1⟩ := row2_ HG9.out
   obtain ⟨y0, y1⟩ := row2_ HZ9.out
   have lX := (Array.getElem?_eq_some_iff.1 HG9.out).1
   have lZ := (Array.getElem?_eq_some_iff.1 HZ9.out).1
   have CPR2 : Hid (∀ W', Below w9.heap.size w9 W' → Calls Tryz.prog 16 #[.agg #[.slice hq2 t2.hands.length hk2, .slice rq2 t2.routes.length rk2]] W' (PatPost W' (.string s))) := fun W' hb => by
    have hb0 := HB9.out.trans (hb.mono HB9.out.size)
    have h := print_any t2 W' k2 _ _ (HPv.out W' hb0).1.env (HPv.out W' hb0).2 hsz2 hnm2 (HT7.out.kept (All.kept hb)) hlen2
    rw [hp2] at h
    exact h
   clear hnm2 hsz2 hlen2 hp2 hsm2 ht2
   go_wp2_with (go_at_call 23; refine CS.out.mono ?_)
   clear g0 g1 y0 y1 lX lZ
   rintro e10 w10 ⟨rfl, hb10⟩
   have hZ10 := (hb10.block Z (Array.getElem?_eq_some_iff.1 HZ9.out).1).trans HZ9.out
   obtain ⟨y0, y1⟩ := row2_ hZ10
   have lZ := (Array.getElem?_eq_some_iff.1 hZ10).1
   have HZ10 := Lib.hid hZ10
   have C10 := Lib.hid (CPR2.out w10 hb10)
   have HB10 := Lib.hid (HB9.out.trans (hb10.mono HB9.out.size))
   clear hZ10 hb10
   go_wp2_with (go_at_call 16; refine C10.out.mono ?_)
   clear y0 y1 lZ
   rintro e11 w11 ⟨rfl, hb11⟩
   have HB11 := Lib.hid (HB10.out.trans (hb11.mono HB10.out.size))
   clear hb11
   go_wp2_with (go_at_call 13; refine (CA.out _ HB11.out).mono ?_; rintro e12 w12 ⟨rfl, hb12⟩)
   rw [← HPP.out]
   exact ⟨rfl, HB11.out.trans (hb12.mono HB11.out.size)⟩
  ·skip
   rw [ht2] at CP6
   have HC6 := Lib.hid CP6
   clear CP6
   go_wp2_with (go_at_call 10; refine HC6.out.mono ?_)
   rintro e7 w7 ⟨hb7, rfl⟩
   clear hr
   have hG7 := (hb7.block X (Array.getElem?_eq_some_iff.1 HG6.out).1).trans HG6.out
   have hF7 := (hb7.block F (Array.getElem?_eq_some_iff.1 HF6.out).1).trans HF6.out
   have HB7 := Lib.hid (HB6.out.trans (hb7.mono HB6.out.size))
   obtain ⟨Z, hZ⟩ : ∃ Z, w7.heap.size = Z := ⟨_, rfl⟩
   obtain ⟨w8, hw8⟩ : ∃ w8, w7.alloc (.cells #[.slice none 0 0, .slice none 0 0] 26) = w8 := ⟨_, rfl⟩
   have hb8 : Below w7.heap.size w7 w8 := by rw [← hw8]; exact (Below.refl _ w7).alloc (Nat.le_refl _) _
   have hZ8 := aRow_ hw8 hZ
   have hlX : X < w7.heap.size := (Array.getElem?_eq_some_iff.1 hG7).1
   have hlF : F < w7.heap.size := (Array.getElem?_eq_some_iff.1 hF7).1
   have hG8 := (hb8.block X hlX).trans hG7
   have hF8 := (hb8.block F hlF).trans hF7
   have hXF : X ≠ F := by have := HF.out; omega
   have hZF : Z ≠ F := by omega
   have f0 : (w7.alloc (.cells #[.slice none 0 0, .slice none 0 0] 26)).cell? ⟨F, 0, none⟩ = some (.int .i64 0) := by rw [hw8, cell_of_row _ _ _ _ _ _ hF8]; rfl
   have f1 : (w7.alloc (.cells #[.slice none 0 0, .slice none 0 0] 26)).cell? ⟨F, 1, none⟩ = some (.int .i64 0) := by rw [hw8, cell_of_row _ _ _ _ _ _ hF8]; rfl
   have z0 : (w7.alloc (.cells #[.slice none 0 0, .slice none 0 0] 26)).frozen? ⟨F, 0, none⟩ = false := by rw [hw8]; exact frozen_of_row w8 F 0 _ _ hF8
   have z1 : (w7.alloc (.cells #[.slice none 0 0, .slice none 0 0] 26)).frozen? ⟨F, 1, none⟩ = false := by rw [hw8]; exact frozen_of_row w8 F 1 _ _ hF8
   have lF8 : F < (w7.alloc (.cells #[.slice none 0 0, .slice none 0 0] 26)).heap.size := by rw [hw8]; exact (Array.getElem?_eq_some_iff.1 hF8).1
   obtain ⟨w9, hw9⟩ : ∃ w9, (w8.setCell ⟨F, 0, none⟩ (.int .i64 (p2 : Nat))).setCell ⟨F, 1, none⟩ (.int .i64 (e2 : Nat)) = w9 := ⟨_, rfl⟩
   have hF9 : w9.heap[F]? = some (.cells #[.int .i64 (p2 : Nat), .int .i64 (e2 : Nat)] 29 (0, 0)) := by rw [← hw9]; exact heap_setCell_same _ F 1 _ _ _ (heap_setCell_same w8 F 0 _ _ _ hF8)
   have hot : ∀ c, c ≠ F → w9.heap[c]? = w8.heap[c]? := fun c hc => by rw [← hw9, heap_setCell_other _ ⟨F, 1, none⟩ c _ hc, heap_setCell_other _ ⟨F, 0, none⟩ c _ hc]
   have hG9 := (hot X hXF).trans hG8
   have hZ9 := (hot Z hZF).trans hZ8
   have HB9 : Hid (Below W.heap.size W w9) := by
    have h1 := HB7.out.trans (hb8.mono HB7.out.size)
    have hWF : W.heap.size ≤ F := by have := HF.out; have := HX.out; have := HWX.out; omega
    show Below _ _ _
    rw [← hw9]
    exact (h1.setCell (p := ⟨F, 0, none⟩) hWF _).setCell (p := ⟨F, 1, none⟩) hWF _
   have b1 : w9.cell? ⟨F, 1, none⟩ = some (.int .i64 (e2 : Nat)) := by rw [cell_of_row _ _ _ _ _ _ hF9]; rfl
   have lF9 := (Array.getElem?_eq_some_iff.1 hF9).1
   have Hw8 := Lib.hid hw8
   have Hw9 := Lib.hid hw9
   have HZe := Lib.hid hZ
   have HG9 := Lib.hid hG9
   have HZ9 := Lib.hid hZ9
   have HF9 := Lib.hid hF9
   clear hw8 hw9 hZ hG9 hZ9 hF9 hG7 hF7 hb8 hZ8 hlX hlF hG8 hF8 hot hb7
   go_upto_region 8 with fail
   rw [HZe.out, Hw8.out, Hw9.out]
   clear f0 f1 z0 z1 lF8
   have he0 : ¬ ((e2 : Nat) : Int) = 0 := by omega
   obtain ⟨n1, n2⟩ := neI he0
   have he3 : (60 : Int) ≤ ((e2 : Nat) : Int) := by omega
   have he4 : ((e2 : Nat) : Int) ≤ 66 := by omega
   clear he0 he1 he2
   go_wp2_with (go_at_call 13; refine (CA.out _ HB9.out).mono ?_; rintro e10 w10 ⟨rfl, hb10⟩)
   rw [← HPP.out]
   exact ⟨rfl, HB9.out.trans (hb10.mono HB9.out.size)⟩
theorem oneform_any {W : World} {ad : Addr} {v : Value} {l : List UInt8} (hP : Px W ad) (hp : Pow W) (hV : Bs W v l) :
  Calls Tryz.prog 7 #[v] W (PatPost W (.bool true)) := by
 cases h : parseS l with
 | tree t => exact oneform_b hP hp hV h
 | fault p e => exact oneform_a hP hp hV h
end
end Go.Proofs.YtbdllefnghddcaaGreatDoor
