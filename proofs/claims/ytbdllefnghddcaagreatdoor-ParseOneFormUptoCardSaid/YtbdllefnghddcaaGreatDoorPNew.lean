/- PARSE: newTokens. PARSE: caught. PARSE: recover in a region that draws: the law that the kit lacks: all orders of a region, and a region that draws with recover in it. -/
import Derived.Test.YtbdllefnghddcaaGreatDoorPPl
import Derived.Test.YtbdllefnghddcaaGreatDoorPMem
import Derived.LaidEql
import Derived.Recover
import Derived.Orders
namespace Go.Proofs.YtbdllefnghddcaaGreatDoor
section
open Go Go.RowKit
attribute [local go_sem ↓] Go.wp_at_zero Go.wp_at_succ

theorem info_str : (Tryz.prog.info? 9).map (fun i => (i.zero, i.size, i.bytes)) = some (some (.string ByteArray.empty), 1, 16) := by kernel_rfl
theorem new_step {W WR w2 w1' : World} {X D g2 cap2 k c : Nat} {q : Option Addr} {TY : TypeId} {zs : Array Value} {c0 c2 c3 c4 c5 : Value} {l : List UInt8} {ts : List Tok} {t : Tok} (hB : Below W.heap.size W WR) (hX : WR.heap[X]? = some (.cells zs TY (0, 0))) (hD : WR.heap[D]? = some (.cells #[c0, .slice q k c, c2, c3, c4, c5] TY (0, 0))) (hO : WR.ownsRow (D + 1) 9 1 (.slice q k c) k ((ts.take k).map fun t => Value.string (nmT ⟨l, ts⟩ t))) (hxw : W.heap.size ≤ X) (hxd : X < D) (hA : Below WR.heap.size WR w2) (hg : w2.grownBy w1' (Value.ownBlock (.slice q k c))) (hown : w1'.ownsRow (D + 1) 9 1 (.slice (some ⟨g2, 0, none⟩) (k + 1) cap2) (k + 1) (((ts.take k).map fun t => Value.string (nmT ⟨l, ts⟩ t)) ++ [.string (nmT ⟨l, ts⟩ t)])) (ht : ts[k]? = some t) :
  w1'.cell? ⟨D, 1, none⟩ = some (.slice q k c) ∧ w1'.frozen? ⟨D, 1, none⟩ = false ∧ D < w1'.heap.size ∧ (∀ b, b < WR.heap.size → some b ≠ Value.ownBlock (.slice q k c) → w1'.heap[b]? = WR.heap[b]?) ∧ Below W.heap.size W (w1'.setCell ⟨D, 1, none⟩ (.slice (some ⟨g2, 0, none⟩) (k + 1) cap2)) ∧ (w1'.setCell ⟨D, 1, none⟩ (.slice (some ⟨g2, 0, none⟩) (k + 1) cap2)).heap[X]? = some (.cells zs TY (0, 0)) ∧ (w1'.setCell ⟨D, 1, none⟩ (.slice (some ⟨g2, 0, none⟩) (k + 1) cap2)).heap[D]? = some (.cells #[c0, .slice (some ⟨g2, 0, none⟩) (k + 1) cap2, c2, c3, c4, c5] TY (0, 0)) ∧ (w1'.setCell ⟨D, 1, none⟩ (.slice (some ⟨g2, 0, none⟩) (k + 1) cap2)).ownsRow (D + 1) 9 1 (.slice (some ⟨g2, 0, none⟩) (k + 1) cap2) (k + 1) ((ts.take (k + 1)).map fun t => Value.string (nmT ⟨l, ts⟩ t)) := by
 have hl := hO.lt
 have hl2 := hown.lt
 have hsA := hA.size
 have hb : ∀ b, b < WR.heap.size → some b ≠ Value.ownBlock (.slice q k c) → w1'.heap[b]? = WR.heap[b]? := fun b h1 h2 => (hg.block b (by omega) h2).trans (hA.block b h1)
 have hdl := (Array.getElem?_eq_some_iff.1 hD).1
 have hxl := (Array.getElem?_eq_some_iff.1 hX).1
 have hD1 := (hb D hdl (fun e => by have := (hl D e.symm).1; omega)).trans hD
 have hX1 := (hb X hxl (fun e => by have := (hl X e.symm).1; omega)).trans hX
 have hgs : w1'.grownBy (w1'.setCell ⟨D, 1, none⟩ (.slice (some ⟨g2, 0, none⟩) (k + 1) cap2)) (some D) := g_set (g_refl w1' D) _
 have hB1 : Below W.heap.size W w1' := (hB.trans (hA.mono hB.size)).grown hg (hB.trans (hA.mono hB.size)).size (fun b e => by have := (hl b e).1; omega)
 have e : (ts.take (k + 1)).map (fun t => Value.string (nmT ⟨l, ts⟩ t)) = ((ts.take k).map fun t => Value.string (nmT ⟨l, ts⟩ t)) ++ [.string (nmT ⟨l, ts⟩ t)] := by rw [List.take_add_one, ht]; simp
 refine ⟨by rw [cell_of_row _ _ _ _ _ _ hD1]; rfl, frozen_of_row _ D 1 _ _ hD1, (Array.getElem?_eq_some_iff.1 hD1).1, hb, hB1.grown hgs hB1.size (fun b e => by injection e with e; omega), (Below.heap_setCell _ _ _ _ (fun e => by have e : X = D := e; omega)).trans hX1, heap_setCell_same w1' D 1 _ _ _ hD1, ?_⟩
 rw [e]
 exact ownsRow_heap hown fun b hb => Below.heap_setCell _ _ _ _ (fun e => by have e : b = D := e; have := (hl2 b hb).1; omega)
theorem set6n {W : World} {b : Nat} {t : TypeId} {o0 o1 o2 o3 o4 o5 : Value} (h : W.heap[b]? = some (.cells #[o0, o1, o2, o3, o4, o5] t (0, 0))) (c0 c1 c2 c3 c4 c5 : Value) :
  ((((((W.setCell ⟨b, 0, none⟩ c0).setCell ⟨b, 1, none⟩ c1).setCell ⟨b, 2, none⟩ c2).setCell ⟨b, 3, none⟩ c3).setCell ⟨b, 4, none⟩ c4).setCell ⟨b, 5, none⟩ c5).heap[b]? = some (.cells #[c0, c1, c2, c3, c4, c5] t (0, 0)) ∧ W.grownBy ((((((W.setCell ⟨b, 0, none⟩ c0).setCell ⟨b, 1, none⟩ c1).setCell ⟨b, 2, none⟩ c2).setCell ⟨b, 3, none⟩ c3).setCell ⟨b, 4, none⟩ c4).setCell ⟨b, 5, none⟩ c5) (some b) := by
 have g := gr_refl W (some b)
 have h0 : (W.setCell ⟨b, 0, none⟩ c0).heap[b]? = some (.cells #[c0, o1, o2, o3, o4, o5] t (0, 0)) := heap_setCell_same W b 0 _ _ _ h
 have g0 := gr_set g 0 c0
 generalize W.setCell ⟨b, 0, none⟩ c0 = W0 at h0 g0 ⊢
 have h1 : (W0.setCell ⟨b, 1, none⟩ c1).heap[b]? = some (.cells #[c0, c1, o2, o3, o4, o5] t (0, 0)) := heap_setCell_same W0 b 1 _ _ _ h0
 have g1 := gr_set g0 1 c1
 generalize W0.setCell ⟨b, 1, none⟩ c1 = W1 at h1 g1 ⊢
 have h2 : (W1.setCell ⟨b, 2, none⟩ c2).heap[b]? = some (.cells #[c0, c1, c2, o3, o4, o5] t (0, 0)) := heap_setCell_same W1 b 2 _ _ _ h1
 have g2 := gr_set g1 2 c2
 generalize W1.setCell ⟨b, 2, none⟩ c2 = W2 at h2 g2 ⊢
 have h3 : (W2.setCell ⟨b, 3, none⟩ c3).heap[b]? = some (.cells #[c0, c1, c2, c3, o4, o5] t (0, 0)) := heap_setCell_same W2 b 3 _ _ _ h2
 have g3 := gr_set g2 3 c3
 generalize W2.setCell ⟨b, 3, none⟩ c3 = W3 at h3 g3 ⊢
 have h4 : (W3.setCell ⟨b, 4, none⟩ c4).heap[b]? = some (.cells #[c0, c1, c2, c3, c4, o5] t (0, 0)) := heap_setCell_same W3 b 4 _ _ _ h3
 have g4 := gr_set g3 4 c4
 generalize W3.setCell ⟨b, 4, none⟩ c4 = W4 at h4 g4 ⊢
 have h5 : (W4.setCell ⟨b, 5, none⟩ c5).heap[b]? = some (.cells #[c0, c1, c2, c3, c4, c5] t (0, 0)) := heap_setCell_same W4 b 5 _ _ _ h4
 have g5 := gr_set g4 5 c5
 exact ⟨h5, g5⟩
theorem res_new {W : World} {B : Nat} {cs : Array Value} (h : W.heap[B]? = some (.cells cs 58 (0, 0))) (hs : cs.size = 6) (tmps : Array Value) (h4 : tmps.getD 4 undef = .pointer (some ⟨B, 0, none⟩)) :
  (results Tryz.f29 tmps).run Tryz.prog W = .ok (.agg cs) W := by
 have h4' : tmps[4]?.getD undef = .pointer (some ⟨B, 0, none⟩) := by simpa using h4
 have hl := run_loadVar_row (P := Tryz.prog) W B 58 58 cs (0, 0) _ h Tryz.underlying58 rfl (by rw [hs]; kernel_rfl)
 simp [results, Tryz.results29, h4', asAddr, hl]
set_option maxRecDepth 100000 in
set_option maxHeartbeats 16000000 in
set_option linter.unusedSimpArgs false in
theorem tnew_any {W : World} {v vt : Value} {l : List UInt8} {ts : List Tok} (hV : Bs W v l) (hT : Tks W vt ts) (hok : ∀ t ∈ ts, TokOk l.length t) (hn : ts.length ≤ 16384) :
  Calls Tryz.prog 29 #[v, vt] W (fun e w' => ∃ nv, e = .returned (.agg #[vt, nv, .int .i64 (l.length : Nat), .int .i64 0, .int .i64 0, .int .i64 0]) ∧ StrsP (fun _ => True) w' nv (ts.map (nmT ⟨l, ts⟩)) ∧ Below W.heap.size W w') := by
 obtain ⟨PP, hPP⟩ : ∃ PP : Ending → World → Prop, (fun e w' => ∃ nv, e = .returned (.agg #[vt, nv, .int .i64 (l.length : Nat), .int .i64 0, .int .i64 0, .int .i64 0]) ∧ StrsP (fun _ => True) w' nv (ts.map (nmT ⟨l, ts⟩)) ∧ Below W.heap.size W w') = PP := ⟨_, rfl⟩
 rw [hPP]
 have HV := Lib.hid hV
 have HT := Lib.hid hT
 obtain ⟨pv, cv, rfl, -, -, -⟩ := hV
 obtain ⟨pt, ct, rfl, -, -, -⟩ := hT
 have HPP := Lib.hid hPP
 obtain ⟨X, hX⟩ : ∃ X, W.heap.size = X := ⟨_, rfl⟩
 obtain ⟨D, hD⟩ : ∃ D, X + 1 = D := ⟨_, rfl⟩
 obtain ⟨WA, hWA⟩ : ∃ WA, (W.alloc (.cells #[.slice none 0 0, .slice none 0 0, .int .i64 0, .int .i64 0, .int .i64 0, .int .i64 0] 58)).alloc (.cells #[.slice pt ts.length ct, .slice none 0 0, .int .i64 (l.length : Nat), .int .i64 0, .int .i64 0, .int .i64 0] 58) = WA := ⟨_, rfl⟩
 have hbA : Below W.heap.size W WA := by rw [← hWA]; exact ((Below.refl _ W).alloc (Nat.le_refl _) _).alloc (by simp) _
 have hs1 : (W.alloc (.cells #[.slice none 0 0, .slice none 0 0, .int .i64 0, .int .i64 0, .int .i64 0, .int .i64 0] 58)).heap.size = D := by rw [World.size_alloc]; omega
 have hsA : D + 1 ≤ WA.heap.size := by rw [← hWA, World.size_alloc, hs1]; omega
 have hzX : WA.heap[X]? = some (.cells #[.slice none 0 0, .slice none 0 0, .int .i64 0, .int .i64 0, .int .i64 0, .int .i64 0] 58 (0, 0)) := by rw [← hWA, Below.heap_alloc _ _ _ (by rw [hs1]; omega), ← hX]; exact heap_alloc_new W _
 have hzD := aRow_ hWA hs1
 have hxd : X < D := by omega
 have hxw : W.heap.size ≤ X := by omega
 have HX := Lib.hid hX
 have HDD := Lib.hid hD
 have HWA := Lib.hid hWA
 have HBA := Lib.hid hbA
 have HSA := Lib.hid hsA
 have HZX := Lib.hid hzX
 have HZD := Lib.hid hzD
 have HXW := Lib.hid hxw
 have HOK := Lib.hid hok
 obtain ⟨i0, hi, hz0, hz1, hz2⟩ := info_of info_str
 clear hPP hX hWA hzX hzD hbA hs1 hD hsA hxw hok
 go_enter Tryz.func29, Tryz.ntmps29
 go_upto_region 2 with fail
 simp only [World.size_alloc, HX.out, HDD.out]
 rw [HWA.out]
 go_wp2_with fail
 go_loopw [14] (fun s14 wr => ∃ (k : Nat) (q : Option Addr) (c : Nat), s14 = .int .i64 (k : Nat) ∧ k ≤ ts.length ∧ D + 1 ≤ wr.heap.size ∧ Hid (Below W.heap.size W wr) ∧ Hid (wr.heap[X]? = some (.cells #[.slice none 0 0, .slice none 0 0, .int .i64 0, .int .i64 0, .int .i64 0, .int .i64 0] 58 (0, 0))) ∧ Hid (wr.heap[D]? = some (.cells #[.slice pt ts.length ct, .slice q k c, .int .i64 (l.length : Nat), .int .i64 0, .int .i64 0, .int .i64 0] 58 (0, 0))) ∧ Hid (wr.ownsRow (D + 1) 9 1 (.slice q k c) k ((ts.take k).map fun t => Value.string (nmT ⟨l, ts⟩ t)))) (fun s14 wr => match s14 with | .int _ k => (ts.length - k.toNat : Nat) | _ => 0)
 case atStart => exact ⟨0, none, 0, rfl, Nat.zero_le _, HSA.out, HBA.out, HZX.out, HZD.out, World.ownsRow_nil _ _ _ _⟩
 case round =>
  obtain ⟨k, q, c, rfl, hk, hsz, HB, HXR, HDR, HOW⟩ := hrel
  by_cases hkl : k < ts.length
  ·have hkI : (k : Int) < (ts.length : Int) := by omega
   have hk0 : (0 : Int) ≤ (k : Int) := by omega
   obtain ⟨t, hat⟩ : ∃ t, ts[k]? = some t := ⟨_, List.getElem?_eq_getElem hkl⟩
   obtain ⟨tb, to_, tcap, htv, htb, n0, n1, n2, n3, n4⟩ := (HT.out.below HB.out).tok hat
   injection htv with e1 e2 e3
   subst e1
   obtain ⟨-, -, o1, o2⟩ := HOK.out t (List.mem_of_getElem? hat)
   obtain ⟨sq, sc, hsl, hsb⟩ := HV.out.window o1 o2
   have HSB := Lib.hid hsb
   obtain ⟨R, hR⟩ : ∃ R, wr.heap.size = R := ⟨_, rfl⟩
   obtain ⟨WR, hWR⟩ : ∃ WR, wr.alloc (.cells #[.int .i64 (t.kind : Nat), .int .i64 (t.pos : Nat), .int .i64 (t.stop : Nat), .int .u64 (t.num : Nat), .string (ba t.text)] 114) = WR := ⟨_, rfl⟩
   have hbR : Below wr.heap.size wr WR := by rw [← hWR]; exact (Below.refl _ _).alloc (Nat.le_refl _) _
   have hzR := heap_alloc_new wr (.cells #[.int .i64 (t.kind : Nat), .int .i64 (t.pos : Nat), .int .i64 (t.stop : Nat), .int .u64 (t.num : Nat), .string (ba t.text)] 114)
   rw [hR, hWR] at hzR
   have hDR : D < R := by omega
   have HRD : Hid (WR.heap[D]? = some (.cells #[.slice (some ⟨tb, to_, none⟩) ts.length ct, .slice q k c, .int .i64 (l.length : Nat), .int .i64 0, .int .i64 0, .int .i64 0] 58 (0, 0))) := (hbR.block D (by omega)).trans HDR.out
   have HRX : Hid (WR.heap[X]? = some (.cells #[.slice none 0 0, .slice none 0 0, .int .i64 0, .int .i64 0, .int .i64 0, .int .i64 0] 58 (0, 0))) := (hbR.block X (by omega)).trans HXR.out
   have HBR := Lib.hid (HB.out.trans (hbR.mono HB.out.size))
   have HOR : Hid (WR.ownsRow (D + 1) 9 1 (.slice q k c) k ((ts.take k).map fun t => Value.string (nmT ⟨l, ts⟩ t))) := ownsRow_heap HOW.out fun b hb => hbR.block b (HOW.out.lt b hb).2
   have HLW := Lib.hid (fun b hb => (HOW.out.lt b hb))
   have HWR := Lib.hid hWR
   have HR := Lib.hid hR
   have HZR := Lib.hid hzR
   have hsR : R + 1 = WR.heap.size := by rw [← hWR, World.size_alloc, hR]
   have HSR := Lib.hid hsR
   have HAT := Lib.hid hat
   have hrl := (Array.getElem?_eq_some_iff.1 hzR).1
   clear hat htb hsb hR hWR hbR hzR hsR e2 e3 o1 o2
   go_upto_region 5 with fail
   rw [HWR.out, HR.out]
   have r1 : WR.cell? ⟨R, 1, none⟩ = some (.int .i64 (t.pos : Nat)) := by rw [cell_of_row _ _ _ _ _ _ HZR.out]; rfl
   have r2 : WR.cell? ⟨R, 2, none⟩ = some (.int .i64 (t.stop : Nat)) := by rw [cell_of_row _ _ _ _ _ _ HZR.out]; rfl
   have d1 : WR.cell? ⟨D, 1, none⟩ = some (.slice q k c) := by rw [cell_of_row _ _ _ _ _ _ HRD.out]; rfl
   have fd1 := frozen_of_row WR D 1 _ _ HRD.out
   have dl := (Array.getElem?_eq_some_iff.1 HRD.out).1
   have HKS : Hid (∀ W' : World, W'.heap[R]? = WR.heap[R]? → W'.cell? ⟨R, 1, none⟩ = some (.int .i64 (t.pos : Nat)) ∧ W'.cell? ⟨R, 2, none⟩ = some (.int .i64 (t.stop : Nat))) := fun W' h => ⟨by rw [cell_of_row _ _ _ _ _ _ (h.trans HZR.out)]; rfl, by rw [cell_of_row _ _ _ _ _ _ (h.trans HZR.out)]; rfl⟩
   have htx : (convert 22 9 (.slice sq (t.stop - t.pos) sc)).run Tryz.prog WR.drew = .ok (.string (nmT ⟨l, ts⟩ t)) WR.drew := ((HSB.out.below HBR.out).below (Below.refl _ _).drew).text
   refine wp_region_held_drew (S := fun W' => W'.cell? ⟨R, 1, none⟩ = some (.int .i64 (t.pos : Nat)) ∧ W'.cell? ⟨R, 2, none⟩ = some (.int .i64 (t.stop : Nat))) (by kernel_rfl) ⟨r1, r2⟩ (fun hHeld => ?_)
   refine takeQ_ (i := 0) (v := ?_) rfl (by kernel_rfl) (fun _ _ _ h => h) (by rfl) ?_ (by assumption) ?_
   rotate_left
   focus (intro w' hSw; (try dsimp only at hSw); go_simp; try with_reducible rfl)
   (try simp only [Act.put, puts_])
   refine takeQ_ (i := 2) (v := ?_) rfl (by kernel_rfl) (fun _ _ _ h => h) (by rfl) ?_ (by assumption) ?_
   rotate_left
   focus (intro w' hSw; (try dsimp only at hSw); go_simp; try with_reducible rfl)
   (try simp only [Act.put, puts_])
   refine takeQ_ (i := 3) (v := ?_) rfl (by kernel_rfl) (fun _ _ _ h => h) (by rfl) ?_ (by assumption) ?_
   rotate_left
   focus (intro w' hSw; (try dsimp only at hSw); go_simp; try with_reducible rfl)
   (try simp only [Act.put, puts_])
   refine takeQ_ (i := 4) (v := ?_) rfl (by kernel_rfl) (fun _ _ _ h => h) (by rfl) ?_ (by assumption) ?_
   rotate_left
   focus (intro w' hSw; (try dsimp only at hSw); go_simp; try with_reducible rfl)
   (try simp only [Act.put, puts_])
   refine takeQ_ (i := 5) (v := ?_) rfl (by kernel_rfl) (fun _ _ _ h => h) (by rfl) ?_ (by assumption) ?_
   rotate_left
   focus (intro w' hSw; (try dsimp only at hSw); go_simp; try with_reducible rfl)
   (try simp only [Act.put, puts_])
   refine takeQ_ (i := 6) (v := ?_) rfl (by kernel_rfl) (fun _ _ _ h => h) (by rfl) ?_ (by assumption) ?_
   rotate_left
   focus (intro w' hSw; (try dsimp only at hSw); go_simp; try with_reducible rfl)
   (try simp only [Act.put, puts_])
   refine takeQ_ (i := 7) (v := ?_) rfl (by kernel_rfl) (fun _ _ _ h => h) (by rfl) ?_ (by assumption) ?_
   rotate_left
   focus (intro w' hSw; (try dsimp only at hSw); go_simp; try with_reducible rfl)
   (try simp only [Act.put, puts_])
   refine wpAnyH_ready (rs := [1, 8]) (by kernel_rfl) (by simp) ?_
   refine AllReadyH.cons (o := _) rfl (fun K hK => ?_) ?_
   ·go_simp
    refine hK.out _ _ (HKS.out _ rfl) (fun hHeld => ?_)
    clear hK K
    (try simp only [Act.put, puts_])
    refine wpAnyH_ready (rs := [8]) (by kernel_rfl) (by simp) ?_
    refine AllReadyH.cons (o := _) rfl (fun K hK => ?_) AllReadyH.nil
    go_simp
    refine hK.out _ _ (HKS.out _ rfl) (fun hHeld => ?_)
    clear hK K
    (try simp only [Act.put, puts_])
    refine wpAnyH_ready (rs := [9]) (by kernel_rfl) (by simp) ?_
    refine AllReadyH.cons (o := _) rfl (fun K hK => ?_) AllReadyH.nil
    go_simp
    refine hK.out _ _ (HKS.out _ (((Below.refl _ _).alloc (Nat.le_refl _) _).block R hrl)) (fun hHeld => ?_)
    clear hK K
    (try simp only [Act.put, puts_])
    refine wpAnyH_ready (rs := [10]) (by kernel_rfl) (by simp) ?_
    refine AllReadyH.cons (o := _) rfl (fun K hK => ?_) AllReadyH.nil
    (refine step_append_lies _ (by rfl) _ _ _ (by rfl) (D + 1) 9 i0 _ 1 16 Tryz.underlying56 hi hz0 hz1 hz2 rfl (by decide) (.slice q k c) k ((ts.take k).map fun t => Value.string (nmT ⟨l, ts⟩ t)) (by rfl) (HOR.out.alloc _) ⟨WR.heap.size, 0, none⟩ 1 1 [.string (nmT ⟨l, ts⟩ t)] (by rfl) rfl (news_flat WR [.string (nmT ⟨l, ts⟩ t)] _) (by intro u hu; simp at hu; subst hu; rfl) (by decide) (by unfold maxLen; omega) (by omega) (by rw [World.size_drew, World.size_alloc]; omega) (WR.heap.size + 1) (by simp) ?_); intro g2 cap2 w1' hown' hgrow hat2 hlt2; obtain ⟨y1, y2, y3, y4, F1, F2, F3, F4⟩ := new_step HBR.out HRX.out HRD.out HOR.out HXW.out hxd (((Below.refl _ _).alloc (Nat.le_refl _) _).drew) hgrow hown' HAT.out; have HF1 := Lib.hid F1; have HF2 := Lib.hid F2; have HF3 := Lib.hid F3; have HF4 := Lib.hid F4; have HY4 := Lib.hid (y4 R hrl (fun e => by have := (HLW.out R e.symm).2; have := HR.out; omega)); clear F1 F2 F3 F4 y4 hown' hgrow hat2
    refine hK.out _ _ (HKS.out _ HY4.out) (fun hHeld => ?_)
    clear hK K
    (try simp only [Act.put, puts_])
    refine takeQ_ (i := 11) (v := ?_) rfl (by kernel_rfl) (fun _ _ _ h => h) (by rfl) ?_ (by assumption) ?_
    rotate_left
    focus (intro w' hSw; (try dsimp only at hSw); go_simp; try with_reducible rfl)
    (try simp only [Act.put, puts_])
    refine wpAnyH_ready (rs := [12]) (by kernel_rfl) (by simp) ?_
    refine AllReadyH.cons (o := _) rfl (fun K hK => ?_) AllReadyH.nil
    go_simp
    refine hK.out _ _ (HKS.out _ ((Below.heap_setCell _ _ _ _ (fun e => by have e : R = D := e; omega)).trans HY4.out)) (fun hHeld => ?_)
    clear hK K
    (try simp only [Act.put, puts_])
    refine wpAnyH_done (by kernel_rfl) ?_ _
    go_simp
    go_wp2_with fail
    go_roundw
    case rel => exact ⟨k + 1, some ⟨g2, 0, none⟩, cap2, rfl, by omega, by rw [World.size_setCell]; omega, HF1.out, HF2.out, HF3.out, HF4.out⟩
    case measure => (show ts.length - _ < ts.length - _; omega)
   refine AllReadyH.cons (o := _) rfl (fun K hK => ?_) AllReadyH.nil
   go_simp
   refine hK.out _ _ (HKS.out _ rfl) (fun hHeld => ?_)
   clear hK K
   (try simp only [Act.put, puts_])
   refine wpAnyH_ready (rs := [1, 9]) (by kernel_rfl) (by simp) ?_
   refine AllReadyH.cons (o := _) rfl (fun K hK => ?_) ?_
   ·go_simp
    refine hK.out _ _ (HKS.out _ rfl) (fun hHeld => ?_)
    clear hK K
    (try simp only [Act.put, puts_])
    refine wpAnyH_ready (rs := [9]) (by kernel_rfl) (by simp) ?_
    refine AllReadyH.cons (o := _) rfl (fun K hK => ?_) AllReadyH.nil
    go_simp
    refine hK.out _ _ (HKS.out _ (((Below.refl _ _).alloc (Nat.le_refl _) _).block R hrl)) (fun hHeld => ?_)
    clear hK K
    (try simp only [Act.put, puts_])
    refine wpAnyH_ready (rs := [10]) (by kernel_rfl) (by simp) ?_
    refine AllReadyH.cons (o := _) rfl (fun K hK => ?_) AllReadyH.nil
    (refine step_append_lies _ (by rfl) _ _ _ (by rfl) (D + 1) 9 i0 _ 1 16 Tryz.underlying56 hi hz0 hz1 hz2 rfl (by decide) (.slice q k c) k ((ts.take k).map fun t => Value.string (nmT ⟨l, ts⟩ t)) (by rfl) (HOR.out.alloc _) ⟨WR.heap.size, 0, none⟩ 1 1 [.string (nmT ⟨l, ts⟩ t)] (by rfl) rfl (news_flat WR [.string (nmT ⟨l, ts⟩ t)] _) (by intro u hu; simp at hu; subst hu; rfl) (by decide) (by unfold maxLen; omega) (by omega) (by rw [World.size_drew, World.size_alloc]; omega) (WR.heap.size + 1) (by simp) ?_); intro g2 cap2 w1' hown' hgrow hat2 hlt2; obtain ⟨y1, y2, y3, y4, F1, F2, F3, F4⟩ := new_step HBR.out HRX.out HRD.out HOR.out HXW.out hxd (((Below.refl _ _).alloc (Nat.le_refl _) _).drew) hgrow hown' HAT.out; have HF1 := Lib.hid F1; have HF2 := Lib.hid F2; have HF3 := Lib.hid F3; have HF4 := Lib.hid F4; have HY4 := Lib.hid (y4 R hrl (fun e => by have := (HLW.out R e.symm).2; have := HR.out; omega)); clear F1 F2 F3 F4 y4 hown' hgrow hat2
    refine hK.out _ _ (HKS.out _ HY4.out) (fun hHeld => ?_)
    clear hK K
    (try simp only [Act.put, puts_])
    refine takeQ_ (i := 11) (v := ?_) rfl (by kernel_rfl) (fun _ _ _ h => h) (by rfl) ?_ (by assumption) ?_
    rotate_left
    focus (intro w' hSw; (try dsimp only at hSw); go_simp; try with_reducible rfl)
    (try simp only [Act.put, puts_])
    refine wpAnyH_ready (rs := [12]) (by kernel_rfl) (by simp) ?_
    refine AllReadyH.cons (o := _) rfl (fun K hK => ?_) AllReadyH.nil
    go_simp
    refine hK.out _ _ (HKS.out _ ((Below.heap_setCell _ _ _ _ (fun e => by have e : R = D := e; omega)).trans HY4.out)) (fun hHeld => ?_)
    clear hK K
    (try simp only [Act.put, puts_])
    refine wpAnyH_done (by kernel_rfl) ?_ _
    go_simp
    go_wp2_with fail
    go_roundw
    case rel => exact ⟨k + 1, some ⟨g2, 0, none⟩, cap2, rfl, by omega, by rw [World.size_setCell]; omega, HF1.out, HF2.out, HF3.out, HF4.out⟩
    case measure => (show ts.length - _ < ts.length - _; omega)
   refine AllReadyH.cons (o := _) rfl (fun K hK => ?_) AllReadyH.nil
   go_simp
   refine hK.out _ _ (HKS.out _ (((Below.refl _ _).alloc (Nat.le_refl _) _).block R hrl)) (fun hHeld => ?_)
   clear hK K
   (try simp only [Act.put, puts_])
   refine wpAnyH_ready (rs := [1]) (by kernel_rfl) (by simp) ?_
   refine AllReadyH.cons (o := _) rfl (fun K hK => ?_) AllReadyH.nil
   go_simp
   refine hK.out _ _ (HKS.out _ (((Below.refl _ _).alloc (Nat.le_refl _) _).block R hrl)) (fun hHeld => ?_)
   clear hK K
   (try simp only [Act.put, puts_])
   refine wpAnyH_ready (rs := [10]) (by kernel_rfl) (by simp) ?_
   refine AllReadyH.cons (o := _) rfl (fun K hK => ?_) AllReadyH.nil
   (refine step_append_lies _ (by rfl) _ _ _ (by rfl) (D + 1) 9 i0 _ 1 16 Tryz.underlying56 hi hz0 hz1 hz2 rfl (by decide) (.slice q k c) k ((ts.take k).map fun t => Value.string (nmT ⟨l, ts⟩ t)) (by rfl) (HOR.out.alloc _) ⟨WR.heap.size, 0, none⟩ 1 1 [.string (nmT ⟨l, ts⟩ t)] (by rfl) rfl (news_flat WR [.string (nmT ⟨l, ts⟩ t)] _) (by intro u hu; simp at hu; subst hu; rfl) (by decide) (by unfold maxLen; omega) (by omega) (by rw [World.size_drew, World.size_alloc]; omega) (WR.heap.size + 1) (by simp) ?_); intro g2 cap2 w1' hown' hgrow hat2 hlt2; obtain ⟨y1, y2, y3, y4, F1, F2, F3, F4⟩ := new_step HBR.out HRX.out HRD.out HOR.out HXW.out hxd (((Below.refl _ _).alloc (Nat.le_refl _) _).drew) hgrow hown' HAT.out; have HF1 := Lib.hid F1; have HF2 := Lib.hid F2; have HF3 := Lib.hid F3; have HF4 := Lib.hid F4; have HY4 := Lib.hid (y4 R hrl (fun e => by have := (HLW.out R e.symm).2; have := HR.out; omega)); clear F1 F2 F3 F4 y4 hown' hgrow hat2
   refine hK.out _ _ (HKS.out _ HY4.out) (fun hHeld => ?_)
   clear hK K
   (try simp only [Act.put, puts_])
   refine takeQ_ (i := 11) (v := ?_) rfl (by kernel_rfl) (fun _ _ _ h => h) (by rfl) ?_ (by assumption) ?_
   rotate_left
   focus (intro w' hSw; (try dsimp only at hSw); go_simp; try with_reducible rfl)
   (try simp only [Act.put, puts_])
   refine wpAnyH_ready (rs := [12]) (by kernel_rfl) (by simp) ?_
   refine AllReadyH.cons (o := _) rfl (fun K hK => ?_) AllReadyH.nil
   go_simp
   refine hK.out _ _ (HKS.out _ ((Below.heap_setCell _ _ _ _ (fun e => by have e : R = D := e; omega)).trans HY4.out)) (fun hHeld => ?_)
   clear hK K
   (try simp only [Act.put, puts_])
   refine wpAnyH_done (by kernel_rfl) ?_ _
   go_simp
   go_wp2_with fail
   go_roundw
   case rel => exact ⟨k + 1, some ⟨g2, 0, none⟩, cap2, rfl, by omega, by rw [World.size_setCell]; omega, HF1.out, HF2.out, HF3.out, HF4.out⟩
   case measure => (show ts.length - _ < ts.length - _; omega)
  ·have hkI : ¬ (k : Int) < (ts.length : Int) := by omega
   have hke : k = ts.length := by omega
   have HKE := Lib.hid hke
   clear hke
   obtain ⟨k0, k1, k2, k3, k4, k5⟩ := row6_ HDR.out
   obtain ⟨z0, z1, z2, z3, z4, z5⟩ := row6_ HXR.out
   have fz0 := frozen_of_row wr X 0 _ _ HXR.out
   have fz1 := frozen_of_row wr X 1 _ _ HXR.out
   have fz2 := frozen_of_row wr X 2 _ _ HXR.out
   have fz3 := frozen_of_row wr X 3 _ _ HXR.out
   have fz4 := frozen_of_row wr X 4 _ _ HXR.out
   have fz5 := frozen_of_row wr X 5 _ _ HXR.out
   have xl := (Array.getElem?_eq_some_iff.1 HXR.out).1
   have dl := (Array.getElem?_eq_some_iff.1 HDR.out).1
   go_wp2_with fail
   refine wp_post (fun W' => W'.heap[X]? = some (.cells #[.slice pt ts.length ct, .slice q k c, .int .i64 (l.length : Nat), .int .i64 0, .int .i64 0, .int .i64 0] 58 (0, 0)) ∧ wr.grownBy W' (some X)) (set6n HXR.out _ _ _ _ _ _) (fun W' hW => ?_)
   refine bodyPost_ret (res_new hW.1 rfl _ rfl) rfl ?_
   rw [← HPP.out]
   have hf := FlP.of_own HOW.out
   rw [List.take_of_length_le (by rw [HKE.out]; exact Nat.le_refl _)] at hf
   refine ⟨.slice q k c, rfl, ?_, HB.out.grown hW.2 HB.out.size (fun b e => by injection e with e; have := HXW.out; omega)⟩
   unfold StrsP
   rw [List.length_map, List.map_map]
   have hf2 := FlP.kept (Q := fun _ => True) hf (fun b hb hl => ⟨hW.2.block b hl (fun e => by injection e with e; omega), trivial⟩)
   have hke := HKE.out
   subst hke
   exact hf2
end
section
open Go Go.RowKit
attribute [local go_sem ↓] Go.wp_at_zero Go.wp_at_succ

theorem info_errp : (Tryz.prog.info? 208).map (fun i => i.comparable) = some true := by kernel_rfl
theorem info_errs : (Tryz.prog.info? 222).isSome = true := by kernel_rfl
theorem neq_brk (w : World) (ad : Addr) : (Sem.run Tryz.prog (binOp BinOp.neq 20 (Value.iface 208 (Value.pointer (some ad))) (Value.iface 208 (Value.pointer (some ad)))) w) = .ok (.bool false) w := by
 obtain ⟨i, hi, hc⟩ := Option.map_eq_some_iff.1 info_errp
 obtain ⟨j, hj⟩ := Option.isSome_iff_exists.1 info_errs
 simp only [binOp]
 simp [Op.equal, Op.maxDepth, run_equalIn_iface_ptr_same w 9998 ad Tryz.underlying20 Tryz.underlying208 hi hc hj]
set_option maxRecDepth 100000 in
set_option maxHeartbeats 4000000 in
theorem tcaught_brk {W0 W : World} {B G : Nat} {T : TypeId} {S : Src} {tv nv : Value} {ad : Addr} {pos err : Nat} {o0 o1 : Value} {TG : TypeId} (hg : W0.cell? ⟨0, 0, none⟩ = some (.iface 208 (.pointer (some ad)))) (h : Thrown W0 W B T S tv nv pos err) (hG : W.heap[G]? = some (.cells #[o0, o1] TG (0, 0))) :
  Calls Tryz.prog 31 #[.pointer (some ⟨B, 0, none⟩), .iface 208 (.pointer (some ad)), .pointer (some ⟨G, 0, none⟩)] W (fun e w' => e = .returned (.tuple #[]) ∧ w'.heap[G]? = some (.cells #[.int .i64 (pos : Nat), .int .i64 (err : Nat)] TG (0, 0)) ∧ W.grownBy w' (some G)) := by
 obtain ⟨PP, hPP⟩ : ∃ PP : Ending → World → Prop, (fun e w' => e = .returned (.tuple #[]) ∧ w'.heap[G]? = some (.cells #[.int .i64 (pos : Nat), .int .i64 (err : Nat)] TG (0, 0)) ∧ W.grownBy w' (some G)) = PP := ⟨_, rfl⟩
 rw [hPP]
 have HPP := Lib.hid hPP
 obtain ⟨⟨a, deep, hbx⟩, hbel⟩ := h
 have hgl := (hbel.cell (World.block_lt_of_cell? W0 _ hg)).trans hg
 obtain ⟨c0, c1, c2, c3, c4, c5, c6, hbl⟩ := hbx.cells
 obtain ⟨g0, g1⟩ := row2_ hG
 have f0 := frozen_of_row W G 0 _ _ hG
 have f1 := frozen_of_row W G 1 _ _ hG
 have gl := (Array.getElem?_eq_some_iff.1 hG).1
 have HG := Lib.hid hG
 clear hPP hbx hbel hg hG
 have hne := neq_brk W ad
 go_enter Tryz.func31, Tryz.ntmps31
 go_wp2_with fail
 go_end0
 rw [← HPP.out]
 exact ⟨rfl, heap_setCell_same _ G 1 _ _ _ (heap_setCell_same W G 0 _ _ _ HG.out), g_set (g_set (g_refl W G) _) _⟩
theorem tcaught_nil (W : World) (B G : Nat) :
  Calls Tryz.prog 31 #[.pointer (some ⟨B, 0, none⟩), .nilIface, .pointer (some ⟨G, 0, none⟩)] W (fun e w' => e = .returned (.tuple #[]) ∧ w' = W) := by
 obtain ⟨PP, hPP⟩ : ∃ PP : Ending → World → Prop, (fun e w' => e = .returned (.tuple #[]) ∧ w' = W) = PP := ⟨_, rfl⟩
 rw [hPP]
 have HPP := Lib.hid hPP
 clear hPP
 go_enter Tryz.func31, Tryz.ntmps31
 go_wp2_with fail
 go_end0
 rw [← HPP.out]
 exact ⟨rfl, rfl⟩
end
section
open Go

def allOrders (md : Region.Mode) (ops : Array Oper) : Nat → Array Bool → List (List Nat)
 | 0, _ => [[]]
 | f + 1, listed => if Region.ready md ops listed = [] then [[]] else (Region.ready md ops listed).flatMap fun i => (allOrders md ops f (listed.setIfInBounds i true)).map (i :: ·)
theorem go_all {md : Region.Mode} {ops : Array Oper} : ∀ (fuel t : Nat) (listed : Array Bool), Region.linearise.go md ops fuel t listed [] ∈ allOrders md ops fuel listed
 | 0, _, _ => by simp [Region.linearise.go, allOrders]
 | fuel + 1, t, listed => by
  simp only [Region.linearise.go, allOrders]
  change (match (Region.ready md ops listed)[t % (Region.ready md ops listed).length]? with
   | some i => Region.linearise.go md ops fuel (t / (Region.ready md ops listed).length) (listed.setIfInBounds i true) [i]
   | none => [].reverse) ∈ _
  cases hi : (Region.ready md ops listed)[t % (Region.ready md ops listed).length]? with
  | none =>
   have hnil : Region.ready md ops listed = [] := by
    cases hr : Region.ready md ops listed with
    | nil => rfl
    | cons x xs =>
     rw [hr] at hi
     have hlt : t % (x :: xs).length < (x :: xs).length := Nat.mod_lt _ (by simp)
     simp at hi
     simp at hlt
     omega
   rw [if_pos hnil]
   simp
  | some i =>
   have hm := List.mem_of_getElem? hi
   rw [if_neg (fun e => by rw [e] at hm; cases hm)]
   simp only []
   rw [linearise_go_acc, List.reverse_singleton, List.singleton_append]
   exact List.mem_flatMap.2 ⟨i, hm, List.mem_map.2 ⟨_, go_all fuel _ _, rfl⟩⟩
theorem wpS_region_all {P : Program} {id : Nat} {ops : Array Oper} {Q : Exit → Act → List Frame → World → Prop} {a : Act} {cs : List Frame} {w : World} {L : List (List Nat)}
  (hm : P.follows .mixedOrders = true) (hL : allOrders .any ops ops.size (Array.replicate ops.size false) = L) (h : ∀ l ∈ L, wpOpsS P ops Q l a cs { w with drawn := w.drawn + 1 }) : (Code.region id ops true).wpS P Q a cs w := by
 intro b k hb hr
 have hl : ∀ t, Region.schedule (P.follows .mixedOrders) ops t ∈ L := fun t => by
  rw [hm, ← hL]
  simp only [Region.schedule, Bool.true_or, if_true]
  exact go_all _ _ _
 obtain ⟨e, a', cs', w', q, r⟩ := wp_opsS _ a cs _ (h _ (hl _)) b k hb hr
 exact ⟨e, a', cs', w', q, .of_steps (.one step_region_draw) r⟩
end
end Go.Proofs.YtbdllefnghddcaaGreatDoor
