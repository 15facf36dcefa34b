/- SCAN: Scan (the program's), at any length. PARSE: Parse (the program's), whole. PARSE: numbers, written: strconv.FormatUint at base 10. PARSE: what the rows list: the words, the kinds' and faces' words, errBroken, the powers of ten (and math/bits' tables); a world that holds them. -/
import Derived.Test.YtbdllefnghddcaaGreatDoorScanScanB
import Derived.Test.YtbdllefnghddcaaGreatDoorPScan3
import Derived.StillTailTactics
import Derived.Test.YtbdllefnghddcaaGreatDoorParseClos
import Derived.Test.YtbdllefnghddcaaGreatDoorParseConf
import Derived.Test.YtbdllefnghddcaaGreatDoorPPl
import Derived.Test.YtbdllefnghddcaaGreatDoorParseFitT
import Derived.Deep.DeepCutAuto
import Derived.Test.YtbdllefnghddcaaGreatDoorPMem
import Derived.Lib.AppendIntMem
import Derived.WalkLawsBesides
import Derived.Test.YtbdllefnghddcaaGreatDoorPrintShelf
import Derived.Test.YtbdllefnghddcaaGreatDoorPBld
import Derived.Test.YtbdllefnghddcaaGreatDoorRows
import Derived.Test.YtbdllefnghddcaaGreatDoorScanShelf
import Derived.Lib.LaidIn
import Derived.Lib.LaidU8T
import Derived.Lib.LaidTab
import Derived.Stop.LaidErr
import Derived.Deep.DeepHandedRow
import Derived.Deep.DeepWitnessRowRef
import Derived.ProofKit
import Derived.OpenShut
import Derived.SizedLaws
namespace Go.Proofs.YtbdllefnghddcaaGreatDoor
section
open Go Go.RowKit
theorem conv_all (s : ByteArray) (w : World) (hs : s.size ≤ 9223372036854775807) :
  ∃ v w1, (convert 9 22 (.string s)).run Tryz.prog w = .ok v w1 ∧ Bs w1 v s.data.toList ∧ Below w.heap.size w w1 := by
 refine ⟨_, _, Lib.run_convert_string_bytes w 9 22 5 s Tryz.underlying9 Tryz.underlying22 Tryz.underlying5, ?_, ?_⟩
 ·have h1 := grownCap_ge w s.size 0 5
  have h2 := grownCap_le_maxLen w s.size 0 5 (by unfold maxLen; omega)
  unfold maxLen at h2
  have e : s.data.toList.length = s.size := by simp
  refine ⟨_, _, by rw [e], by rw [e]; exact h1, by omega, fun _ => ⟨_, _, rfl, fun j x hj => ?_⟩⟩
  have hlt : j < s.size := by
   obtain ⟨h, _⟩ := List.getElem?_eq_some_iff.1 hj
   omega
  have := Lib.bytesWorld_cell w 5 s j hlt
  rw [Nat.zero_add, this]
  simp [List.getD, hj]
 ·refine ⟨rfl, rfl, rfl, by rw [Lib.bytesWorld_size]; omega, fun k hk => Lib.bytesWorld_at_old w 5 s k hk⟩
set_option maxRecDepth 100000 in
set_option maxHeartbeats 4000000 in
theorem scan_all (v : Value) (l : List UInt8) (w : World) (hE : Env w) (hV : Bs w v l) :
  Calls Tryz.prog 28 #[v] w (ScanPost w (scanS l)) := by
 by_cases hlong : 65536 < l.length
 ·obtain ⟨pv, cap, rfl, hcap, hm, -⟩ := id hV
  obtain ⟨PP, hPP⟩ : ∃ PP, ScanPost w (scanS l) = PP := ⟨_, rfl⟩
  rw [hPP]
  have HPP := Lib.hid hPP
  have HN : Hid (scanS l = .bad 0 60) := by show _ = _; unfold scanS; rw [if_pos hlong]
  have hlong' : (65536 : Int) < (l.length : Int) := by omega
  clear hPP hE hV
  go_enter Tryz.func28, Tryz.ntmps28
  go_wp2
  refine bodyPost_ret (resF (heap_alloc_new w _) rfl _ rfl) rfl ?_
  rw [← HPP.out]
  exact scan_bad HN.out ((Below.refl _ _).alloc (Nat.le_refl _) _)
 ·exact scan_any v l w hE hV (by omega)
end
section
open Go Go.RowKit
attribute [local go_sem ↓] Go.wp_at_zero Go.wp_at_succ

def ParsePost (W : World) (r : Parsed) (e : Ending) (w' : World) : Prop := Below W.heap.size W w' ∧ match r with
 | .tree t => ∃ (vh vr : Value) (k : Nat), e = .returned (.tuple #[.agg #[vh, vr], .agg #[.int .i64 0, .int .i64 0]]) ∧ TreeP (fun b => W.heap.size ≤ b) w' k vh vr t
 | .fault p k => e = .returned (.tuple #[.agg #[.slice none 0 0, .slice none 0 0], .agg #[.int .i64 (p : Nat), .int .i64 (k : Nat)]])
def outR : PR TreeT → Parsed
 | .ok t _ => .tree t
 | .bad p e => .fault p e
structure Px (W : World) (ad : Addr) : Prop where
 env : Env W
 tk : W.rangeAt 1 0 (tabV kindWords)
 tf : W.rangeAt 2 0 (tabV faceWords)
 glob : W.cell? ⟨0, 0, none⟩ = some (.iface 208 (.pointer (some ad)))
theorem Px.below {W W' : World} {ad : Addr} (h : Px W ad) (hb : Below W.heap.size W W') : Px W' ad := ⟨h.env.below hb, tab_below h.tk hb, tab_below h.tf hb, (hb.cell (World.block_lt_of_cell? W _ h.glob)).trans h.glob⟩
theorem resP (W : World) (tmps : Array Value) (G F : Nat) (g0 g1 f0 f1 : Value) (hG : W.heap[G]? = some (.cells #[g0, g1] 26 (0, 0))) (hF : W.heap[F]? = some (.cells #[f0, f1] 29 (0, 0))) (h2 : tmps[2]?.getD undef = .pointer (some ⟨G, 0, none⟩)) (h3 : tmps[3]?.getD undef = .pointer (some ⟨F, 0, none⟩)) :
  (results Tryz.f10 tmps).run Tryz.prog W = .ok (.tuple #[.agg #[g0, g1], .agg #[f0, f1]]) W := by
 obtain ⟨a0, a1⟩ := row2_ hG
 obtain ⟨b0, b1⟩ := row2_ hF
 simp [results, Tryz.results10, h2, h3, go_sem, a0, a1, b0, b1]
set_option maxRecDepth 100000 in
set_option maxHeartbeats 8000000 in
theorem parse_any {W : World} {ad : Addr} {v : Value} {l : List UInt8} (hP : Px W ad) (hV : Bs W v l) (hne : ∀ ts, scanS l = .toks ts → ∀ p e, configP ⟨l, ts⟩ (ts.length + 1) [] [] 0 = .bad p e → e ≠ 0) :
  Calls Tryz.prog 10 #[v] W (ParsePost W (parseS l)) := by
 have hmf : ∀ (fn : Fn) (first cap : Array Value) (w : World), (Instr.makeFunc fn first cap).run Tryz.prog w = .ok (.func fn first cap) w := fun _ _ _ _ => rfl
 obtain ⟨pv, cap, hpv, -⟩ := id hV
 obtain ⟨X, hX⟩ : ∃ X, W.heap.size = X := ⟨_, rfl⟩
 obtain ⟨WA, hWA⟩ : ∃ WA, (W.alloc (.cells #[.slice none 0 0, .slice none 0 0] 26)).alloc (.cells #[.int .i64 0, .int .i64 0] 29) = WA := ⟨_, rfl⟩
 have hbA : Below W.heap.size W WA := by rw [← hWA]; exact ((Below.refl _ W).alloc (Nat.le_refl _) _).alloc (by simp) _
 have hs1 : (W.alloc (.cells #[.slice none 0 0, .slice none 0 0] 26)).heap.size = X + 1 := by rw [World.size_alloc]; omega
 have hsA : WA.heap.size = X + 2 := by rw [← hWA, World.size_alloc, hs1]
 have HG0 : Hid (WA.heap[X]? = some (.cells #[.slice none 0 0, .slice none 0 0] 26 (0, 0))) := by show _ = _; rw [← hWA, Below.heap_alloc _ _ _ (by rw [hs1]; omega), ← hX]; exact heap_alloc_new W _
 obtain ⟨F, hFX⟩ : ∃ F, X + 1 = F := ⟨_, rfl⟩
 have HF0 : Hid (WA.heap[F]? = some (.cells #[.int .i64 0, .int .i64 0] 29 (0, 0))) := by show _ = _; rw [← hWA, ← hFX, ← hs1]; exact heap_alloc_new _ _
 have CS := Lib.hid (scan_all v l WA (hP.env.below hbA) (hV.below hbA))
 have hXF : X < F := by omega
 have hFA : F < WA.heap.size := by omega
 have HFX := Lib.hid hFX
 have HX := Lib.hid hX
 have HWA := Lib.hid hWA
 have HBA := Lib.hid hbA
 have HP := Lib.hid hP
 have HV := Lib.hid hV
 clear hP hV hX hWA hbA hs1 hsA hFX
 cases hsc : scanS l with
 | bad p e =>
  have hk := scanS_bad hsc
  have HPS : Hid (parseS l = .fault p e) := by show _ = _; unfold parseS; rw [hsc]
  rw [hsc] at CS
  have he0 : ¬ ((e : Nat) : Int) = 0 := by omega
  obtain ⟨e1, e2⟩ := neI he0
  clear hsc hk
  rw [HPS.out]
  obtain ⟨PP, hPP⟩ : ∃ PP, ParsePost W (.fault p e) = PP := ⟨_, rfl⟩
  rw [hPP]
  have HPP := Lib.hid hPP
  clear hPP hpv
  go_enter_defers Tryz.func10, Tryz.ntmps10
  go_upto_region 1 with fail
  rw [HX.out, HFX.out, HWA.out]
  go_wp2_with (go_at_call 28; refine CS.out.mono ?_)
  rintro e2 w2 ⟨hb2, hm⟩
  rw [hm]
  have HG2 : Hid (w2.heap[X]? = some (.cells #[.slice none 0 0, .slice none 0 0] 26 (0, 0))) := (hb2.block X (by omega)).trans HG0.out
  have hF2 : w2.heap[F]? = some (.cells #[.int .i64 0, .int .i64 0] 29 (0, 0)) := (hb2.block F hFA).trans HF0.out
  obtain ⟨f0, f1⟩ := row2_ hF2
  have z0 := frozen_of_row w2 F 0 _ _ hF2
  have z1 := frozen_of_row w2 F 1 _ _ hF2
  have lF := (Array.getElem?_eq_some_iff.1 hF2).1
  have HF2 := Lib.hid hF2
  have HB2 := Lib.hid hb2
  clear hF2 hb2 hm
  obtain ⟨w3, hw3⟩ : ∃ w3, (w2.setCell ⟨F, 0, none⟩ (.int .i64 (p : Nat))).setCell ⟨F, 1, none⟩ (.int .i64 (e : Nat)) = w3 := ⟨_, rfl⟩
  have hF3 : w3.heap[F]? = some (.cells #[.int .i64 (p : Nat), .int .i64 (e : Nat)] 29 (0, 0)) := by rw [← hw3]; exact heap_setCell_same _ F 1 _ _ _ (heap_setCell_same w2 F 0 _ _ _ HF2.out)
  have hG3 : w3.heap[X]? = some (.cells #[.slice none 0 0, .slice none 0 0] 26 (0, 0)) := by rw [← hw3, heap_setCell_other _ ⟨F, 1, none⟩ X _ (by show X ≠ F; omega), heap_setCell_other _ ⟨F, 0, none⟩ X _ (by show X ≠ F; omega)]; exact HG2.out
  have HB3 : Hid (Below W.heap.size W w3) := by
   show Below _ _ _
   rw [← hw3]
   have hXe := HX.out
   exact ((HBA.out.trans (HB2.out.mono HBA.out.size)).setCell (p := ⟨F, 0, none⟩) (by show _ ≤ F; omega) _).setCell (p := ⟨F, 1, none⟩) (by show _ ≤ F; omega) _
  have a1 : w3.cell? ⟨F, 1, none⟩ = some (.int .i64 (e : Nat)) := by rw [cell_of_row _ _ _ _ _ _ hF3]; rfl
  have lF3 := (Array.getElem?_eq_some_iff.1 hF3).1
  have HF3 := Lib.hid hF3
  have HG3 := Lib.hid hG3
  go_upto_region 2 with fail
  clear hw3 hF3 hG3 f0 f1 z0 z1 lF
  go_upto_region 3 with fail
  have d0 : w3.cell? ⟨F, 0, none⟩ = some (.int .i64 (p : Nat)) := by rw [cell_of_row w3 F 0 _ _ _ HF3.out]; rfl
  have d1 : w3.cell? ⟨F, 1, none⟩ = some (.int .i64 (e : Nat)) := by rw [cell_of_row w3 F 1 _ _ _ HF3.out]; rfl
  have g0 : w3.cell? ⟨X, 0, none⟩ = some (.slice none 0 0) := by rw [cell_of_row w3 X 0 _ _ _ HG3.out]; rfl
  have g1 : w3.cell? ⟨X, 1, none⟩ = some (.slice none 0 0) := by rw [cell_of_row w3 X 1 _ _ _ HG3.out]; rfl
  have y0 := frozen_of_row w3 X 0 _ _ HG3.out
  have y1 := frozen_of_row w3 X 1 _ _ HG3.out
  have lXd : X < w3.heap.size := (Array.getElem?_eq_some_iff.1 HG3.out).1
  have nXF : X ≠ F := by omega
  have nFX : F ≠ X := by omega
  obtain ⟨w4, hw4⟩ : ∃ w4, (w3.setCell ⟨X, 0, none⟩ (.slice none 0 0)).setCell ⟨X, 1, none⟩ (.slice none 0 0) = w4 := ⟨_, rfl⟩
  have hG4 : w4.heap[X]? = some (.cells #[.slice none 0 0, .slice none 0 0] 26 (0, 0)) := by rw [← hw4]; exact heap_setCell_same _ X 1 _ _ _ (heap_setCell_same w3 X 0 _ _ _ HG3.out)
  have hF4 : w4.heap[F]? = some (.cells #[.int .i64 (p : Nat), .int .i64 (e : Nat)] 29 (0, 0)) := by rw [← hw4, heap_setCell_other _ ⟨X, 1, none⟩ F _ nFX, heap_setCell_other _ ⟨X, 0, none⟩ F _ nFX]; exact HF3.out
  obtain ⟨w5, hw5⟩ : ∃ w5, w4.setCell ⟨F, 0, none⟩ (.int .i64 (p : Nat)) = w5 := ⟨_, rfl⟩
  have hF5 : w5.heap[F]? = some (.cells #[.int .i64 (p : Nat), .int .i64 (e : Nat)] 29 (0, 0)) := by rw [← hw5]; exact heap_setCell_same w4 F 0 _ _ _ hF4
  have hF6 : (w5.setCell ⟨F, 1, none⟩ (.int .i64 (e : Nat))).heap[F]? = some (.cells #[.int .i64 (p : Nat), .int .i64 (e : Nat)] 29 (0, 0)) := heap_setCell_same w5 F 1 _ _ _ hF5
  have hG6 : (w5.setCell ⟨F, 1, none⟩ (.int .i64 (e : Nat))).heap[X]? = some (.cells #[.slice none 0 0, .slice none 0 0] 26 (0, 0)) := by rw [heap_setCell_other _ ⟨F, 1, none⟩ X _ nXF, ← hw5, heap_setCell_other _ ⟨F, 0, none⟩ X _ nXF]; exact hG4
  have HB6 : Hid (Below W.heap.size W (w5.setCell ⟨F, 1, none⟩ (.int .i64 (e : Nat)))) := by
   show Below _ _ _
   have hXe := HX.out
   rw [← hw5, ← hw4]
   exact (((HB3.out.setCell (p := ⟨X, 0, none⟩) (by show _ ≤ X; omega) _).setCell (p := ⟨X, 1, none⟩) (by show _ ≤ X; omega) _).setCell (p := ⟨F, 0, none⟩) (by show _ ≤ F; omega) _).setCell (p := ⟨F, 1, none⟩) (by show _ ≤ F; omega) _
  obtain ⟨b0, b1⟩ := row2_ hF4
  have c1 : w5.cell? ⟨F, 1, none⟩ = some (.int .i64 (e : Nat)) := by rw [cell_of_row _ _ _ _ _ _ hF5]; rfl
  have x0 := frozen_of_row w4 F 0 _ _ hF4
  have x1 := frozen_of_row w5 F 1 _ _ hF5
  have lF4 := (Array.getElem?_eq_some_iff.1 hF4).1
  have lF5 := (Array.getElem?_eq_some_iff.1 hF5).1
  have HF6 := Lib.hid hF6
  have HG6 := Lib.hid hG6
  clear a1 hG4 hF4 hF5 hF6 hG6
  have HE : Hid (PP (.returned (.tuple #[.agg #[.slice none 0 0, .slice none 0 0], .agg #[.int .i64 (p : Nat), .int .i64 (e : Nat)]])) (w5.setCell ⟨F, 1, none⟩ (.int .i64 (e : Nat))).drew) := by
   show PP _ _
   rw [← HPP.out]
   exact ⟨HB6.out.drew, rfl⟩
  go_region
  all_goals go_wp2_with fail
  exact ⟨_, resP _ _ X F _ _ _ _ HG6.out HF6.out rfl rfl, HE.out⟩
 | toks ts =>
  obtain ⟨hl1, hl2, hok⟩ := scanS_ok hsc
  rw [hsc] at CS
  obtain ⟨rp, hrp⟩ : ∃ rp, configP ⟨l, ts⟩ (ts.length + 1) [] [] 0 = rp := ⟨_, rfl⟩
  have HNE : Hid (∀ p e, rp = .bad p e → e ≠ 0) := by rw [← hrp]; exact hne ts hsc
  have HPS : Hid (parseS l = outR rp) := by
   show _ = _
   unfold parseS
   rw [hsc, ← hrp]
   simp only []
   cases configP ⟨l, ts⟩ (ts.length + 1) [] [] 0 <;> rfl
  have HRP := Lib.hid hrp
  have HOK := Lib.hid hok
  obtain ⟨PP, hPP⟩ : ∃ PP, ParsePost W (parseS l) = PP := ⟨_, rfl⟩
  rw [hPP]
  have HPP := Lib.hid hPP
  clear hPP hpv hsc hrp hok hne
  go_enter_defers Tryz.func10, Tryz.ntmps10
  go_upto_region 1 with fail
  rw [HX.out, HFX.out, HWA.out]
  go_wp2_with (go_at_call 28; refine CS.out.mono ?_)
  rintro e2 w2 ⟨hb2, hm⟩
  obtain ⟨vt, rfl, hT⟩ := hm
  have HT2 := Lib.hid hT
  have HG2 : Hid (w2.heap[X]? = some (.cells #[.slice none 0 0, .slice none 0 0] 26 (0, 0))) := (hb2.block X (by omega)).trans HG0.out
  have hF2 : w2.heap[F]? = some (.cells #[.int .i64 0, .int .i64 0] 29 (0, 0)) := (hb2.block F hFA).trans HF0.out
  obtain ⟨f0, f1⟩ := row2_ hF2
  have z0 := frozen_of_row w2 F 0 _ _ hF2
  have z1 := frozen_of_row w2 F 1 _ _ hF2
  have lF := (Array.getElem?_eq_some_iff.1 hF2).1
  have HB2 := Lib.hid (HBA.out.trans (hb2.mono HBA.out.size))
  obtain ⟨w3, hw3⟩ : ∃ w3, (w2.setCell ⟨F, 0, none⟩ (.int .i64 0)).setCell ⟨F, 1, none⟩ (.int .i64 0) = w3 := ⟨_, rfl⟩
  have hF3 : w3.heap[F]? = some (.cells #[.int .i64 0, .int .i64 0] 29 (0, 0)) := by rw [← hw3]; exact heap_setCell_same _ F 1 _ _ _ (heap_setCell_same w2 F 0 _ _ _ hF2)
  have hoth : ∀ c, w3.heap[c]? = w2.heap[c]? := fun c => by
   by_cases hc : c = F
   ·subst hc; rw [hF3, hF2]
   ·rw [← hw3, heap_setCell_other _ ⟨F, 1, none⟩ c _ hc, heap_setCell_other _ ⟨F, 0, none⟩ c _ hc]
  have hb3 : Below w2.heap.size w2 w3 := by
   have h := ((Below.refl F w2).setCell (p := ⟨F, 0, none⟩) (Nat.le_refl _) (.int .i64 0)).setCell (p := ⟨F, 1, none⟩) (Nat.le_refl _) (.int .i64 0)
   rw [hw3] at h
   exact ⟨h.os, h.tape, h.output, h.size, fun c _ => hoth c⟩
  have HB3 := Lib.hid (HB2.out.trans (hb3.mono HB2.out.size))
  have HG3 : Hid (w3.heap[X]? = some (.cells #[.slice none 0 0, .slice none 0 0] 26 (0, 0))) := (hoth X).trans HG2.out
  have HF3 := Lib.hid hF3
  have CN := Lib.hid (tnew_any (W := w3) (HV.out.below HB3.out) (HT2.out.below hb3) HOK.out hl2)
  have HT3 := Lib.hid (HT2.out.below hb3)
  have a1 : w3.cell? ⟨F, 1, none⟩ = some (.int .i64 0) := by rw [cell_of_row _ _ _ _ _ _ hF3]; rfl
  have lF3 := (Array.getElem?_eq_some_iff.1 hF3).1
  clear hT hF2 hF3 hoth hb3 hb2
  go_upto_region 2 with fail
  clear hw3 f0 f1 z0 z1 lF
  go_wp2_with (go_at_call 29; refine CN.out.mono ?_)
  rintro e4 w4 ⟨nv, rfl, hN, hb4⟩
  obtain ⟨B, hB⟩ : ∃ B, w4.heap.size = B := ⟨_, rfl⟩
  obtain ⟨w5, hw5⟩ : ∃ w5, w4.alloc (.cells #[vt, nv, .int .i64 (l.length : Nat), .int .i64 0, .int .i64 0, .int .i64 0, .int .i64 0] 63) = w5 := ⟨_, rfl⟩
  have hs5 : w5.heap.size = B + 1 := by rw [← hw5, World.size_alloc, hB]
  obtain ⟨C, hC⟩ : ∃ C, B + 1 = C := ⟨_, rfl⟩
  obtain ⟨w6, hw6⟩ : ∃ w6, w5.alloc (.cells #[.pointer (some ⟨B, 0, none⟩)] 55) = w6 := ⟨_, rfl⟩
  have hb5 : Below w4.heap.size w4 w5 := by rw [← hw5]; exact (Below.refl _ _).alloc (Nat.le_refl _) _
  have hb6 : Below w5.heap.size w5 w6 := by rw [← hw6]; exact (Below.refl _ _).alloc (Nat.le_refl _) _
  have hb46 : Below w4.heap.size w4 w6 := hb5.trans (hb6.mono (by omega))
  have hp5 := aRow_ hw5 hB
  have hp6 : PsB w6 B 63 vt nv (l.length : Nat) 0 0 0 0 := (hb6.block B (by omega)).trans hp5
  have hc6 : w6.heap[C]? = some (.cells #[.pointer (some ⟨B, 0, none⟩)] 55 (0, 0)) := by rw [← hw6, ← hC, ← hs5]; exact heap_alloc_new w5 _
  have hs6 : w6.heap.size = C + 1 := by rw [← hw6, World.size_alloc, hs5, hC]
  have hb34 : Below w3.heap.size w3 w6 := hb4.trans (hb46.mono (by have := hb4.size; omega))
  have hP4 := HP.out.below (HB3.out.trans (hb4.mono HB3.out.size))
  have hCx : Cx w4 ⟨l, ts⟩ vt nv (.iface 208 (.pointer (some ad))) := ⟨HT3.out.below hb4, hN, fun t ht => ⟨(HOK.out t ht).1, (HOK.out t ht).2.1⟩, hl2, hl1, ⟨_, _, rfl⟩, hP4.tk, hP4.tf, hP4.glob⟩
  have hAt : At w4 w6 B 63 ⟨l, ts⟩ vt nv 0 0 := ⟨⟨0, 0, hp6⟩, hb46, by omega, Nat.zero_le _⟩
  have CC := Lib.hid (tconfig_any hCx hAt (ts.length + 1) (by show ts.length < _; omega) (by omega))
  rw [HRP.out] at CC
  have HG6 : Hid (w6.heap[X]? = some (.cells #[.slice none 0 0, .slice none 0 0] 26 (0, 0))) := (hb34.block X (by omega)).trans HG3.out
  have HF6 : Hid (w6.heap[F]? = some (.cells #[.int .i64 0, .int .i64 0] 29 (0, 0))) := (hb34.block F lF3).trans HF3.out
  have hw3s := hb4.size
  have hXB : X < B := by omega
  have hFB : F < B := by omega
  have hBC : B < C := by omega
  have c6 : w6.cell? ⟨C, 0, none⟩ = some (.pointer (some ⟨B, 0, none⟩)) := by rw [cell_of_row _ _ _ _ _ _ hc6]; rfl
  have lC : C < w6.heap.size := by omega
  have lB : B < w6.heap.size := by omega
  have HB6 := Lib.hid (HB3.out.trans (hb34.mono HB3.out.size))
  have HC6 := Lib.hid hc6
  have HGL : Hid (w4.cell? ⟨0, 0, none⟩ = some (.iface 208 (.pointer (some ad)))) := hP4.glob
  have HBe := Lib.hid hB
  have HCe := Lib.hid hC
  have Hw5 := Lib.hid hw5
  have Hw6 := Lib.hid hw6
  clear hN hb4 hB hw5 hs5 hC hw6 hb5 hb6 hb46 hp5 hp6 hc6 hb34 hP4 hCx hAt a1 lF3
  go_upto_region 5 with fail
  rw [HBe.out, Hw5.out, HCe.out, Hw6.out]
  cases rp with
  | bad p e =>
   have hne := HNE.out p e rfl
   have HE : Hid (parseS l = .fault p e) := by show _ = _; rw [HPS.out]; rfl
   go_wp2_with (go_at_call 32; refine CC.out.mono ?_)
   rintro e7 w7 ⟨rfl, hth, hg7⟩
   have hG7 : w7.heap[X]? = some (.cells #[.slice none 0 0, .slice none 0 0] 26 (0, 0)) := (hg7.block X (by omega) (fun e => by have := Option.some.inj e; omega)).trans HG6.out
   have hF7 : w7.heap[F]? = some (.cells #[.int .i64 0, .int .i64 0] 29 (0, 0)) := (hg7.block F (by omega) (fun e => by have := Option.some.inj e; omega)).trans HF6.out
   have hC7 : w7.cell? ⟨C, 0, none⟩ = some (.pointer (some ⟨B, 0, none⟩)) := by rw [cell_of_row _ _ _ _ _ _ ((hg7.block C (by omega) (fun e => by have := Option.some.inj e; omega)).trans HC6.out)]; rfl
   have hBl : Below X W w7 := by
    have h := HB6.out
    rw [HX.out] at h
    exact ⟨hg7.os.trans h.os, hg7.tape.trans h.tape, hg7.output.trans h.output, Nat.le_trans h.size hg7.size, fun c hc => (hg7.block c (by omega) (fun e => by have := Option.some.inj e; omega)).trans (h.block c hc)⟩
   refine leaves_cons (f := 30) (args := #[.pointer (some ⟨C, 0, none⟩), .pointer (some ⟨F, 0, none⟩), .pointer (some ⟨X, 0, none⟩)]) (by simp) (by simp [go_sem]) ?_
   refine (parse1_brk HGL.out hth hne hC7 hF7 hG7 (by omega) []).mono ?_
   rintro e8 u8 w8 ⟨rfl, rfl, hF8, hG8, hB8⟩
   refine ⟨_, resP _ _ X F _ _ _ _ hG8 hF8 rfl rfl, ?_⟩
   rw [← HPP.out, HE.out]
   refine ⟨?_, rfl⟩
   rw [HX.out]
   exact hBl.trans (hB8 X (by omega) (Nat.le_refl _))
  | ok t a =>
   have HE : Hid (parseS l = .tree t) := by show _ = _; rw [HPS.out]; rfl
   go_wp2_with (go_at_call 32; refine CC.out.mono ?_)
   rintro e7 w7 ⟨v7, rfl, ⟨k, vh, vr, rfl, hTr⟩, hA7, hg7⟩
   obtain ⟨hq, hk, rfl, -⟩ := hTr.1.shape
   obtain ⟨rq, rk, rfl, -⟩ := hTr.2.shape
   have hG7 : w7.heap[X]? = some (.cells #[.slice none 0 0, .slice none 0 0] 26 (0, 0)) := (hg7.block X (by omega) (fun e => by have := Option.some.inj e; omega)).trans HG6.out
   have hF7 : w7.heap[F]? = some (.cells #[.int .i64 0, .int .i64 0] 29 (0, 0)) := (hg7.block F (by omega) (fun e => by have := Option.some.inj e; omega)).trans HF6.out
   have hC7 : w7.heap[C]? = some (.cells #[.pointer (some ⟨B, 0, none⟩)] 55 (0, 0)) := (hg7.block C (by omega) (fun e => by have := Option.some.inj e; omega)).trans HC6.out
   have hBl : Below X W w7 := by
    have h := HB6.out
    rw [HX.out] at h
    exact ⟨hg7.os.trans h.os, hg7.tape.trans h.tape, hg7.output.trans h.output, Nat.le_trans h.size hg7.size, fun c hc => (hg7.block c (by omega) (fun e => by have := Option.some.inj e; omega)).trans (h.block c hc)⟩
   obtain ⟨w8, hw8⟩ : ∃ w8, (((w7.setCell ⟨X, 0, none⟩ (.slice hq t.hands.length hk)).setCell ⟨X, 1, none⟩ (.slice rq t.routes.length rk)).setCell ⟨F, 0, none⟩ (.int .i64 0)).setCell ⟨F, 1, none⟩ (.int .i64 0) = w8 := ⟨_, rfl⟩
   have nXF : X ≠ F := by omega
   have nFX : F ≠ X := by omega
   have hG8 : w8.heap[X]? = some (.cells #[.slice hq t.hands.length hk, .slice rq t.routes.length rk] 26 (0, 0)) := by
    rw [← hw8, heap_setCell_other _ ⟨F, 1, none⟩ X _ nXF, heap_setCell_other _ ⟨F, 0, none⟩ X _ nXF]
    exact heap_setCell_same _ X 1 _ _ _ (heap_setCell_same w7 X 0 _ _ _ hG7)
   have hF8 : w8.heap[F]? = some (.cells #[.int .i64 0, .int .i64 0] 29 (0, 0)) := by
    rw [← hw8]
    have h1 : ((w7.setCell ⟨X, 0, none⟩ (.slice hq t.hands.length hk)).setCell ⟨X, 1, none⟩ (.slice rq t.routes.length rk)).heap[F]? = some (.cells #[.int .i64 0, .int .i64 0] 29 (0, 0)) := by
     rw [heap_setCell_other _ ⟨X, 1, none⟩ F _ nFX, heap_setCell_other _ ⟨X, 0, none⟩ F _ nFX]
     exact hF7
    exact heap_setCell_same _ F 1 _ _ (.int .i64 0) (heap_setCell_same _ F 0 _ _ (.int .i64 0) h1)
   have hoth : ∀ c, c ≠ X → c ≠ F → w8.heap[c]? = w7.heap[c]? := fun c h1 h2 => by
    rw [← hw8, heap_setCell_other _ ⟨F, 1, none⟩ c _ h2, heap_setCell_other _ ⟨F, 0, none⟩ c _ h2, heap_setCell_other _ ⟨X, 1, none⟩ c _ h1, heap_setCell_other _ ⟨X, 0, none⟩ c _ h1]
   have hB8 : Below X W w8 := by
    rw [← hw8]
    exact (((hBl.setCell (p := ⟨X, 0, none⟩) (Nat.le_refl _) _).setCell (p := ⟨X, 1, none⟩) (Nat.le_refl _) _).setCell (p := ⟨F, 0, none⟩) (by show X ≤ F; omega) _).setCell (p := ⟨F, 1, none⟩) (by show X ≤ F; omega) _
   have hTr8 : TreeP (fun b => X ≤ b) w8.drew k (.slice hq t.hands.length hk) (.slice rq t.routes.length rk) t := by
    refine hTr.kept (w' := w8.drew) (Q := fun b => X ≤ b) fun c hc _ => ?_
    have hc : w6.heap.size ≤ c := hc
    exact ⟨hoth c (by omega) (by omega), by show X ≤ c; omega⟩
   obtain ⟨x0, x1⟩ := row2_ hG7
   obtain ⟨y0, y1⟩ := row2_ hF7
   have z0 := frozen_of_row w7 X 0 _ _ hG7
   have z1 := frozen_of_row w7 X 1 _ _ hG7
   have z2 := frozen_of_row w7 F 0 _ _ hF7
   have z3 := frozen_of_row w7 F 1 _ _ hF7
   have l7 : X < w7.heap.size := (Array.getElem?_eq_some_iff.1 hG7).1
   have l8 : F < w7.heap.size := (Array.getElem?_eq_some_iff.1 hF7).1
   have hC8 : w8.cell? ⟨C, 0, none⟩ = some (.pointer (some ⟨B, 0, none⟩)) := by rw [cell_of_row _ _ _ _ _ _ ((hoth C (by omega) (by omega)).trans hC7)]; rfl
   have HC8 := Lib.hid hC8
   have HF8 := Lib.hid hF8
   have HG8 := Lib.hid hG8
   have HB8 := Lib.hid hB8
   have HTr8 := Lib.hid hTr8
   clear hTr hA7 hg7 hG7 hF7 hC7 hBl hG8 hF8 hoth hB8 hTr8 hC8
   go_wp2_with fail
   refine leaves_cons (f := 30) (args := #[.pointer (some ⟨C, 0, none⟩), .pointer (some ⟨F, 0, none⟩), .pointer (some ⟨X, 0, none⟩)]) (by simp) (by simp [go_sem]) ?_
   refine (parse1_ret (W := w8) HC8.out HF8.out).mono ?_
   rintro e9 u9 w9 ⟨rfl, rfl, rfl⟩
   refine ⟨_, resP _ _ X F _ _ _ _ (show w8.drew.heap[X]? = _ from HG8.out) (show w8.drew.heap[F]? = _ from HF8.out) rfl rfl, ?_⟩
   rw [← HPP.out, HE.out]
   refine ⟨by rw [HX.out]; exact HB8.out.drew, _, _, k, rfl, ?_⟩
   rw [HX.out]
   exact HTr8.out
end
section
set_option maxRecDepth 100000
open Go Go.RowKit Go.Sort

def Pow (w : World) : Prop := Lib.TabIs Tryz.prog w "internal/strconv.uint64pow10" .u64 Lib.pow10Tab
set_option maxHeartbeats 4000000 in
theorem fmtu_any (u : Nat) (hu64 : u < 18446744073709551616) (w : World) (htab : Pow w) :
  Calls Tryz.prog 141 #[.int .u64 (u : Nat), .int .i64 10] w fun e w' => e = .returned (.string (ba (Lib.itoa (u : Nat)))) ∧ Below w.heap.size w w' := by
 obtain ⟨PP, hPP⟩ : ∃ PP : Ending → World → Prop, (fun e w' => e = .returned (.string (ba (Lib.itoa (u : Nat)))) ∧ Below w.heap.size w w') = PP := ⟨_, rfl⟩
 rw [hPP]
 have HPP := Lib.hid hPP
 clear hPP
 by_cases hs : u < 100
 ·have C := Lib.hid (Any.internal_strconv_small Tryz.laysn283 u hs)
  have h1 : (u : Int) < 100 := by omega
  have h2 : IntKind.i64.wrap (u : Int) = u := by rw [IntKind.wrap_i64]; omega
  go_enter Tryz.func141, Tryz.ntmps141
  go_wp2_with (go_at_call 162; refine (C.out _).mono ?_; rintro e w' ⟨rfl, rfl⟩)
  rw [← HPP.out]
  exact ⟨by rw [Lib.itoa_nonneg]; rfl, Below.refl _ _⟩
 ·have h1 : ¬ (u : Int) < 100 := by omega
  have hu1 : 1 ≤ u := by omega
  have hnd20 : Lib.nDigits u ≤ 20 := by have := Lib.numDigits_eq u hu1 hu64; split at this <;> omega
  have hal : Tryz.prog.arrayLen 190 = 24 := by kernel_rfl
  have hel : Tryz.prog.elem 190 = 5 := by kernel_rfl
  have hsl1 : ∀ W, (Instr.sliceAt 190 (.pointer (some ⟨w.heap.size, 0, none⟩)) none (some (.int .i64 (Lib.nDigits u : Int))) none).run Tryz.prog W = .ok (.slice (some ⟨w.heap.size, 0, none⟩) (Lib.nDigits u) 24) W := fun W => by
   rw [run_sliceAt_array_h W 190 ⟨w.heap.size, 0, none⟩ (by kernel_rfl) .i64 (Lib.nDigits u : Int) (by omega) (by rw [hal]; omega)]
   rw [hal, hel]
   go_simp
  have hH0 := Lib.holds_zero0 w 190 (Lib.nDigits u) (by omega)
  have hfmt := Any.internal_strconv_formatBase10 Tryz.laysn285 w.heap.size 0 24 u (Array.replicate (Lib.nDigits u) 0) (w.alloc (.cells Lib.zeros24 190)) hH0 (by rw [Array.size_replicate]; exact Lib.lt_pow_nDigits u) hu64 (by rw [Array.size_replicate]; omega)
  rw [Array.size_replicate] at hfmt
  have HH0 := Lib.hid hH0
  have HF := Lib.hid hfmt
  have C4 := Lib.hid (Any.internal_strconv_numDigits Tryz.laysMn284 u hu1 hu64 _ (Lib.tabIs_alloc htab (.cells Lib.zeros24 190)))
  have HT : Hid (Pow w) := htab
  clear hH0 hal hel hfmt htab
  go_enter Tryz.func141, Tryz.ntmps141
  go_wp2_with (go_at_call 163; refine C4.out.mono ?_; rintro e w' ⟨rfl, rfl⟩)
  go_at_call 164
  refine HF.out.mono ?_
  rintro e w' ⟨rfl, k, v', dk, rfl, hF⟩
  have hcv : (convert 22 9 (.slice (some ⟨w.heap.size, 0, none⟩) (Lib.nDigits u) 24)).run Tryz.prog ((putRow (fun (b : UInt8) => Value.int .u8 (b.toNat : Int)) (w.alloc (.cells Lib.zeros24 190)) w.heap.size 0 dk).drewN k) = .ok (.string ⟨(Lib.decDigits u).toArray⟩) ((putRow (fun (b : UInt8) => Value.int .u8 (b.toNat : Int)) (w.alloc (.cells Lib.zeros24 190)) w.heap.size 0 dk).drewN k) := by
   have h := run_convert_bytes_back (P := Tryz.prog) ((putRow (fun (b : UInt8) => Value.int .u8 (b.toNat : Int)) (w.alloc (.cells Lib.zeros24 190)) w.heap.size 0 dk).drewN k) 22 9 5 ⟨w.heap.size, 0, none⟩ 24 (Lib.decDigits u) Tryz.underlying22 Tryz.underlying5 Tryz.underlying9 (fun j hj => by
    rw [Lib.row_is_numeral hF j hj, Lib.add_plain, World.cell?_drewN]
    exact cell?_putRow (fun (b : UInt8) => Value.int .u8 (b.toNat : Int)) _ w.heap.size 0 _ dk HH0.out (by rw [hF.size, Array.size_replicate]) j (by rw [hF.size]; rw [Lib.decDigits_length] at hj; exact hj))
   rw [Lib.decDigits_length] at h
   exact h
  obtain ⟨os, eo⟩ := Lib.fin_at w (.cells Lib.zeros24 190) dk k 0
  have HE := Lib.hid eo
  clear hF eo
  go_wp2_with fail
  rw [← HPP.out]
  refine ⟨by rw [Lib.itoa_nonneg]; rfl, ?_⟩
  rw [HE.out]
  exact Lib.below_grow _ _ (Nat.le_refl _) _ _
theorem fmt_any (u : Nat) (hu64 : u < 18446744073709551616) (w : World) (htab : Pow w) :
  Calls Tryz.prog 95 #[.int .u64 (u : Nat), .int .i64 10] w fun e w' => e = .returned (.string (ba (Lib.itoa (u : Nat)))) ∧ Below w.heap.size w w' := by
 obtain ⟨PP, hPP⟩ : ∃ PP : Ending → World → Prop, (fun e w' => e = .returned (.string (ba (Lib.itoa (u : Nat)))) ∧ Below w.heap.size w w') = PP := ⟨_, rfl⟩
 rw [hPP]
 have HPP := Lib.hid hPP
 have C := Lib.hid (fmtu_any u hu64 w htab)
 clear hPP htab
 go_enter Tryz.func95, Tryz.ntmps95
 go_wp2_with (go_at_call 141; refine C.out.mono ?_; rintro e w' ⟨rfl, hb⟩)
 rw [← HPP.out]
 exact ⟨rfl, hb⟩
theorem digits_any (u : Nat) (hu64 : u < 18446744073709551616) (w : World) (htab : Pow w) :
  Calls Tryz.prog 137 #[.int .u64 (u : Nat)] w fun e w' => e = .returned (.string (ba (Lib.itoa (u : Nat)))) ∧ Below w.heap.size w w' := by
 obtain ⟨PP, hPP⟩ : ∃ PP : Ending → World → Prop, (fun e w' => e = .returned (.string (ba (Lib.itoa (u : Nat)))) ∧ Below w.heap.size w w') = PP := ⟨_, rfl⟩
 rw [hPP]
 have HPP := Lib.hid hPP
 have C := Lib.hid (fmt_any u hu64 w htab)
 clear hPP htab
 go_enter Tryz.func137, Tryz.ntmps137
 go_wp2_with (go_at_call 95; refine C.out.mono ?_; rintro e w' ⟨rfl, hb⟩)
 rw [← HPP.out]
 exact ⟨rfl, hb⟩
theorem rdigits_any (u : Nat) (hu64 : u < 18446744073709551616) (w : World) (htab : Pow w) :
  Calls Tryz.prog 48 #[.int .u64 (u : Nat)] w fun e w' => e = .returned (.string (ba (Lib.itoa (u : Nat)))) ∧ Below w.heap.size w w' := by
 obtain ⟨PP, hPP⟩ : ∃ PP : Ending → World → Prop, (fun e w' => e = .returned (.string (ba (Lib.itoa (u : Nat)))) ∧ Below w.heap.size w w') = PP := ⟨_, rfl⟩
 rw [hPP]
 have HPP := Lib.hid hPP
 have C := Lib.hid (fmt_any u hu64 w htab)
 clear hPP htab
 go_enter Tryz.func48, Tryz.ntmps48
 go_wp2_with (go_at_call 95; refine C.out.mono ?_; rintro e w' ⟨rfl, hb⟩)
 rw [← HPP.out]
 exact ⟨rfl, hb⟩
end
section
set_option maxRecDepth 100000
open Go Go.ChangeShapes Go.WideShapes Go.ChangeAt Go.RowKit

theorem own : ownKnob Tryz.prog.godebug = none := by kernel_rfl
def laidTabs7 : List (String × DataW Unit) := Rows.parseReadsUptoRow.laid
theorem words_data : (Rows.laid_conduit_scan_words : DataW Unit) = .agg (wordsS.map fun l => .lit (.string l)) := by kernel_rfl
theorem kinds_data : (Rows.laid_conduit_parse_kinds : DataW Unit) = .agg (kindWords.map fun l => .lit (.string l)) := by kernel_rfl
theorem faces_data : (Rows.laid_conduit_parse_faces : DataW Unit) = .agg (faceWords.map fun l => .lit (.string l)) := by kernel_rfl
theorem pow_eq : (Rows.laid_internal_strconv_uint64pow10 : DataW Unit) = Lib.tabData .u64 Lib.pow10Tab := by kernel_rfl
theorem words_of {W : World} (h : Lib.VarReads Tryz.prog W "conduit/scan.words" Rows.laid_conduit_scan_words) : W.rangeAt 4 0 (tabV wordsS) := by
 obtain ⟨g, t, cs, fuel, p, hg, hty, hvar, hd⟩ := h
 obtain rfl := Option.some.inj ((show Tryz.prog.globalNamed "conduit/scan.words" = some 4 by kernel_rfl).symm.trans hg)
 obtain rfl := Option.some.inj ((show (Tryz.prog.globals[4]?).map (·.type) = some 185 by kernel_rfl).symm.trans hty)
 rw [words_data] at hd
 intro j v hv
 obtain ⟨l, hl, rfl⟩ : ∃ l, (wordsS)[j]? = some l ∧ Value.string (ba l) = v := by simpa [tabV] using hv
 have hj : j < 22 := by
  have h1 := (List.getElem?_eq_some_iff.1 hl).1
  exact h1
 obtain ⟨fuel', d, q, hdi, he⟩ := Lib.array_elem Tryz.underlying185 hd j hj
 simp only [List.getElem?_map, hl, Option.map_some, Option.some.injEq] at hdi
 subst hdi
 rw [show Tryz.prog.cellsOf 9 = 1 by kernel_rfl] at he
 obtain ⟨s, hcs, hx, _⟩ := DataW.trod_string Tryz.underlying9 he
 simp only [Prod.mk.injEq, DataW.lit.injEq, Lit.string.injEq] at hx
 have hs : s = ba l := by
  have : s.data.toList = l := hx.1.symm
  rw [← this]; rfl
 have := World.var?_cell hg hvar j
 rw [Nat.zero_add, this, ← Array.getElem?_toList]
 rw [Nat.mul_one] at hcs
 have e : cs.toList[j]? = ((cs.toList.drop j).take 1)[0]? := by simp [List.getElem?_drop]
 rw [e, hcs, hs]; rfl
theorem kinds_of {W : World} (h : Lib.VarReads Tryz.prog W "conduit/parse.kinds" Rows.laid_conduit_parse_kinds) : W.rangeAt 1 0 (tabV kindWords) := by
 obtain ⟨g, t, cs, fuel, p, hg, hty, hvar, hd⟩ := h
 obtain rfl := Option.some.inj ((show Tryz.prog.globalNamed "conduit/parse.kinds" = some 1 by kernel_rfl).symm.trans hg)
 obtain rfl := Option.some.inj ((show (Tryz.prog.globals[1]?).map (·.type) = some 179 by kernel_rfl).symm.trans hty)
 rw [kinds_data] at hd
 intro j v hv
 obtain ⟨l, hl, rfl⟩ : ∃ l, (kindWords)[j]? = some l ∧ Value.string (ba l) = v := by simpa [tabV] using hv
 have hj : j < 14 := by
  have h1 := (List.getElem?_eq_some_iff.1 hl).1
  exact h1
 obtain ⟨fuel', d, q, hdi, he⟩ := Lib.array_elem Tryz.underlying179 hd j hj
 simp only [List.getElem?_map, hl, Option.map_some, Option.some.injEq] at hdi
 subst hdi
 rw [show Tryz.prog.cellsOf 9 = 1 by kernel_rfl] at he
 obtain ⟨s, hcs, hx, _⟩ := DataW.trod_string Tryz.underlying9 he
 simp only [Prod.mk.injEq, DataW.lit.injEq, Lit.string.injEq] at hx
 have hs : s = ba l := by
  have : s.data.toList = l := hx.1.symm
  rw [← this]; rfl
 have := World.var?_cell hg hvar j
 rw [Nat.zero_add, this, ← Array.getElem?_toList]
 rw [Nat.mul_one] at hcs
 have e : cs.toList[j]? = ((cs.toList.drop j).take 1)[0]? := by simp [List.getElem?_drop]
 rw [e, hcs, hs]; rfl
theorem faces_of {W : World} (h : Lib.VarReads Tryz.prog W "conduit/parse.faces" Rows.laid_conduit_parse_faces) : W.rangeAt 2 0 (tabV faceWords) := by
 obtain ⟨g, t, cs, fuel, p, hg, hty, hvar, hd⟩ := h
 obtain rfl := Option.some.inj ((show Tryz.prog.globalNamed "conduit/parse.faces" = some 2 by kernel_rfl).symm.trans hg)
 obtain rfl := Option.some.inj ((show (Tryz.prog.globals[2]?).map (·.type) = some 180 by kernel_rfl).symm.trans hty)
 rw [faces_data] at hd
 intro j v hv
 obtain ⟨l, hl, rfl⟩ : ∃ l, (faceWords)[j]? = some l ∧ Value.string (ba l) = v := by simpa [tabV] using hv
 have hj : j < 10 := by
  have h1 := (List.getElem?_eq_some_iff.1 hl).1
  exact h1
 obtain ⟨fuel', d, q, hdi, he⟩ := Lib.array_elem Tryz.underlying180 hd j hj
 simp only [List.getElem?_map, hl, Option.map_some, Option.some.injEq] at hdi
 subst hdi
 rw [show Tryz.prog.cellsOf 9 = 1 by kernel_rfl] at he
 obtain ⟨s, hcs, hx, _⟩ := DataW.trod_string Tryz.underlying9 he
 simp only [Prod.mk.injEq, DataW.lit.injEq, Lit.string.injEq] at hx
 have hs : s = ba l := by
  have : s.data.toList = l := hx.1.symm
  rw [← this]; rfl
 have := World.var?_cell hg hvar j
 rw [Nat.zero_add, this, ← Array.getElem?_toList]
 rw [Nat.mul_one] at hcs
 have e : cs.toList[j]? = ((cs.toList.drop j).take 1)[0]? := by simp [List.getElem?_drop]
 rw [e, hcs, hs]; rfl
theorem star_err : "*" ++ "errors.errorString" = "*errors.errorString" := by decide
theorem row_err (u : TypeId) (h : Tryz.prog.typeName? 3 u = some "*errors.errorString") : u = 208 :=
 typeName_ptr_named (nm := "errors.errorString") (by rw [star_err]; kernel_rfl) (by kernel_rfl) (by decide) u (by rw [star_err]; exact h)
theorem tabs_of7 {W : World} (h : laidMetH Tryz.prog laidTabs7 W) (hsh : W.ShapedOpen Tryz.prog) : ∃ ad, Px W ad ∧ Pow W := by
 have h : laidMet Tryz.prog [(_, Rows.laid_math_bits_deBruijn32tab), (_, Rows.laid_math_bits_deBruijn64tab), ("internal/strconv.uint64pow10", Rows.laid_internal_strconv_uint64pow10), ("conduit/scan.words", Rows.laid_conduit_scan_words), ("conduit/parse.errBroken", Rows.laid_conduit_parse_errBroken), ("conduit/parse.kinds", Rows.laid_conduit_parse_kinds), ("conduit/parse.faces", Rows.laid_conduit_parse_faces)] W := h
 have h1 := Lib.laidMet.reads h (.tail _ (.tail _ (.head _)))
 have h2 := Lib.laidMet.reads h (.tail _ (.tail _ (.tail _ (.head _))))
 have h3 := Lib.laidMet.reads h (.tail _ (.tail _ (.tail _ (.tail _ (.tail _ (.head _))))))
 have h4 := Lib.laidMet.reads h (.tail _ (.tail _ (.tail _ (.tail _ (.tail _ (.tail _ (.head _)))))))
 have h5 : laidMet Tryz.prog [("conduit/parse.errBroken", Rows.laid_conduit_parse_errBroken), ("conduit/parse.kinds", Rows.laid_conduit_parse_kinds), ("conduit/parse.faces", Rows.laid_conduit_parse_faces)] W := h.tail.tail.tail.tail
 obtain ⟨ad, s, hv, -, -, -⟩ := laid_sentinel (g := 0) (ti := 119) (tp := 208) (te := 222) (ts := 9) h5 (by kernel_rfl) (by kernel_rfl) Tryz.underlying119 row_err Tryz.underlying208 Tryz.underlying222 rfl rfl Tryz.underlying9 (by kernel_rfl) (by kernel_rfl)
 rw [pow_eq] at h1
 refine ⟨ad, ⟨⟨words_of h2, Tryz.laysMn185.s1_3 W hsh⟩, kinds_of h3, faces_of h4, ?_⟩, ?_⟩
 ·exact World.var?_cell (show Tryz.prog.globalNamed "conduit/parse.errBroken" = some 0 by kernel_rfl) hv 0
 ·obtain ⟨g', t', cs, fuel, p, hg', ht', hvar, hd⟩ := h1
  obtain rfl := Option.some.inj ((show Tryz.prog.globalNamed "internal/strconv.uint64pow10" = some 5 by kernel_rfl).symm.trans hg')
  obtain rfl := Option.some.inj ((show (Tryz.prog.globals[5]?).map (·.type) = some 200 by kernel_rfl).symm.trans ht')
  unfold Pow Lib.TabIs
  rw [hvar, ← Lib.cells_of_tab Tryz.underlying200 Tryz.underlying75 (by kernel_rfl) (by kernel_rfl) hd]
def cellsD : DataW Unit → List Value
 | .agg l => l.filterMap fun d => match d with | .lit (.int k n) => some (.int k n) | _ => none
 | _ => []
noncomputable def low : Nat := (World.holding Tryz.prog default ⟨#[], #[], []⟩).heap.size
noncomputable def laidWorld7 (os : Os) : World :=
 let w0 := World.holding Tryz.prog os ⟨#[.cells #[.string ⟨#[98, 114, 111, 107, 101, 110]⟩] 222], #[], []⟩
 let put (h : Array Obj) (g : Nat) (cs : Array Value) : Array Obj := h.modify g fun
  | .cells _ t frozen => .cells cs t frozen
  | o => o
 let h1 := put w0.heap 4 (tabV wordsS).toArray
 let h2 := put h1 1 (tabV kindWords).toArray
 let h3 := put h2 2 (tabV faceWords).toArray
 let h4 := put h3 5 (cellsD Rows.laid_internal_strconv_uint64pow10).toArray
 let h5 := put h4 6 (cellsD Rows.laid_math_bits_deBruijn32tab).toArray
 let h6 := put h5 7 (cellsD Rows.laid_math_bits_deBruijn64tab).toArray
 let h7 := put h6 0 #[.iface 208 (.pointer (some ⟨low, 0, none⟩))]
 { w0 with heap := h7 }
theorem laid_met7 (os : Os) (args : Array Value) : laidMet Tryz.prog laidTabs7 ((laidWorld7 os).forCall (fun _ _ => 0) ⟨#[], args, []⟩).memory :=
 laidMet_of_run' 8 (by kernel_rfl) (by kernel_rfl)
end
end Go.Proofs.YtbdllefnghddcaaGreatDoor
