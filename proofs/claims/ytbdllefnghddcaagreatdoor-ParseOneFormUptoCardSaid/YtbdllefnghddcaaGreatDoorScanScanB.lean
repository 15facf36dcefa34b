/- THE PROGRAM's Scan, walked. -/
import Derived.Test.YtbdllefnghddcaaGreatDoorPMem
namespace Go.Proofs.YtbdllefnghddcaaGreatDoor
open Go Go.RowKit

theorem FW.far {w W : World} {a b : Nat} (h : FW w W a b) {p : Addr} (hp : w.heap.size < p.block) (u : Value) : FW w (W.setCell p u) a b :=
 ⟨h.1.setCell (Nat.le_of_lt hp) u, (Below.heap_setCell _ _ _ _ (by omega)).trans h.2⟩
theorem tok_fill {w : World} {base : Nat} {v : Value} {n : Nat} {xs : List Value} {e : TypeId} {k : Nat} (h : w.ownsRow base e k v n xs) {R : Nat} (hR : R < base) (u u' : Value) : ((w.setCell ⟨R, 0, none⟩ u).setCell ⟨R, 1, none⟩ u').ownsRow base e k v n xs :=
 ownsRow_setCell_below (ownsRow_setCell_below h (a := ⟨R, 0, none⟩) hR u) (a := ⟨R, 1, none⟩) hR u'
theorem tc_one (t : Tok) : ∀ u ∈ tc t, u.oneCell' = true := by
 intro u hu; simp [tc] at hu; rcases hu with rfl | rfl | rfl | rfl | rfl <;> rfl
theorem news_tok {w : World} {g : Nat} (hg : g = w.heap.size) (cs : List Value) (t : TypeId) : ∀ j u, cs[j]? = some u → (w.alloc (.cells cs.toArray t)).cell? ((⟨g, 0, none⟩ : Addr).add j) = some u := by
 subst hg; exact news_cells w cs t
theorem ownsBelow {w w' : World} {base n k : Nat} {e : TypeId} {v : Value} {xs : List Value} (h : w.ownsRow base e k v n xs) (hb : Below w.heap.size w w') : w'.ownsRow base e k v n xs :=
 h.kept (row := none) ⟨hb.os, hb.tape, hb.output, hb.size, fun i hi _ => hb.block i hi⟩ (by cases hv : v.ownBlock <;> simp)
theorem tok_cells (w : World) (t : Tok) : (w.alloc (.cells (tc t).toArray 114)).cell? ⟨w.heap.size, 0, none⟩ = some (.int .i64 (t.kind : Nat)) ∧ (w.alloc (.cells (tc t).toArray 114)).cell? ⟨w.heap.size, 1, none⟩ = some (.int .i64 (t.pos : Nat)) ∧
  (w.alloc (.cells (tc t).toArray 114)).cell? ⟨w.heap.size, 2, none⟩ = some (.int .i64 (t.stop : Nat)) ∧ (w.alloc (.cells (tc t).toArray 114)).cell? ⟨w.heap.size, 3, none⟩ = some (.int .u64 (t.num : Nat)) ∧
  (w.alloc (.cells (tc t).toArray 114)).cell? ⟨w.heap.size, 4, none⟩ = some (.string (ba t.text)) := by
 refine ⟨?_, ?_, ?_, ?_, ?_⟩ <;> (rw [cell_of_row _ _ _ _ _ _ (heap_alloc_new w _)]; rfl)
theorem far_block {W W5 : World} {row : Option Nat} {o : Obj} (hg : (W.alloc o).grownBy W5 row) {k : Nat} (hk : k < W.heap.size) (hne : ¬ row = some k) : W5.heap[k]? = W.heap[k]? :=
 (hg.block k (by rw [World.size_alloc]; omega) (fun e => hne e.symm)).trans (Below.heap_alloc W o k hk)
theorem FW.grown {w W W5 : World} {a b : Nat} {row : Option Nat} {o : Obj} (h : FW w W a b) (hg : (W.alloc o).grownBy W5 row) (hne : ¬ row = some w.heap.size) (hb : ∀ k, k < w.heap.size → ¬ row = some k) : FW w W5 a b :=
 ⟨⟨hg.os.trans h.1.os, hg.tape.trans h.1.tape, hg.output.trans h.1.output, Nat.le_trans h.1.size (Nat.le_trans (by rw [World.size_alloc]; omega) hg.size), fun k hk => (far_block hg (Nat.lt_of_lt_of_le hk h.1.size) (hb k hk)).trans (h.1.block k hk)⟩, (far_block hg h.lt hne).trans h.2⟩
theorem Scn.drew_ {w : World} {g p : Nat} {v : Value} (h : Scn w g v p) : Scn w.drew g v p := h
theorem Scn.other {w : World} {g p : Nat} {v : Value} (h : Scn w g v p) {a : Addr} (ha : g ≠ a.block) (u : Value) : Scn (w.setCell a u) g v p := (Below.heap_setCell _ _ _ _ ha).trans h
theorem Scn.two {w : World} {g p R : Nat} {v : Value} (h : Scn w g v p) (hR : R < g) (u u' : Value) : Scn ((w.setCell ⟨R, 0, none⟩ u).setCell ⟨R, 1, none⟩ u').drew g v p :=
 ((h.other (a := ⟨R, 0, none⟩) (by show g ≠ R; omega) u).other (a := ⟨R, 1, none⟩) (by show g ≠ R; omega) u').drew_

set_option maxRecDepth 100000 in
set_option maxHeartbeats 16000000 in
theorem scan_any (v : Value) (l : List UInt8) (w : World) (hE : Env w) (hV : Bs w v l) (hl : l.length ≤ 1048577) :
  Calls Tryz.prog 28 #[v] w (ScanPost w (scanS l)) := by
 obtain ⟨i0, hi, hz0, hz1, hz2⟩ := info_parts info_token
 have HE := Lib.hid hE
 have HV := Lib.hid hV
 obtain ⟨pv, cap, rfl, hcap, hm, -⟩ := id hV
 clear hE hV
 by_cases hlong : 65536 < l.length
 ·obtain ⟨PP, hPP⟩ : ∃ PP, ScanPost w (scanS l) = PP := ⟨_, rfl⟩
  rw [hPP]
  have HPP := Lib.hid hPP
  have HN : Hid (scanS l = .bad 0 60) := by show _ = _; unfold scanS; rw [if_pos hlong]
  have hlong' : (65536 : Int) < (l.length : Int) := by omega
  have HF0 : Hid (FW w (w.alloc (.cells #[.int .i64 0, .int .i64 0] 29)) 0 0) := ⟨(Below.refl _ _).alloc (Nat.le_refl _) _, heap_alloc_new w _⟩
  clear hPP
  go_enter Tryz.func28, Tryz.ntmps28
  go_wp2
  refine bodyPost_ret (resF (heap_alloc_new w _) rfl _ rfl) rfl ?_
  rw [← HPP.out]
  exact scan_bad HN.out ((Below.refl _ _).alloc (Nat.le_refl _) _)
 ·obtain ⟨PP, hPP⟩ : ∃ PP, ScanPost w (scanS l) = PP := ⟨_, rfl⟩
  rw [hPP]
  have HPP := Lib.hid hPP
  have HN : Hid (scanS l = scanAt l 0 16384) := by show _ = _; unfold scanS; rw [if_neg hlong]
  have hlong' : ¬ (65536 : Int) < (l.length : Int) := by omega
  obtain ⟨W0, hW0⟩ : ∃ W0, W0 = (w.alloc (.cells #[.int .i64 0, .int .i64 0] 29)).alloc (.cells #[.slice pv l.length cap, .int .i64 0] 112) := ⟨_, rfl⟩
  have HF0 : Hid (FW w W0 0 0) := by
   show FW _ _ _ _
   rw [hW0]
   have h1 : FW w (w.alloc (.cells #[.int .i64 0, .int .i64 0] 29)) 0 0 := ⟨(Below.refl _ _).alloc (Nat.le_refl _) _, heap_alloc_new w _⟩
   exact h1.below ((Below.refl _ _).alloc (Nat.le_refl _) _)
  have HS0 : Hid (Scn W0 (w.heap.size + 1) (.slice pv l.length cap) 0) := by
   show Scn _ _ _ _
   rw [hW0]
   have := heap_alloc_new (w.alloc (.cells #[.int .i64 0, .int .i64 0] 29)) (.cells #[.slice pv l.length cap, .int .i64 0] 112)
   rw [World.size_alloc] at this
   exact this
  have HA0 : Hid (ScAt l 0 []) := ⟨by omega, by simp, by
   show scanAt l 0 16384 = appS [] (scanAt (l.drop 0) 0 16384)
   rw [List.drop_zero]; cases scanAt l 0 16384 <;> rfl⟩
  have hz0' : w.heap.size + 2 ≤ W0.heap.size := by rw [hW0]; simp
  have HW0 := Lib.hid hW0
  clear hPP hlong
  go_enter Tryz.func28, Tryz.ntmps28
  go_wp2
  go_loopw [5, 6, 7] (fun v5 _ _ wr => ∃ (ts : List Tok) (p : Nat), Hid (FW w wr 0 0) ∧ Hid (Scn wr (w.heap.size + 1) (.slice pv l.length cap) p) ∧ Hid (ScAt l p ts) ∧ Hid (wr.ownsRow (w.heap.size + 2) 114 5 v5 ts.length (tcs ts)) ∧ w.heap.size + 2 ≤ wr.heap.size)
   (fun _ _ _ wr => l.length - scnAt wr (w.heap.size + 1))
  case atStart => exact ⟨[], 0, by rw [← HW0.out]; exact HF0, by rw [← HW0.out]; exact HS0, HA0, World.ownsRow_nil _ _ _ _, by rw [← HW0.out]; exact hz0'⟩
  case round =>
   obtain ⟨ts, p, HF, HS, HA, HO, hsz⟩ := hrel
   obtain ⟨pA, cA, rfl, -⟩ := Tks.of_own HO.out
   have HB := Lib.hid HF.out.1
   have HV1 := Lib.hid (HV.out.below HB.out)
   have HE1 := Lib.hid (HE.out.below HB.out)
   have CS := Lib.hid (skip_any (w.heap.size + 1) _ l p wr HE1.out HV1.out HS.out hl HA.out.1)
   have HM := Lib.hid (scnAt_of HS.out)
   go_wp2_with fail
   refine CS.out.mono ?_
   rintro e w2 ⟨p1, ok, rfl, hp01, hp1l, hS2, hG2, hsc, hok1, hok2⟩
   have HA2 := Lib.hid (scAt_skip HA.out hp1l hsc)
   have HF2 := Lib.hid (HF.out.beside hG2 (by omega))
   have HV2 := Lib.hid (HV1.out.beside HS.out hG2)
   have HE2 := Lib.hid (HE1.out.beside HV1.out HS.out hG2)
   have HO2 : Hid (w2.ownsRow (w.heap.size + 2) 114 5 (.slice pA ts.length cA) ts.length (tcs ts)) := HO.out.kept hG2 (by
    right; intro e
    have := (HO.out.lt _ e).1; omega)
   have HS2 := Lib.hid hS2
   have hsz2 := Nat.le_trans hsz hG2.size
   have g1 := hS2.cell1
   clear hsc hG2 hS2
   cases ok
   ·obtain ⟨hlt, hsk⟩ := hok2 rfl
    have HR := Lib.hid (HN.out.trans (scAt_open HA2.out hlt hsk))
    have ⟨r0, r1⟩ := HF2.out.cells
    have fr := HF2.out.frozen
    clear hok1 hok2 hsk
    go_wp2
    go_region_held3 (fun w' => w'.cell? ⟨w.heap.size + 1, 1, none⟩ = some (.int .i64 (p1 : Nat))) (first | exact (HS2.out.drew_).cell1 | exact (HS2.out.two (by omega) _ _).cell1) (fail)
    refine k_world (fun W => FW w W p1 62) (by exact (HF2.out.fill p1 62 rfl rfl).drew_) (fun W4 HF4 => ?_)
    have ⟨r0, r1⟩ := HF4.cells
    go_wp2
    refine bodyPost_ret (resF HF4.2 rfl _ rfl) rfl ?_
    rw [← HPP.out]
    exact scan_bad HR.out HF4.1
   ·clear hok2
    by_cases hend : p1 = l.length
    ·have HR := Lib.hid (HN.out.trans (scAt_end HA2.out hend))
     have hend' : ((p1 : Int) == (l.length : Int)) = true := by rw [hend]; simp
     have ⟨r0, r1⟩ := HF2.out.cells
     have fr := HF2.out.frozen
     clear hok1 hend
     go_wp2
     have HF3 := HF2.out.fill 0 0 rfl rfl
     refine bodyPost_ret (resF HF3.2 rfl _ rfl) rfl ?_
     rw [← HPP.out]
     exact scan_toks HR.out HF3.1 (Tks.of_own (tok_fill HO2.out (by omega) _ _))
    ·have hlt : p1 < l.length := by omega
     have hend' : ((p1 : Int) == (l.length : Int)) = false := beq_eq_false_iff_ne.2 (by omega)
     obtain ⟨q1, q2, q3, q4⟩ := scAt_tok HA2.out hlt (hok1 rfl hlt)
     have CN := Lib.hid (next_any (w.heap.size + 1) _ l p1 w2 HE2.out HV2.out HS2.out hl hlt)
     clear hok1 hend
     obtain ⟨E, hE⟩ : ∃ E, (oneS (l.drop p1) p1).1 = E := ⟨_, rfl⟩
     obtain ⟨T, hT⟩ : ∃ T, (oneS (l.drop p1) p1).2 = T := ⟨_, rfl⟩
     rw [hE] at q1 q2 q3 q4
     rw [hT] at q4
     have Q1 := Lib.hid q1
     have Q2 := Lib.hid q2
     have Q3 := Lib.hid q3
     have Q4 := Lib.hid q4
     have HEe := Lib.hid hE
     have HTe := Lib.hid hT
     clear q1 q2 q3 q4 hE hT
     go_wp2_with fail
     refine CN.out.mono ?_
     rintro e w3 ⟨tk, rfl, htk, hb3⟩
     rw [HEe.out] at htk ⊢
     rw [HTe.out] at htk
     have HTK := Lib.hid htk
     clear htk
     obtain ⟨tk1, tk2, tk3, tk4, tk5⟩ := tk
     have hb4 : Hid (Below w2.heap.size w2 (w3.alloc (.cells (tc ⟨tk1, tk2, tk3, tk4, tk5⟩).toArray 114))) := hb3.alloc hb3.size _
     have HS4 := Lib.hid (HS2.out.below hb4.out)
     have HF4' := Lib.hid (HF2.out.below hb4.out)
     have g4 := HS4.out.cell1
     have ⟨r0, r1⟩ := HF4'.out.cells
     have fr := HF4'.out.frozen
     simp only [tokV]
     by_cases hE61 : E = 61
     ·subst hE61
      have HR := Lib.hid (HN.out.trans (Q1.out rfl))
      go_wp2
      refine wp_world (fun W => FW w W 0 0 ∧ Scn W (w.heap.size + 1) (.slice pv l.length cap) p1) (by exact ⟨HF4'.out, HS4.out⟩) (fun W5 H5 => ?_)
      have HF5 := Lib.hid H5.1
      have HS5 := Lib.hid H5.2
      clear g4 r0 r1 fr H5
      have g5 := HS5.out.cell1
      have ⟨r0, r1⟩ := HF5.out.cells
      have fr := HF5.out.frozen
      go_region_held3 (fun w' => w'.cell? ⟨w.heap.size + 1, 1, none⟩ = some (.int .i64 (p1 : Nat))) (first | exact (HS5.out.drew_).cell1 | exact (HS5.out.two (by omega) _ _).cell1) (fail)
      refine k_world (fun W => FW w W p1 61) (by exact (HF5.out.fill p1 61 rfl rfl).drew_) (fun W4 HF4 => ?_)
      have ⟨r0, r1⟩ := HF4.cells
      go_wp2
      refine bodyPost_ret (resF HF4.2 rfl _ rfl) rfl ?_
      rw [← HPP.out]
      exact scan_bad HR.out HF4.1
     ·have hE61' : ((E : Int) != 61) = true := by rw [bne_iff_ne]; omega
      by_cases hfull : ts.length = 16384
      ·have HR := Lib.hid (HN.out.trans (Q2.out hE61 hfull))
       have hfull' : ((ts.length : Int) == 16384) = true := beq_iff_eq.2 (by omega)
       clear hfull
       go_wp2
       refine wp_world (fun W => FW w W 0 0 ∧ Scn W (w.heap.size + 1) (.slice pv l.length cap) p1) (by exact ⟨HF4'.out, HS4.out⟩) (fun W5 H5 => ?_)
       have HF5 := Lib.hid H5.1
       have HS5 := Lib.hid H5.2
       clear g4 r0 r1 fr H5
       have g5 := HS5.out.cell1
       have ⟨r0, r1⟩ := HF5.out.cells
       have fr := HF5.out.frozen
       go_region_held3 (fun w' => w'.cell? ⟨w.heap.size + 1, 1, none⟩ = some (.int .i64 (p1 : Nat))) (first | exact (HS5.out.drew_).cell1 | exact (HS5.out.two (by omega) _ _).cell1) (fail)
       refine k_world (fun W => FW w W p1 66) (by exact (HF5.out.fill p1 66 rfl rfl).drew_) (fun W4 HF4 => ?_)
       have ⟨r0, r1⟩ := HF4.cells
       go_wp2
       refine bodyPost_ret (resF HF4.2 rfl _ rfl) rfl ?_
       rw [← HPP.out]
       exact scan_bad HR.out HF4.1
      ·have hfull' : ((ts.length : Int) == 16384) = false := beq_eq_false_iff_ne.2 (by omega)
       by_cases hE0 : E = 0
       ·subst hE0
        obtain ⟨hst, HA3⟩ := Q4.out rfl hfull
        have htke := HTK.out rfl
        subst htke
        have HA3h := Lib.hid HA3
        have hsl := HA3.1
        have hstk : p1 < tk3 := hst
        have hslk : tk3 ≤ l.length := hsl
        have htl : ts.length ≤ 16384 := HA2.out.2.1
        have HO3 : Hid (w3.ownsRow (w.heap.size + 2) 114 5 (.slice pA ts.length cA) ts.length (tcs ts)) := ownsBelow HO2.out hb3
        have hsz3 := hb3.size
        have ⟨c0, c1, c2, c3, c4⟩ := tok_cells w3 ⟨tk1, tk2, tk3, tk4, tk5⟩
        have hlt3 := HO3.out.lt
        have HLT := Lib.hid hlt3
        clear HA3 hst hsl hlt3 hfull
        go_wp2_with (at_builtin; refine wpList_append_own _ rfl _ _ 52 rfl (w.heap.size + 2) 114 i0 _ 5 48 Tryz.underlying52 hi hz0 hz1 hz2 rfl (by decide) _ _ _ rfl ((HO3.out.alloc _).alloc _) ⟨w3.heap.size + 1, 0, none⟩ 1 1 (tc ⟨tk1, tk2, tk3, tk4, tk5⟩) rfl rfl (news_tok (by simp) (tc ⟨tk1, tk2, tk3, tk4, tk5⟩) _) (tc_one _) (by unfold maxLen; omega) (by omega) (by simp; omega) ?_; intro v' w5 hown' hgrow hnil; have HS5 : Hid (Scn w5 (w.heap.size + 1) (.slice pv l.length cap) p1) := (far_block hgrow HS4.out.lt (fun e => by have := HLT.out _ e; omega)).trans HS4.out; have HF5 : Hid (FW w w5 0 0) := FW.grown HF4'.out hgrow (fun e => by have := HLT.out _ e; omega) (fun k hk e => by have := HLT.out _ e; omega); have c5 : w5.cell? ⟨w3.heap.size, 2, none⟩ = some (.int .i64 (tk3 : Nat)) := (World.cell?_of_block (a := ⟨w3.heap.size, 2, none⟩) (far_block (k := w3.heap.size) hgrow (by simp) (fun e => by have := HLT.out _ e; omega))).trans c2; have g5 := HS5.out.cell1; have f5 := HS5.out.frozen 1; have HOW : Hid (w5.ownsRow (w.heap.size + 2) 114 5 v' (ts ++ [(⟨tk1, tk2, tk3, tk4, tk5⟩ : Tok)]).length (tcs (ts ++ [⟨tk1, tk2, tk3, tk4, tk5⟩]))) := (by rw [tcs_snoc, List.length_append]; exact hown'); have hs5 : w.heap.size + 2 ≤ w5.heap.size := Nat.le_trans (by simp; omega) hgrow.size; clear hown' hgrow hnil c0 c1 c2 c3 c4)
        have HS6 := HS5.out.set tk3 rfl
        refine ⟨⟨ts ++ [(⟨tk1, tk2, tk3, tk4, tk5⟩ : Tok)], tk3, HF5.out.far (p := ⟨w.heap.size + 1, 1, none⟩) (by simp) _, HS6, HA3h, ownsRow_setCell_below HOW.out (a := ⟨w.heap.size + 1, 1, none⟩) (by simp) _, by simpa [World.setCell] using hs5⟩, ?_⟩
        rw [HM.out, scnAt_of HS6]
        omega
       ·have HR := Lib.hid (HN.out.trans (Q3.out hE61 hfull hE0))
        have hE0' : ((E : Int) != 0) = true := by rw [bne_iff_ne]; omega
        clear hfull
        go_wp2
        refine wp_world (fun W => FW w W 0 0 ∧ Scn W (w.heap.size + 1) (.slice pv l.length cap) p1) (by exact ⟨HF4'.out, HS4.out⟩) (fun W5 H5 => ?_)
        have HF5 := Lib.hid H5.1
        have HS5 := Lib.hid H5.2
        clear g4 r0 r1 fr H5
        have g5 := HS5.out.cell1
        have ⟨r0, r1⟩ := HF5.out.cells
        have fr := HF5.out.frozen
        go_region_held3 (fun w' => w'.cell? ⟨w.heap.size + 1, 1, none⟩ = some (.int .i64 (p1 : Nat))) (first | exact (HS5.out.drew_).cell1 | exact (HS5.out.two (by omega) _ _).cell1) (fail)
        refine k_world (fun W => FW w W p1 E) (by exact (HF5.out.fill p1 E rfl rfl).drew_) (fun W4 HF4 => ?_)
        have ⟨r0, r1⟩ := HF4.cells
        go_wp2
        refine bodyPost_ret (resF HF4.2 rfl _ rfl) rfl ?_
        rw [← HPP.out]
        exact scan_bad HR.out HF4.1
end Go.Proofs.YtbdllefnghddcaaGreatDoor
