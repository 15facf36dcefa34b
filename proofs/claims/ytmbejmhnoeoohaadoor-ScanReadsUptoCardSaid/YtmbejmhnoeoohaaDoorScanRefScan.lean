/- THE REFERENCE's Scan. -/
import Derived.Test.YtmbejmhnoeoohaaDoorScanRefOneC
import Derived.Test.YtmbejmhnoeoohaaDoorScanScanB
namespace Go.Proofs.YtmbejmhnoeoohaaDoor
open Go Go.RowKit

def RScanPost (w : World) (r : Got) (e : Ending) (w' : World) : Prop := Below w.heap.size w w' ∧ match r with
  | .toks ts => ∃ v, e = .returned (.tuple #[v, .int .i64 0, .int .i64 0]) ∧ Tks w' v ts
  | .bad p k => e = .returned (.tuple #[.slice none 0 0, .int .i64 (p : Nat), .int .i64 (k : Nat)])
theorem rscan_bad {w w' : World} {r : Got} {p k : Nat} (hr : r = .bad p k) (hb : Below w.heap.size w w') : RScanPost w r (.returned (.tuple #[.slice none 0 0, .int .i64 (p : Nat), .int .i64 (k : Nat)])) w' := by subst hr; exact ⟨hb, rfl⟩
theorem rscan_toks {w w' : World} {r : Got} {ts : List Tok} {v : Value} (hr : r = .toks ts) (hb : Below w.heap.size w w') (hv : Tks w' v ts) : RScanPost w r (.returned (.tuple #[v, .int .i64 0, .int .i64 0])) w' := by subst hr; exact ⟨hb, v, rfl, hv⟩

theorem resS (W : World) (tmps : Array Value) : (results Tryd.f10 tmps).run Tryd.prog W = .ok (.tuple #[tmps.getD 2 undef, tmps.getD 3 undef, tmps.getD 4 undef]) W := by
  simp [results, Tryd.results10]

set_option maxRecDepth 100000 in
set_option maxHeartbeats 16000000 in
theorem refScan_any (v : Value) (l : List UInt8) (w : World) (hV : Bs w v l) (hl : l.length ≤ 1048577) :
    Calls Tryd.prog 10 #[v] w (RScanPost w (scanS l)) := by
  obtain ⟨i0, hi, hz0, hz1, hz2⟩ := info_parts info_token
  have HV := Lib.hid hV
  obtain ⟨pv, cap, rfl, hcap, hm, -⟩ := id hV
  clear hV
  obtain ⟨PP, hPP⟩ : ∃ PP, RScanPost w (scanS l) = PP := ⟨_, rfl⟩
  rw [hPP]
  have HPP := Lib.hid hPP
  clear hPP
  by_cases hlong : 65536 < l.length
  · have HN : Hid (scanS l = .bad 0 60) := by show _ = _; unfold scanS; rw [if_pos hlong]
    have hlong' : (65536 : Int) < (l.length : Int) := by omega
    go_enter Tryd.func10, Tryd.ntmps10
    go_wp2
    refine bodyPost_ret (resS _ _) rfl ?_
    rw [← HPP.out]
    exact rscan_bad HN.out (Below.refl _ _)
  · have HN : Hid (scanS l = scanAt l 0 16384) := by show _ = _; unfold scanS; rw [if_neg hlong]
    have hlong' : ¬ (65536 : Int) < (l.length : Int) := by omega
    have HA0 : Hid (ScAt l 0 []) := ⟨by omega, by simp, by
      show scanAt l 0 16384 = appS [] (scanAt (l.drop 0) 0 16384)
      rw [List.drop_zero]; cases scanAt l 0 16384 <;> rfl⟩
    clear hlong
    go_enter Tryd.func10, Tryd.ntmps10
    go_wp2
    go_loopw [5, 6, 7, 8, 9] (fun v5 i _ _ _ wr => ∃ (ts : List Tok) (p : Nat), i = .int .i64 (p : Nat) ∧ Hid (Below w.heap.size w wr) ∧ Hid (ScAt l p ts) ∧ Hid (wr.ownsRow w.heap.size 33 5 v5 ts.length (tcs ts)))
      (fun _ i _ _ _ _ => l.length - (intOf i).toNat)
    case atStart => exact ⟨[], 0, rfl, Below.refl _ _, HA0, World.ownsRow_nil _ _ _ _⟩
    case round =>
      obtain ⟨ts, p, rfl, HB, HA, HO⟩ := hrel
      obtain ⟨pA, cA, rfl, -⟩ := Tks.of_own HO.out
      have hpl := HA.out.1
      by_cases hlt : p < l.length
      · have hlt' : (p : Int) < (l.length : Int) := by omega
        have CS : Hid (∀ w', Below w.heap.size w w' → Calls Tryd.prog 24 #[.slice pv l.length cap, .int .i64 (p : Nat)] w' fun e w2 => e = .returned (.int .i64 (skI p (skipN (l.drop p)))) ∧ w' = w2) := fun w' hb => refSkip_any _ l p w' (HV.out.below hb) hl hlt
        cases hsk : skipN (l.drop p) with
        | none =>
          have HR := Lib.hid (HN.out.trans (scAt_open HA.out hlt hsk))
          rw [hsk] at CS
          clear hsk
          go_wp2_with fail
          refine (CS.out _ HB.out).mono ?_
          rintro e w2 ⟨rfl, rfl⟩
          simp only [skI]
          go_wp2
          refine bodyPost_ret (resS _ _) rfl ?_
          rw [← HPP.out]
          exact rscan_bad HR.out HB.out
        | some n =>
          have hnl := skipN_le hsk
          rw [List.length_drop] at hnl
          rw [hsk] at CS
          have e1 : ((p + n : Nat) : Int) = (p : Int) + (n : Int) := by omega
          have g0 : ¬ ((p : Int) + (n : Int)) < 0 := by omega
          by_cases hn0 : 0 < n
          · have HA2 := Lib.hid (scAt_skip HA.out (p1 := p + n) (by omega) (fun r => by rw [scanAt_skip p r hsk hn0, List.drop_drop]))
            have g1 : (p : Int) < ((p : Int) + (n : Int)) := by omega
            clear hsk
            go_wp2_with fail
            refine (CS.out _ HB.out).mono ?_
            rintro e w2 ⟨rfl, rfl⟩
            simp only [skI, e1]
            go_wp2
            go_roundw
            case rel => exact ⟨ts, p + n, by go_num, HB, HA2, HO⟩
            case measure => simp [intOf]; omega
          · obtain rfl : n = 0 := by omega
            obtain ⟨q1, q2, q3, q4⟩ := scAt_tok HA.out hlt hsk
            have CN := Lib.hid (fun w' hb => refOne_any _ l p w' (HV.out.below hb) hl hlt)
            obtain ⟨E, hE⟩ : ∃ E, (oneS (l.drop p) p).1 = E := ⟨_, rfl⟩
            obtain ⟨T, hT⟩ : ∃ T, (oneS (l.drop p) p).2 = T := ⟨_, rfl⟩
            rw [hE] at q1 q2 q3 q4
            rw [hT] at q4
            have Q1 := Lib.hid q1
            have Q2 := Lib.hid q2
            have Q3 := Lib.hid q3
            have Q4 := Lib.hid q4
            have HEe := Lib.hid hE
            have HTe := Lib.hid hT
            clear q1 q2 q3 q4 hE hT hsk e1 g0 hn0 hnl
            go_wp2_with fail
            refine (CS.out _ HB.out).mono ?_
            rintro e w2 ⟨rfl, rfl⟩
            simp only [skI, Nat.add_zero]
            go_wp2_with fail
            refine (CN.out _ HB.out).mono ?_
            rintro e w3 ⟨tk, rfl, htk, hb3⟩
            rw [HEe.out] at htk ⊢
            rw [HTe.out] at htk
            have HTK := Lib.hid htk
            clear htk
            obtain ⟨tk1, tk2, tk3, tk4, tk5⟩ := tk
            have HB3 := Lib.hid (HB.out.trans (hb3.mono HB.out.size))
            have HB4 : Hid (Below w.heap.size w (w3.alloc (.cells (tc ⟨tk1, tk2, tk3, tk4, tk5⟩).toArray 33))) := HB3.out.alloc HB3.out.size _
            simp only [tokV]
            by_cases hE61 : E = 61
            · subst hE61
              have HR := Lib.hid (HN.out.trans (Q1.out rfl))
              go_wp2
              refine bodyPost_ret (resS _ _) rfl ?_
              rw [← HPP.out]
              exact rscan_bad HR.out HB4.out
            · have hE61' : ((E : Int) == 61) = false := beq_eq_false_iff_ne.2 (by omega)
              by_cases hfull : ts.length = 16384
              · have HR := Lib.hid (HN.out.trans (Q2.out hE61 hfull))
                have hfull' : ((ts.length : Int) == 16384) = true := beq_iff_eq.2 (by omega)
                clear hfull
                go_wp2
                refine bodyPost_ret (resS _ _) rfl ?_
                rw [← HPP.out]
                exact rscan_bad HR.out HB4.out
              · have hfull' : ((ts.length : Int) == 16384) = false := beq_eq_false_iff_ne.2 (by omega)
                by_cases hE0 : E = 0
                · subst hE0
                  obtain ⟨hst, HA3⟩ := Q4.out rfl hfull
                  have htke := HTK.out rfl
                  subst htke
                  have HA3h := Lib.hid HA3
                  have hsl := HA3.1
                  have hstk : p < tk3 := hst
                  have hslk : tk3 ≤ l.length := hsl
                  have htl : ts.length ≤ 16384 := HA.out.2.1
                  have HO3 : Hid (w3.ownsRow w.heap.size 33 5 (.slice pA ts.length cA) ts.length (tcs ts)) := ownsBelow HO.out hb3
                  have hsz3 := HB3.out.size
                  have ⟨c0, c1, c2, c3, c4⟩ := tok_cells w3 ⟨tk1, tk2, tk3, tk4, tk5⟩
                  have hlt3 := HO3.out.lt
                  have HLT := Lib.hid hlt3
                  clear HA3 hst hsl hlt3 hfull hb3
                  go_wp2_with (at_builtin; refine wpList_append_own _ rfl _ _ 23 rfl w.heap.size 33 i0 _ 5 48 Tryd.underlying23 hi hz0 hz1 hz2 rfl (by decide) _ _ _ rfl ((HO3.out.alloc _).alloc _) ⟨w3.heap.size + 1, 0, none⟩ 1 1 (tc ⟨tk1, tk2, tk3, tk4, tk5⟩) rfl rfl (news_tok (by simp) (tc ⟨tk1, tk2, tk3, tk4, tk5⟩) _) (tc_one _) (by unfold maxLen; omega) (by omega) (by simp; omega) ?_; intro v' w5 hown' hgrow hnil; have c5 : w5.cell? ⟨w3.heap.size, 2, none⟩ = some (.int .i64 (tk3 : Nat)) := (World.cell?_of_block (a := ⟨w3.heap.size, 2, none⟩) (far_block (k := w3.heap.size) hgrow (by simp) (fun e => by have := HLT.out _ e; omega))).trans c2; have HB5 : Hid (Below w.heap.size w w5) := (HB3.out.alloc HB3.out.size _).trans (((Below.refl w.heap.size (w3.alloc (.cells (tc ⟨tk1, tk2, tk3, tk4, tk5⟩).toArray 33))).alloc (by simp; omega) _).grown hgrow (by simp; omega) (fun j hj => (HLT.out j hj).1)); have HOW : Hid (w5.ownsRow w.heap.size 33 5 v' (ts ++ [(⟨tk1, tk2, tk3, tk4, tk5⟩ : Tok)]).length (tcs (ts ++ [⟨tk1, tk2, tk3, tk4, tk5⟩]))) := (by rw [tcs_snoc, List.length_append]; exact hown'); clear hown' hgrow hnil c0 c1 c2 c3 c4)
                  go_roundw
                  case rel => exact ⟨ts ++ [(⟨tk1, tk2, tk3, tk4, tk5⟩ : Tok)], tk3, rfl, HB5, HA3h, HOW⟩
                  case measure => simp [intOf]; omega
                · have HR := Lib.hid (HN.out.trans (Q3.out hE61 hfull hE0))
                  have hE0' : ((E : Int) != 0) = true := by rw [bne_iff_ne]; omega
                  clear hfull
                  go_wp2
                  refine bodyPost_ret (resS _ _) rfl ?_
                  rw [← HPP.out]
                  exact rscan_bad HR.out HB4.out
      · have hge : ¬ (p : Int) < (l.length : Int) := by omega
        have HR := Lib.hid (HN.out.trans (scAt_end HA.out (by omega)))
        go_wp2
        refine bodyPost_ret (resS _ _) rfl ?_
        rw [← HPP.out]
        exact rscan_toks HR.out HB.out (Tks.of_own HO.out)
end Go.Proofs.YtmbejmhnoeoohaaDoor
