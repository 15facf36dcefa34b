/- THE PROGRAM's quoted. -/
import Derived.Test.YtbdllefnghddcaaGreatDoorPScan1
import Derived.Test.YtbdllefnghddcaaGreatDoorScanQuote
import Derived.ScopeJumps
namespace Go.Proofs.YtbdllefnghddcaaGreatDoor
open Go Go.RowKit

def qV : Option (List UInt8 × Nat) → Value
 | none => .tuple #[.string ⟨#[]⟩, .int .i64 0]
 | some x => .tuple #[.string (ba x.1), .int .i64 (x.2 + 1 : Nat)]
def QPost (w : World) (r : Option (List UInt8 × Nat)) (e : Ending) (w' : World) : Prop := e = .returned (qV r) ∧ Below w.heap.size w w'
theorem q_none {w w1 : World} {r : Option (List UInt8 × Nat)} (hr : r = none) (hb : Below w.heap.size w w1) : QPost w r (.returned (.tuple #[.string ⟨#[]⟩, .int .i64 0])) w1 := by subst hr; exact ⟨rfl, hb⟩
theorem q_some {w w1 : World} {r : Option (List UInt8 × Nat)} {D : List UInt8} {k : Nat} (hr : r = some (D, k)) (hb : Below w.heap.size w w1) : QPost w r (.returned (.tuple #[.string (ba D), .int .i64 ((k : Int) + 1)])) w1 := by subst hr; exact ⟨rfl, hb⟩

theorem Exit.jump_ret {l : Nat} {J : Act → World → Prop} {Q : Exit → Act → World → Prop} {a : Act} {w : World} : Exit.jump l J Q .ret a w = Q .ret a w := rfl
def NoJ (w0 : World) (B : Prop) (n : Nat) (a : Act) (w : World) : Prop := a.defers = [] ∧ a.tmps.size = n ∧ Below w0.heap.size w0 w ∧ B

set_option maxRecDepth 100000 in
set_option maxHeartbeats 8000000 in
theorem quoted_any (c0 : UInt8) (B : List UInt8) (v : Value) (w : World) (hV : Bs w v (c0 :: B)) (hl : (c0 :: B).length ≤ 8388608) :
  Calls Tryz.prog 117 #[v] w (QPost w (qS B)) := by
 obtain ⟨i0, hi, hz0, hz1, hz2⟩ := info_parts info_byte
 obtain ⟨b, o, cap, rfl, hbl⟩ := hV.form (by simp)
 have Q0 : Hid (QAt B (c0 :: B) 1 []) := qat_start c0 B
 have hpos : 1 ≤ (c0 :: B).length := by simp
 generalize hL : c0 :: B = l at *
 have HL := Lib.hid hL
 clear hL
 generalize hR : qS B = R at *
 have HR := Lib.hid hR
 clear hR
 have HV := Lib.hid (fun (j : Nat) (x : UInt8) (hj : l[j]? = some x) => hV.cell hj)
 clear hV
 generalize hPP : QPost w R = PP at *
 have HPP := Lib.hid hPP
 clear hPP
 obtain ⟨Bn, hBn⟩ : ∃ Bn : Prop, Bn = (R = none) := ⟨_, rfl⟩
 have HB := Lib.hid hBn
 clear hBn
 have hnoJ : Hid (∀ (a : Act) (wx : World), a.defers = [] → a.tmps.size = 103 → Below w.heap.size w wx → R = none → NoJ w Bn 103 a wx) := fun a wx h1 h2 h3 h4 => ⟨h1, h2, h3, by rw [HB.out]; exact h4⟩
 have HRN : Hid (∀ {x : Option (List UInt8 × Nat)}, qS B = x → R = x) := fun h => HR.out.symm.trans h
 go_enter Tryz.func117, Tryz.ntmps117
 go_wp2
 refine wp_scope_jumps 0 (NoJ w Bn 103) (fun _ _ => 0) rfl ?_ ?_
 ·go_wp2
  go_loopw [4, 5, 6] (fun v i _ wr => ∃ (k : Nat) (D : List UInt8), 1 ≤ k ∧ k ≤ l.length ∧ i = .int .i64 k ∧ D.length ≤ k ∧ Hid (QAt B l k D) ∧ wr.ownsRow w.heap.size 5 1 v D.length (bc D) ∧ Below w.heap.size w wr) (fun _ i _ _ => l.length - (intOf i).toNat)
  case atStart => exact ⟨1, [], by omega, hpos, rfl, by simp, Q0, World.ownsRow_nil _ _ _ _, Below.refl _ _⟩
  case round =>
   obtain ⟨k, D, hk1, hk, rfl, hDk, HQ, hown, hbw⟩ := hrel
   have hsz := hbw.size
   by_cases hlt : k < l.length
   ·obtain ⟨c, hc⟩ : ∃ c, l[k]? = some c := ⟨_, List.getElem?_eq_getElem hlt⟩
    have hd := Lib.hid (drop_one hc)
    have hck : wr.cell? ⟨b, o + k, none⟩ = some (.int .u8 (c.toNat : Nat)) := (hbw.cell (p := ⟨b, o + k, none⟩) hbl).trans (HV.out k c hc)
    have hcr := c.toNat_lt
    by_cases h34 : c = 34
    ·subst h34
     have HN := Lib.hid (qat_end HQ.out hd.out hk1)
     have hcv := own_text hown
     clear hc hd
     go_wp2
     rw [← HPP.out]
     exact q_some (HRN.out HN.out) hbw
    ·have e1 : ((c.toNat : Int) == 34) = false := beq_eq_false_iff_ne.2 (fun h => h34 (UInt8.toNat_inj.1 (show c.toNat = 34 by omega)))
     by_cases hbad : c.toNat < 32 ∨ 126 < c.toNat
     ·have HN := Lib.hid (qat_none HQ.out (by rw [hd.out]; exact qS_bad _ h34 hbad))
      have hbad' : (c.toNat : Int) < 32 ∨ 126 < (c.toNat : Int) := by omega
      clear hc hd
      go_wp2
      all_goals
       go_step3
       exact ⟨rfl, hnoJ.out _ _ rfl rfl hbw (HRN.out HN.out)⟩
     ·have e3 : ¬ (c.toNat : Int) < 32 := by omega
      have e4 : ¬ (126 : Int) < (c.toNat : Int) := by omega
      by_cases h92 : c = 92
      ·subst h92
       clear e1 e3 e4 hbad hcr h34
       by_cases hlt2 : k + 1 < l.length
       ·have hlt2' : ((k : Int) + 1) < (l.length : Int) := by omega
        obtain ⟨d, hdd⟩ : ∃ d, l[k + 1]? = some d := ⟨_, List.getElem?_eq_getElem hlt2⟩
        have hd2 := Lib.hid (drop_one hdd)
        have hck2 : wr.cell? ⟨b, o + (k + 1), none⟩ = some (.int .u8 (d.toNat : Nat)) := (hbw.cell (p := ⟨b, o + (k + 1), none⟩) hbl).trans (HV.out _ d hdd)
        have hdr := d.toNat_lt
        by_cases hq : d = 34 ∨ d = 92
        ·have HN : Hid (QAt B l (k + 2) (D ++ [d])) := qat_step HQ.out hk1 (by rw [hd.out, hd2.out]; exact qS_esc _ hq)
         clear hc hd hd2 hdd hdr
         rcases hq with rfl | rfl
         ·go_wp2_with (at_builtin; refine wpList_append_own _ rfl _ _ 22 rfl w.heap.size 5 i0 (.int .u8 0) 1 1 Tryz.underlying22 hi hz0 hz1 hz2 rfl (by decide) _ _ _ rfl (hown.alloc _) ⟨wr.heap.size, 0, none⟩ 1 1 (bc [34]) rfl rfl (news_cells _ (bc [34]) _) (bc_one _) (by unfold maxLen; omega) (by omega) (by simp; omega) ?_; intro v' w1 hown' hgrow hnil)
          obtain ⟨hown2, hb2⟩ := own_grow hown hsz hown' hgrow
          clear hown' hgrow hown hnil
          go_wp2
          go_roundw
          case rel => exact ⟨k + 2, D ++ [34], by omega, by omega, by go_num, by simp; omega, HN, hown2, hbw.trans (hb2.mono (Nat.le_refl _))⟩
          case measure => simp [intOf]; omega
         ·go_wp2_with (at_builtin; refine wpList_append_own _ rfl _ _ 22 rfl w.heap.size 5 i0 (.int .u8 0) 1 1 Tryz.underlying22 hi hz0 hz1 hz2 rfl (by decide) _ _ _ rfl (hown.alloc _) ⟨wr.heap.size, 0, none⟩ 1 1 (bc [92]) rfl rfl (news_cells _ (bc [92]) _) (bc_one _) (by unfold maxLen; omega) (by omega) (by simp; omega) ?_; intro v' w1 hown' hgrow hnil)
          obtain ⟨hown2, hb2⟩ := own_grow hown hsz hown' hgrow
          clear hown' hgrow hown hnil
          go_wp2
          go_roundw
          case rel => exact ⟨k + 2, D ++ [92], by omega, by omega, by go_num, by simp; omega, HN, hown2, hbw.trans (hb2.mono (Nat.le_refl _))⟩
          case measure => simp [intOf]; omega
        ·have f1 : ((d.toNat : Int) == 34) = false := beq_eq_false_iff_ne.2 (fun h => hq (.inl (UInt8.toNat_inj.1 (show d.toNat = 34 by omega))))
         have f2 : ((d.toNat : Int) == 92) = false := beq_eq_false_iff_ne.2 (fun h => hq (.inr (UInt8.toNat_inj.1 (show d.toNat = 92 by omega))))
         by_cases hx : d = 120
         ·subst hx
          clear f1 f2 hdr hq
          by_cases hlt3 : k + 3 < l.length
          ·have hlt3' : ((k : Int) + 1 + 2) < (l.length : Int) := by omega
           obtain ⟨g, hg⟩ : ∃ d, l[k + 2]? = some d := ⟨_, List.getElem?_eq_getElem (by omega)⟩
           obtain ⟨h, hh⟩ : ∃ d, l[k + 3]? = some d := ⟨_, List.getElem?_eq_getElem hlt3⟩
           have hd3 := Lib.hid (drop_one hg)
           have hd4 := Lib.hid (drop_one hh)
           have hck3 : wr.cell? ⟨b, o + (k + 2), none⟩ = some (.int .u8 (g.toNat : Nat)) := (hbw.cell (p := ⟨b, o + (k + 2), none⟩) hbl).trans (HV.out _ g hg)
           have hck4 : wr.cell? ⟨b, o + (k + 3), none⟩ = some (.int .u8 (h.toNat : Nat)) := (hbw.cell (p := ⟨b, o + (k + 3), none⟩) hbl).trans (HV.out _ h hh)
           have rg := hex_range g.toNat
           have rh := hex_range h.toNat
           by_cases h1 : 0 ≤ hexS g.toNat
           ·obtain ⟨p, hp⟩ : ∃ p : Nat, hexS g.toNat = (p : Nat) := ⟨(hexS g.toNat).toNat, by omega⟩
            have CG : Hid (∀ w, Calls Tryz.prog 154 #[.int .u8 (g.toNat : Nat)] w fun e w' => e = .returned (.int .i64 (p : Nat)) ∧ w = w') := fun w => by
             have := hex_any g w; rwa [hp] at this
            have hp15 : p ≤ 15 := by omega
            by_cases h2 : 0 ≤ hexS h.toNat
            ·obtain ⟨q, hq⟩ : ∃ q : Nat, hexS h.toNat = (q : Nat) := ⟨(hexS h.toNat).toNat, by omega⟩
             have CH : Hid (∀ w, Calls Tryz.prog 154 #[.int .u8 (h.toNat : Nat)] w fun e w' => e = .returned (.int .i64 (q : Nat)) ∧ w = w') := fun w => by
              have := hex_any h w; rwa [hq] at this
             have hq15 : q ≤ 15 := by omega
             have HN : Hid (QAt B l (k + 4) (D ++ [UInt8.ofNat (16 * p + q)])) := qat_step HQ.out hk1 (by rw [hd.out, hd2.out, hd3.out, hd4.out]; exact qS_hex _ hp hq)
             have hE : Hid ((UInt8.ofNat (16 * p + q)).toNat = 16 * p + q) := by
              show _ = _; rw [UInt8.toNat_ofNat']; omega
             generalize UInt8.ofNat (16 * p + q) = E at *
             clear hc hd hd2 hdd hg hh hd3 hd4 hp hq rg rh h1 h2
             have w1' : IntKind.i64.wrap ((k : Int) + 1) = (k : Int) + 1 := IntWalk.i64_in _ (by omega)
             have w2' : IntKind.i64.wrap ((k : Int) + 1 + 1) = (k : Int) + 2 := by rw [IntWalk.i64_in _ (by omega)]; omega
             have w3' : IntKind.i64.wrap ((k : Int) + 1 + 2) = (k : Int) + 3 := by rw [IntWalk.i64_in _ (by omega)]; omega
             have w4' : IntKind.i64.wrap (16 * (p : Int)) = 16 * (p : Int) := IntWalk.i64_in _ (by omega)
             have w5' : IntKind.i64.wrap (16 * (p : Int) + (q : Int)) = 16 * (p : Int) + (q : Int) := IntWalk.i64_in _ (by omega)
             have w6' : IntKind.u8.wrap (16 * (p : Int) + (q : Int)) = (E.toNat : Int) := by rw [IntKind.wrap_u8, hE.out]; omega
             have n2' : ((k : Int) + 2).toNat = k + 2 := by omega
             have n3' : ((k : Int) + 3).toNat = k + 3 := by omega
             go_wp2_with fail
             refine (CG.out _).mono ?_
             rintro e w2 ⟨rfl, rfl⟩
             go_wp2_with fail
             refine (CH.out _).mono ?_
             rintro e w2 ⟨rfl, rfl⟩
             go_wp2
             go_region_held3 (fun w' => w'.cell? ⟨b, o + (k + 2), none⟩ = some (.int .u8 (g.toNat : Nat)) ∧ w'.cell? ⟨b, o + (k + 3), none⟩ = some (.int .u8 (h.toNat : Nat))) (first | exact ⟨own_far hgrow hown hbl hsz hck3, own_far hgrow hown hbl hsz hck4⟩ | go_keep) (first
              | (go_at_call 154; (with_reducible refine (CG.out _).mono ?_); rintro e w2 ⟨rfl, rfl⟩)
              | (go_at_call 154; (with_reducible refine (CH.out _).mono ?_); rintro e w2 ⟨rfl, rfl⟩)
              | ((refine step_append_lies _ (by rfl) _ _ _ (by rfl) w.heap.size 5 i0 (.int .u8 0) 1 1 Tryz.underlying22 hi hz0 hz1 hz2 rfl (by decide) u4 D.length (bc D) (by rfl) (by exact hown.alloc _) ⟨wr.heap.size, 0, none⟩ 1 1 (bc [E]) (by rfl) rfl (by exact news_cells _ (bc [E]) _) (bc_one _) (by decide) (by unfold maxLen; omega) (by omega) (by simp; omega) (wr.heap.size + 1) (by simp) ?_); intro g2 cap2 w1 hown' hgrow hat hlt2))
             all_goals
              obtain ⟨hown2, hb2⟩ := own_grow_d hown hsz hown' hgrow
              have hown3 : w1.ownsRow w.heap.size 5 1 (.slice (some ⟨g2, 0, none⟩) (D.length + 1) cap2) (D ++ [E]).length (bc (D ++ [E])) := hown2
              clear hown' hgrow hown hown2 hat w1' w2' w3' w4' w5' w6' n2' n3'
              go_wp2
              go_roundw
              case rel => exact ⟨k + 4, D ++ [E], by omega, by omega, by go_num, by simp; omega, HN, hown3, hbw.trans (hb2.mono (Nat.le_refl _))⟩
              case measure => simp [intOf]; omega
            ·have HN := Lib.hid (qat_none HQ.out (by rw [hd.out, hd2.out, hd3.out, hd4.out]; exact qS_hex_no _ (fun hc => h2 hc.2)))
             have CH : Hid (∀ w, Calls Tryz.prog 154 #[.int .u8 (h.toNat : Nat)] w fun e w' => e = .returned (.int .i64 (-1)) ∧ w = w') := fun w => by
              have := hex_any h w; rwa [show hexS h.toNat = -1 by omega] at this
             clear hc hd hd2 hdd hg hh hd3 hd4 hp rg rh h1 h2
             go_wp2_with fail
             refine (CG.out _).mono ?_
             rintro e w2 ⟨rfl, rfl⟩
             go_wp2_with fail
             refine (CH.out _).mono ?_
             rintro e w2 ⟨rfl, rfl⟩
             go_wp2
             go_step3
             exact ⟨rfl, hnoJ.out _ _ rfl rfl hbw (HRN.out HN.out)⟩
           ·have HN := Lib.hid (qat_none HQ.out (by rw [hd.out, hd2.out, hd3.out, hd4.out]; exact qS_hex_no _ (fun hc => h1 hc.1)))
            have CG : Hid (∀ w, Calls Tryz.prog 154 #[.int .u8 (g.toNat : Nat)] w fun e w' => e = .returned (.int .i64 (-1)) ∧ w = w') := fun w => by
             have := hex_any g w; rwa [show hexS g.toNat = -1 by omega] at this
            clear hc hd hd2 hdd hg hh hd3 hd4 rg rh h1
            go_wp2_with fail
            refine (CG.out _).mono ?_
            rintro e w2 ⟨rfl, rfl⟩
            go_wp2
            go_step3
            exact ⟨rfl, hnoJ.out _ _ rfl rfl hbw (HRN.out HN.out)⟩
          ·have HN := Lib.hid (qat_none HQ.out (by rw [hd.out, hd2.out]; exact qS_hex_short (by rw [List.length_drop]; omega)))
           have hlt3' : (l.length : Int) ≤ ((k : Int) + 1 + 2) := by omega
           clear hc hd hd2 hdd
           go_wp2
           go_step3
           exact ⟨rfl, hnoJ.out _ _ rfl rfl hbw (HRN.out HN.out)⟩
         ·have f3 : ((d.toNat : Int) == 120) = false := beq_eq_false_iff_ne.2 (fun h => hx (UInt8.toNat_inj.1 (show d.toNat = 120 by omega)))
          have HN := Lib.hid (qat_none HQ.out (by rw [hd.out, hd2.out]; exact qS_esc_bad _ hq hx))
          clear hc hd hd2 hdd
          go_wp2
          go_step3
          exact ⟨rfl, hnoJ.out _ _ rfl rfl hbw (HRN.out HN.out)⟩
       ·have hlt2' : (l.length : Int) ≤ ((k : Int) + 1) := by omega
        have HN := Lib.hid (qat_none HQ.out (by rw [hd.out, List.drop_of_length_le (by omega)]; exact qS_esc_end))
        clear hc hd
        go_wp2
        go_step3
        exact ⟨rfl, hnoJ.out _ _ rfl rfl hbw (HRN.out HN.out)⟩
      ·have e2 : ((c.toNat : Int) != 92) = true := by rw [bne_iff_ne]; exact fun h => h92 (UInt8.toNat_inj.1 (show c.toNat = 92 by omega))
       have HN : Hid (QAt B l (k + 1) (D ++ [c])) := qat_step HQ.out hk1 (by rw [hd.out]; exact qS_plain _ h34 hbad h92)
       clear hc hd hbad
       go_wp2_with (at_builtin; refine wpList_append_own _ rfl _ _ 22 rfl w.heap.size 5 i0 (.int .u8 0) 1 1 Tryz.underlying22 hi hz0 hz1 hz2 rfl (by decide) _ _ _ rfl (hown.alloc _) ⟨wr.heap.size, 0, none⟩ 1 1 (bc [c]) rfl rfl (news_cells _ (bc [c]) _) (bc_one _) (by unfold maxLen; omega) (by omega) (by simp; omega) ?_; intro v' w1 hown' hgrow hnil)
       obtain ⟨hown2, hb2⟩ := own_grow hown hsz hown' hgrow
       clear hown' hgrow hown hnil
       go_wp2
       go_roundw
       case rel => exact ⟨k + 1, D ++ [c], by omega, by omega, by go_num, by simp; omega, HN, hown2, hbw.trans (hb2.mono (Nat.le_refl _))⟩
       case measure => simp [intOf]; omega
   ·obtain rfl : k = l.length := by omega
    have HN := Lib.hid (qat_none HQ.out (by rw [List.drop_length]; exact qS_nil))
    go_wp2
    refine wp_label ?_
    go_wp2
    rw [← HPP.out]
    exact q_none (HRN.out HN.out) hbw
 ·rintro a w1 ⟨hd1, hs1, hb1, hB1⟩
  refine wp_seq ?_
  refine wp_skip ?_
  refine wp_seq ?_
  refine wp_region_lit ?_
  refine wpList_plain rfl ?_
  intro K hK
  refine BigFrame.wp_assign _ rfl ?_
  apply hK
  refine wpList_plain rfl ?_
  intro K hK
  refine BigFrame.wp_assign _ rfl ?_
  apply hK
  apply wpList_nil
  refine wp_ret ?_
  rw [Exit.jump_ret]
  refine bodyPost_ret (fn := Tryz.f117) (results_tmp2 rfl _ _ _) hd1 ?_
  have hB2 : R = none := by rw [← HB.out]; exact hB1
  rw [← HPP.out]
  have hq := q_none hB2 hb1
  simpa [Act.put, Act.eval, hs1] using hq
end Go.Proofs.YtbdllefnghddcaaGreatDoor
