/- PARSE: a handler. -/
import Derived.Test.YtbdllefnghddcaaGreatDoorParseWrap
import Derived.Test.YtbdllefnghddcaaGreatDoorPPl
import Derived.Test.YtbdllefnghddcaaGreatDoorPMem
namespace Go.Proofs.YtbdllefnghddcaaGreatDoor
open List (length_append)
open Go Go.RowKit
attribute [local go_sem ↓] Go.wp_at_zero Go.wp_at_succ

set_option maxRecDepth 100000 in
set_option maxHeartbeats 16000000 in
set_option linter.unusedSimpArgs false in
theorem thandler_any {W0 W : World} {B : Nat} {T : TypeId} {S : Src} {tv nv brk : Value} {a : Nat} (hC : Cx W0 S tv nv brk) (h : At W0 W B T S tv nv a 0) (hl : a < S.ts.length) :
  Calls Tryz.prog 70 #[.pointer (some ⟨B, 0, none⟩)] W (StepPost W0 B T S tv nv brk 0 RepHa W (handlerP S a)) := by
 obtain ⟨PP, hPP⟩ : ∃ PP : Ending → World → Prop, StepPost W0 B T S tv nv brk 0 RepHa W (handlerP S a) = PP := ⟨_, rfl⟩
 rw [hPP]
 have HPP := Lib.hid hPP
 obtain ⟨X, hX⟩ : ∃ X, W.heap.size = X := ⟨_, rfl⟩
 obtain ⟨WA, hWA⟩ : ∃ WA, W.alloc (.cells #[.string ⟨#[]⟩, .string ⟨#[]⟩, .int .i64 0, .string ⟨#[]⟩, .bool false, .bool false, .int .u64 0, .slice none 0 0, .int .i64 0, .slice none 0 0, .bool false, .int .u64 0, .string ⟨#[]⟩, .int .i64 0, .slice none 0 0, .int .i64 0] 81) = WA := ⟨_, rfl⟩
 have hz := aRow_ hWA hX
 have hbA : Below W.heap.size W WA := by rw [← hWA]; exact (Below.refl _ W).alloc (Nat.le_refl _) _
 have hsA : WA.heap.size = X + 1 := by rw [← hWA, ← hX]; simp
 have hXB : B < X := by have := h.lt; omega
 have HXB := Lib.hid hXB
 have HX := Lib.hid hX
 have HWA := Lib.hid hWA
 have HZ := Lib.hid hz
 have HBA := Lib.hid hbA
 have HSA := Lib.hid hsA
 have HC := Lib.hid hC
 have HL := Lib.hid hl
 have HAA := Lib.hid (h.below hbA)
 have CP := Lib.hid (tpos_any hC (h.below hbA))
 have hfew := hC.few
 clear hPP hC h hX hWA hz hbA hsA hXB hl
 go_enter Tryz.func70, Tryz.ntmps70
 go_upto_region 1 with fail
 rw [HX.out, HWA.out]
 go_wp2_with fail
 refine CP.out.mono ?_
 rintro e1 w1 ⟨rfl, hb1⟩
 obtain ⟨D, hD⟩ : ∃ D, w1.heap.size = D := ⟨_, rfl⟩
 have hsa := HSA.out
 have hb1s := hb1.size
 obtain ⟨WD, hWD⟩ : ∃ WD, w1.alloc (.cells #[.string ⟨#[]⟩, .string ⟨#[]⟩, .int .i64 0, .string ⟨#[]⟩, .bool false, .bool false, .int .u64 0, .slice none 0 0, .int .i64 0, .slice none 0 0, .bool false, .int .u64 0, .string ⟨#[]⟩, .int .i64 0, .slice none 0 0, .int .i64 (posP S a : Nat)] 81) = WD := ⟨_, rfl⟩
 have hbD : Below w1.heap.size w1 WD := by rw [← hWD]; exact (Below.refl _ _).alloc (Nat.le_refl _) _
 have hzD := aRow_ hWD hD
 have HD0 : Hid (Dec W0 W WD B X D T 81 S tv nv #[.string ⟨#[]⟩, .string ⟨#[]⟩, .int .i64 0, .string ⟨#[]⟩, .bool false, .bool false, .int .u64 0, .slice none 0 0, .int .i64 0, .slice none 0 0, .bool false, .int .u64 0, .string ⟨#[]⟩, .int .i64 0, .slice none 0 0, .int .i64 0] #[.string ⟨#[]⟩, .string ⟨#[]⟩, .int .i64 0, .string ⟨#[]⟩, .bool false, .bool false, .int .u64 0, .slice none 0 0, .int .i64 0, .slice none 0 0, .bool false, .int .u64 0, .string ⟨#[]⟩, .int .i64 0, .slice none 0 0, .int .i64 (posP S a : Nat)] a 0) := ⟨(HAA.out.below hb1).below hbD, g_trans (g_of HBA.out) (g_trans (g_of hb1) (g_of hbD)), (hbD.block X (by omega)).trans ((hb1.block X (by omega)).trans HZ.out), hzD, HXB.out, by omega, by have := HX.out; omega⟩
 have HDD := Lib.hid hD
 have HWD := Lib.hid hWD
 clear hD hWD hbD hzD hb1 hsa hb1s CP
 go_upto_region 2 with fail
 rw [HDD.out, HWD.out]
 obtain ⟨k3, fk3, bl, hA1, hg1⟩ := HD0.out.at_.inc HL.out
 have e2 : wrap64 ((a : Int) + 1) = ((a + 1 : Nat) : Int) := by have := hfew; have := HL.out; unfold wrap64; omega
 have HD1 := Lib.hid (HD0.out.call hA1 hg1)
 clear hA1 hg1
 go_upto_region 3 with fail
 refine wp_world (fun W2 => Dec W0 W W2 B X D T 81 S tv nv #[.string ⟨#[]⟩, .string ⟨#[]⟩, .int .i64 0, .string ⟨#[]⟩, .bool false, .bool false, .int .u64 0, .slice none 0 0, .int .i64 0, .slice none 0 0, .bool false, .int .u64 0, .string ⟨#[]⟩, .int .i64 0, .slice none 0 0, .int .i64 0] #[.string ⟨#[]⟩, .string ⟨#[]⟩, .int .i64 0, .string ⟨#[]⟩, .bool false, .bool false, .int .u64 0, .slice none 0 0, .int .i64 0, .slice none 0 0, .bool false, .int .u64 0, .string ⟨#[]⟩, .int .i64 0, .slice none 0 0, .int .i64 (posP S a : Nat)] (a + 1) 0) HD1.out (fun W2 hW2 => ?_)
 have HD2 := Lib.hid hW2
 clear hW2 k3 fk3 bl e2 HD1
 have CN := Lib.hid (tname_any HC.out HD2.out.at_)
 go_wp2_with fail
 cases hn : nameP S (a + 1) with
 | bad p k =>
  have HNB := Lib.hid hn
  rw [hn] at CN
  clear hn
  refine CN.out.mono ?_
  rintro e3 w3 ⟨rfl, h1, h2⟩
  have HE : Hid (handlerP S a = .bad p k) := by show handlerP S a = _; rw [handlerP_eq]; rw [HNB.out]; rfl
  refine ⟨rfl, ?_⟩
  rw [← HPP.out, HE.out]
  exact ⟨rfl, h1, g_trans HD2.out.gr h2⟩
 | ok u3 p3 =>
  have HN3 := Lib.hid hn
  rw [hn] at CN
  clear hn
  refine CN.out.mono ?_
  rintro e3 w3 ⟨v, rfl, hv, hA3, hg3⟩
  have hv : v = .agg #[.string u3.name, .int .i64 u3.pos] := hv
  subst hv
  have HD3 := Lib.hid (HD2.out.call hA3 hg3)
  clear hA3 hg3 CN
  have hfl := field_use (.string u3.name) (.int .i64 u3.pos) w3
  have k0 := HD3.out.cell (i := 0) rfl
  have fk0 := HD3.out.free 0
  have dl := HD3.out.dlt
  go_upto_region 4 with fail
  refine wp_world (fun W4 => Dec W0 W W4 B X D T 81 S tv nv #[.string ⟨#[]⟩, .string ⟨#[]⟩, .int .i64 0, .string ⟨#[]⟩, .bool false, .bool false, .int .u64 0, .slice none 0 0, .int .i64 0, .slice none 0 0, .bool false, .int .u64 0, .string ⟨#[]⟩, .int .i64 0, .slice none 0 0, .int .i64 0] #[.string u3.name, .string ⟨#[]⟩, .int .i64 0, .string ⟨#[]⟩, .bool false, .bool false, .int .u64 0, .slice none 0 0, .int .i64 0, .slice none 0 0, .bool false, .int .u64 0, .string ⟨#[]⟩, .int .i64 0, .slice none 0 0, .int .i64 (posP S a : Nat)] p3 0) (HD3.out.set 0 _) (fun W4 hW4 => ?_)
  have HD4 := Lib.hid hW4
  clear hW4 hfl
  clear k0 fk0 dl
  have CW := Lib.hid (twant_any HC.out HD4.out.at_ 24 (by omega))
  go_wp2_with fail
  cases hw : wantP S 24 p3 with
  | bad p k =>
   have HWB := Lib.hid hw
   rw [hw] at CW
   clear hw
   refine CW.out.mono ?_
   rintro e5 w5 ⟨rfl, h1, h2⟩
   have HE : Hid (handlerP S a = .bad p k) := by show handlerP S a = _; rw [handlerP_eq]; rw [HN3.out]; show PR.bind (wantP S 24 p3) _ = _; rw [HWB.out]; rfl
   refine ⟨rfl, ?_⟩
   rw [← HPP.out, HE.out]
   exact ⟨rfl, h1, g_trans HD4.out.gr h2⟩
  | ok uu p5 =>
   have HWK5 := Lib.hid hw
   rw [hw] at CW
   clear hw
   refine CW.out.mono ?_
   rintro e5 w5 ⟨v, rfl, hv, hA5, hg5⟩
   have HD5 := Lib.hid (HD4.out.call hA5 hg5)
   clear hv hA5 hg5 CW
   obtain ⟨bo, hbo⟩ : ∃ bo, decide (kindP S p5 = 10) = bo := ⟨_, rfl⟩
   obtain ⟨p6, hp6⟩ : ∃ p6, (if kindP S p5 = 10 then p5 + 1 else p5) = p6 := ⟨_, rfl⟩
   have HT6 := Lib.hid (takeP_of S 10 p5)
   have CT := Lib.hid (ttake_any HC.out HD5.out.at_ 10 (by omega))
   rw [hbo, hp6] at CT HT6
   clear hbo hp6
   go_wp2_with fail
   refine CT.out.mono ?_
   rintro e6 w6 ⟨rfl, hA6, hg6⟩
   have HD6 := Lib.hid (HD5.out.call hA6 hg6)
   clear hA6 hg6 CT
   go_upto_if 37 with fail
   go_cut [] (fun wx => ∃ (ofu : Us) (c : CoreT) (q : Option Addr) (n k p7 : Nat), Hid (handlerP S a = handK S a u3 ofu c p7) ∧ Hid (Dec W0 W wx B X D T 81 S tv nv #[.string ⟨#[]⟩, .string ⟨#[]⟩, .int .i64 0, .string ⟨#[]⟩, .bool false, .bool false, .int .u64 0, .slice none 0 0, .int .i64 0, .slice none 0 0, .bool false, .int .u64 0, .string ⟨#[]⟩, .int .i64 0, .slice none 0 0, .int .i64 0] #[.string u3.name, .string ofu.name, .int .i64 ofu.pos, .string c.word, .bool c.has, .bool c.minus, .int .u64 c.num, .slice q n k, .int .i64 c.pos, .slice none 0 0, .bool false, .int .u64 0, .string ⟨#[]⟩, .int .i64 0, .slice none 0 0, .int .i64 (posP S a : Nat)] p7 0) ∧ Hid (UsP (fun b => D < b) wx (.slice q n k) c.caps))
   case first =>
    cases bo with
    | true =>
     have CN := Lib.hid (tname_any HC.out HD6.out.at_)
     go_wp2_with fail
     cases hn : nameP S p6 with
     | bad p k =>
      have HNB := Lib.hid hn
      rw [hn] at CN
      clear hn
      refine CN.out.mono ?_
      rintro e7 w7 ⟨rfl, h1, h2⟩
      have HE : Hid (handlerP S a = .bad p k) := by show handlerP S a = _; rw [handlerP_eq]; rw [HN3.out]; show PR.bind (wantP S 24 p3) _ = _; rw [HWK5.out]; show PR.bind (takeP S 10 p5) _ = _; rw [HT6.out]; show PR.bind (PR.bind (nameP S p6) _) _ = _; rw [HNB.out]; rfl
      refine ⟨rfl, ?_⟩
      rw [← HPP.out, HE.out]
      exact ⟨rfl, h1, g_trans HD6.out.gr h2⟩
     | ok u7 p7 =>
      have HN7 := Lib.hid hn
      rw [hn] at CN
      clear hn
      refine CN.out.mono ?_
      rintro e7 w7 ⟨v, rfl, hv, hA7, hg7⟩
      have hv : v = .agg #[.string u7.name, .int .i64 u7.pos] := hv
      subst hv
      have HD7 := Lib.hid (HD6.out.call hA7 hg7)
      clear hA7 hg7 CN
      have k1 := HD7.out.cell (i := 1) rfl
      have k2 := HD7.out.cell (i := 2) rfl
      have fk1 := HD7.out.free 1
      have fk2 := HD7.out.free 2
      have dl := HD7.out.dlt
      go_wp2_with fail
      go_meet
      exact ⟨u7, coreZ, none, 0, 0, p7, by show handlerP S a = _; rw [handlerP_eq]; rw [HN3.out]; show PR.bind (wantP S 24 p3) _ = _; rw [HWK5.out]; show PR.bind (takeP S 10 p5) _ = _; rw [HT6.out]; show PR.bind (PR.bind (nameP S p6) _) _ = _; rw [HN7.out]; rfl, (HD7.out.set 1 _).set 2 _, FlP.nil _ _ _⟩
    | false =>
     have CO := Lib.hid (tcore_any HC.out HD6.out.at_)
     go_wp2_with fail
     cases hc : coreP S p6 with
     | bad p k =>
      have HB := Lib.hid hc
      rw [hc] at CO
      clear hc
      refine CO.out.mono ?_
      rintro e7 w7 ⟨rfl, h1, h2⟩
      have HE : Hid (handlerP S a = .bad p k) := by show handlerP S a = _; rw [handlerP_eq]; rw [HN3.out]; show PR.bind (wantP S 24 p3) _ = _; rw [HWK5.out]; show PR.bind (takeP S 10 p5) _ = _; rw [HT6.out]; show PR.bind (PR.bind (coreP S p6) _) _ = _; rw [HB.out]; rfl
      refine ⟨rfl, ?_⟩
      rw [← HPP.out, HE.out]
      exact ⟨rfl, h1, g_trans HD6.out.gr h2⟩
     | ok c p7 =>
      have HCO := Lib.hid hc
      rw [hc] at CO
      clear hc
      refine CO.out.mono ?_
      rintro e7 w7 ⟨v7, rfl, ⟨cs7, rfl, vv, rfl, hv7⟩, hA7, hg7⟩
      obtain ⟨q, k, rfl⟩ := FlP.form hv7
      have HD7 := Lib.hid (HD6.out.call hA7 hg7)
      have hdl6 := HD6.out.dlt
      have HU7 : Hid (UsP (fun b => D < b) w7 (.slice q c.caps.length k) c.caps) := FlP.kept hv7 fun b hb _ => ⟨rfl, by omega⟩
      clear hA7 hg7 hv7 CO
      have k3 := HD7.out.cell (i := 3) rfl
      have k4 := HD7.out.cell (i := 4) rfl
      have k5 := HD7.out.cell (i := 5) rfl
      have k6 := HD7.out.cell (i := 6) rfl
      have k7 := HD7.out.cell (i := 7) rfl
      have k8 := HD7.out.cell (i := 8) rfl
      have fk3 := HD7.out.free 3
      have fk4 := HD7.out.free 4
      have fk5 := HD7.out.free 5
      have fk6 := HD7.out.free 6
      have fk7 := HD7.out.free 7
      have fk8 := HD7.out.free 8
      have dl := HD7.out.dlt
      go_wp2_with fail
      go_meet
      exact ⟨usZ, c, q, c.caps.length, k, p7, by show handlerP S a = _; rw [handlerP_eq]; rw [HN3.out]; show PR.bind (wantP S 24 p3) _ = _; rw [HWK5.out]; show PR.bind (takeP S 10 p5) _ = _; rw [HT6.out]; show PR.bind (PR.bind (coreP S p6) _) _ = _; rw [HCO.out]; rfl, (((((HD7.out.set 3 _).set 4 _).set 5 _).set 6 _).set 7 _).set 8 _, FlP.kept (FlP.kept (FlP.kept (FlP.kept (FlP.kept (FlP.kept HU7.out stays_set) stays_set) stays_set) stays_set) stays_set) stays_set⟩
   case rest =>
    obtain ⟨ofu, c, q, n, k, p7, HK0, HD7, HU7⟩ := hcut
    clear HD0 HD2 HD3 HD4 HD5 HD6 HN3 HWK5 HT6
    go_upto_block 0 with fail
    go_cut [] (fun wx => ∃ (ws : List WrapT) (q9 : Option Addr) (kc9 p8 K : Nat), Hid (handlerP S a = handL S a u3 ofu c ws p8) ∧ Hid (Dec W0 W wx B X D T 81 S tv nv #[.string ⟨#[]⟩, .string ⟨#[]⟩, .int .i64 0, .string ⟨#[]⟩, .bool false, .bool false, .int .u64 0, .slice none 0 0, .int .i64 0, .slice none 0 0, .bool false, .int .u64 0, .string ⟨#[]⟩, .int .i64 0, .slice none 0 0, .int .i64 0] #[.string u3.name, .string ofu.name, .int .i64 ofu.pos, .string c.word, .bool c.has, .bool c.minus, .int .u64 c.num, .slice q n k, .int .i64 c.pos, .slice q9 ws.length kc9, .bool false, .int .u64 0, .string ⟨#[]⟩, .int .i64 0, .slice none 0 0, .int .i64 (posP S a : Nat)] p8 0) ∧ Hid (UsP (fun b => D < b) wx (.slice q n k) c.caps) ∧ Hid (ListP (fun b => D < b) wx 10 (WrapP (fun b => D < b) wx K) (.slice q9 ws.length kc9) ws))
    case first =>
     obtain ⟨Bs, hBs⟩ : ∃ Bs, wc.heap.size = Bs := ⟨_, rfl⟩
     have hDB : D < Bs := by have := HD7.out.dlt; omega
     have HBs := Lib.hid hBs
     clear hBs
     have HUB : Hid (UsP (fun b => D < b ∧ b < Bs) wc (.slice q n k) c.caps) := by obtain ⟨h0, p0, k0, e0, h1, h2, h3⟩ := HU7.out; exact ⟨h0, p0, k0, e0, h1, h2, fun hn => by obtain ⟨b, o, h4, h5, h6⟩ := h3 hn; exact ⟨b, o, ⟨h4, by have := HBs.out; omega⟩, h5, h6⟩⟩
     obtain ⟨i0, hi, hz0, hz1, hz2⟩ := info_of info_wrapd
     go_wp2_with fail
     go_loopw [] (fun wr => ∃ (f p' : Nat) (q9 : Option Addr) (kc9 : Nat) (ws : List WrapT), S.ts.length < f + p' ∧ ws.length + f ≤ 16385 ∧ Bs ≤ wr.heap.size ∧ Hid (handlerP S a = (wrapsP S f ws p').bind (handL S a u3 ofu c)) ∧ Hid (Dec W0 W wr B X D T 81 S tv nv #[.string ⟨#[]⟩, .string ⟨#[]⟩, .int .i64 0, .string ⟨#[]⟩, .bool false, .bool false, .int .u64 0, .slice none 0 0, .int .i64 0, .slice none 0 0, .bool false, .int .u64 0, .string ⟨#[]⟩, .int .i64 0, .slice none 0 0, .int .i64 0] #[.string u3.name, .string ofu.name, .int .i64 ofu.pos, .string c.word, .bool c.has, .bool c.minus, .int .u64 c.num, .slice q n k, .int .i64 c.pos, .slice q9 ws.length kc9, .bool false, .int .u64 0, .string ⟨#[]⟩, .int .i64 0, .slice none 0 0, .int .i64 (posP S a : Nat)] p' 0) ∧ Hid (UsP (fun b => D < b ∧ b < Bs) wr (.slice q n k) c.caps) ∧ Hid (ORow RWr Bs 90 10 wr (.slice q9 ws.length kc9) ws)) (fun wr => leftM S B wr)
     case atStart => exact ⟨fuel S, _, none, 0, [], by unfold fuel; omega, by unfold fuel; rw [List.length_nil]; omega, by have := HBs.out; omega, HK0.out, HD7.out, HUB.out, ORow.nil _ _ _ _ _⟩
     case round =>
      obtain ⟨f, p', q9, kc9, ws, hf, hwl, hbw, HK1, HDL, HUL, HRL⟩ := hrel
      have HMR := Lib.hid (left_at HDL.out.at_)
      have hin := HDL.out.at_.in_
      obtain ⟨f', rfl⟩ : ∃ f', f = f' + 1 := ⟨f - 1, by omega⟩
      have CT := Lib.hid (ttake_any HC.out HDL.out.at_ 14 (by omega))
      by_cases h14 : kindP S p' = 14
      ·rw [decide_eq_true h14, if_pos h14] at CT
       have HK2 : Hid (handlerP S a = ((wrapP S (p' + 1)).bind fun x b => wrapsP S f' (ws ++ [x]) b).bind (handL S a u3 ofu c)) := by show handlerP S a = _; rw [HK1.out, wrapsP_succ, takeP_of, decide_eq_true h14, if_pos h14]; rfl
       clear h14
       go_wp2_with fail
       refine CT.out.mono ?_
       rintro e5 w5 ⟨rfl, hA5, hg5⟩
       have HD5 := Lib.hid (HDL.out.call hA5 hg5)
       have HU5 : Hid (UsP (fun b => D < b ∧ b < Bs) w5 (.slice q n k) c.caps) := FlP.kept HUL.out fun b hb hl => ⟨(HDL.out.stays hg5 b hb.1 hl).1, hb⟩
       have HR5 := Lib.hid (goes_ok goes_wr HRL.out hg5 (by have := HDL.out.bx; have := HDL.out.xd; omega))
       have hsz5 := hg5.size
       clear hA5 hg5 CT
       have CM : Hid (∀ W', Below w5.heap.size w5 W' → Calls Tryz.prog 122 #[.pointer (some ⟨B, 0, none⟩)] W' (StepPost W0 B T S tv nv brk 0 RepWr W' (wrapP S (p' + 1)))) := fun W' hb => twrap_any HC.out (HD5.out.at_.below hb)
       have k9 := HD5.out.cell (i := 9) rfl
       have fk9 := HD5.out.free 9
       have dl := HD5.out.dlt
       go_upto_region 9 with fail
       cases hq : wrapP S (p' + 1) with
       | bad p k =>
        have HQ := Lib.hid hq
        rw [hq] at CM
        clear hq
        have HE : Hid (handlerP S a = .bad p k) := by show handlerP S a = _; rw [HK2.out, HQ.out]; rfl
        refine wp_region_held_drew (S := fun _ => True) (by kernel_rfl) trivial (fun hHeld => ?_)
        refine takeQ_ (i := 0) (v := ?_) rfl (by kernel_rfl) (fun _ _ _ h => h) (by rfl) ?_ (by assumption) ?_
        rotate_left
        focus (intro w' hSw; (try dsimp only at hSw); go_simp; try with_reducible rfl)
        (try simp only [Act.put, puts_])
        refine takeQ_ (i := 2) (v := ?_) rfl (by kernel_rfl) (fun _ _ _ h => h) (by rfl) ?_ (by assumption) ?_
        rotate_left
        focus (intro w' hSw; (try dsimp only at hSw); go_simp; try with_reducible rfl)
        (try simp only [Act.put, puts_])
        refine wpAnyH_ready (rs := [1, 3]) (by kernel_rfl) (by simp) ?_
        refine AllReadyH.cons (o := _) rfl (fun K hK => ?_) ?_
        ·go_simp
         refine hK.out _ _ trivial (fun hHeld => ?_)
         clear hK K
         (try simp only [Act.put, puts_])
         refine wpAnyH_ready (rs := [3]) (by kernel_rfl) (by simp) ?_
         refine AllReadyH.cons (o := _) rfl (fun K hK => ?_) AllReadyH.nil
         go_simp; refine (CM.out _ (Below.refl _ _).drew).mono ?_; rintro e6 w6 ⟨rfl, h1, h2⟩; refine ⟨rfl, ?_⟩; rw [← HPP.out, HE.out]; exact ⟨rfl, h1, g_trans HD5.out.gr (g_trans (g_of (Below.refl _ _).drew) h2)⟩
        refine AllReadyH.cons (o := _) rfl (fun K hK => ?_) AllReadyH.nil
        go_simp; refine (CM.out _ (Below.refl _ _).drew).mono ?_; rintro e6 w6 ⟨rfl, h1, h2⟩; refine ⟨rfl, ?_⟩; rw [← HPP.out, HE.out]; exact ⟨rfl, h1, g_trans HD5.out.gr (g_trans (g_of (Below.refl _ _).drew) h2)⟩
       | ok x6 p6 =>
        have HQ := Lib.hid hq
        have hp6 : p' + 1 ≤ p6 := wrapP_le hq
        rw [hq] at CM
        clear hq
        have HK3 : Hid (handlerP S a = (wrapsP S f' (ws ++ [x6]) p6).bind (handL S a u3 ofu c)) := by show handlerP S a = _; rw [HK2.out, HQ.out]; rfl
        refine wp_region_held_drew (S := fun _ => True) (by kernel_rfl) trivial (fun hHeld => ?_)
        refine takeQ_ (i := 0) (v := ?_) rfl (by kernel_rfl) (fun _ _ _ h => h) (by rfl) ?_ (by assumption) ?_
        rotate_left
        focus (intro w' hSw; (try dsimp only at hSw); go_simp; try with_reducible rfl)
        (try simp only [Act.put, puts_])
        refine takeQ_ (i := 2) (v := ?_) rfl (by kernel_rfl) (fun _ _ _ h => h) (by rfl) ?_ (by assumption) ?_
        rotate_left
        focus (intro w' hSw; (try dsimp only at hSw); go_simp; try with_reducible rfl)
        (try simp only [Act.put, puts_])
        refine wpAnyH_ready (rs := [1, 3]) (by kernel_rfl) (by simp) ?_
        refine AllReadyH.cons (o := _) rfl (fun K hK => ?_) ?_
        ·go_simp
         refine hK.out _ _ trivial (fun hHeld => ?_)
         clear hK K
         (try simp only [Act.put, puts_])
         refine wpAnyH_ready (rs := [3]) (by kernel_rfl) (by simp) ?_
         refine AllReadyH.cons (o := _) rfl (fun K hK => ?_) AllReadyH.nil
         go_simp; refine (CM.out _ (Below.refl _ _).drew).mono ?_; rintro e6 w6 ⟨v6, rfl, ⟨kw, cs6, rfl, hv6⟩, hA6, hg6⟩; obtain ⟨q1, n1, c1, q2, n2, c2, o3, m3, q3, n3, c3, rfl⟩ := hv6.form; have hg6' : w5.grownBy w6 (some B) := g_trans (g_of (Below.refl _ _).drew) hg6; have hsz6 := hg6'.size; have HD6 := Lib.hid (HD5.out.call hA6 hg6'); have HV6 : Hid (RWr (fun b => w5.heap.size ≤ b) w6 [.bool x6.opn, .string x6.word, .string x6.sub, .slice q1 n1 c1, .slice q2 n2 c2, .bool x6.when_, .int .i64 o3, .int .i64 m3, .slice q3 n3 c3, .int .i64 x6.pos] x6) := ⟨kw, hv6⟩; have HU6 : Hid (UsP (fun b => D < b ∧ b < Bs) w6 (.slice q n k) c.caps) := FlP.kept HU5.out fun b hb hl => ⟨(HD5.out.stays hg6' b hb.1 hl).1, hb⟩; obtain ⟨css, x1, xo, x3, x4⟩ := goes_ok goes_wr HR5.out hg6' (by have := HD5.out.bx; have := HD5.out.xd; omega); have HX2 := Lib.hid xo; have HX3 := Lib.hid x3; have HX4 := Lib.hid x4; have q3' := HD6.out.cell (i := 9) rfl; have qd := HD6.out.dlt; clear xo x3 x4 hA6 hg6 hg6' hv6; dsimp only
         refine hK.out _ _ trivial (fun hHeld => ?_)
         clear hK K
         (try simp only [Act.put, puts_])
         refine wpAnyH_ready (rs := [4]) (by kernel_rfl) (by simp) ?_
         refine AllReadyH.cons (o := _) rfl (fun K hK => ?_) AllReadyH.nil
         go_simp
         refine hK.out _ _ trivial (fun hHeld => ?_)
         clear hK K
         (try simp only [Act.put, puts_])
         refine wpAnyH_ready (rs := [5]) (by kernel_rfl) (by simp) ?_
         refine AllReadyH.cons (o := _) rfl (fun K hK => ?_) AllReadyH.nil
         (refine step_append_lies _ (by rfl) _ _ _ (by rfl) Bs 90 i0 _ 10 144 Tryz.underlying79 hi hz0 hz1 hz2 rfl (by decide) (.slice q9 ws.length kc9) ws.length css.flatten (by rfl) (HX2.out.alloc _) ⟨w6.heap.size, 0, none⟩ 1 1 [.bool x6.opn, .string x6.word, .string x6.sub, .slice q1 n1 c1, .slice q2 n2 c2, .bool x6.when_, .int .i64 o3, .int .i64 m3, .slice q3 n3 c3, .int .i64 x6.pos] (by rfl) rfl (news_flat w6 [.bool x6.opn, .string x6.word, .string x6.sub, .slice q1 n1 c1, .slice q2 n2 c2, .bool x6.when_, .int .i64 o3, .int .i64 m3, .slice q3 n3 c3, .int .i64 x6.pos] _) (by intro u hu; simp at hu; rcases hu with rfl | rfl | rfl | rfl | rfl | rfl | rfl | rfl | rfl | rfl <;> rfl) (by decide) (by unfold maxLen; omega) (by omega) (by rw [World.size_alloc]; omega) (w6.heap.size + 1) (by simp) ?_); intro g2 cap2 w1' hown' hgrow hat hlt2; obtain ⟨HF1, HF2, y3, yf, yl, HF3, hbw6⟩ := row_step (i := 9) goes_wr HD6.out HR5.out hsz6 hDB (by omega) x1 HX3.out HX4.out HV6.out rfl hgrow hat hown'; have HFN1 := Lib.hid HF1; have HFN2 := Lib.hid HF2; have HFU : Hid (UsP (fun b => D < b ∧ b < Bs) (w1'.setCell ⟨D, 9, none⟩ (.slice (some ⟨g2, 0, none⟩) (ws.length + 1) cap2)) (.slice q n k) c.caps) := FlP.kept HU6.out fun b hb hl => ⟨HF3 b hb.2 hl hb.1, hb⟩; clear HF1 HF2 HF3 hown' hgrow hat
         refine hK.out _ _ trivial (fun hHeld => ?_)
         clear hK K
         (try simp only [Act.put, puts_])
         refine takeQ_ (i := 6) (v := ?_) rfl (by kernel_rfl) (fun _ _ _ h => h) (by rfl) ?_ (by assumption) ?_
         rotate_left
         focus (intro w' hSw; (try dsimp only at hSw); go_simp; try with_reducible rfl)
         (try simp only [Act.put, puts_])
         refine wpAnyH_ready (rs := [7]) (by kernel_rfl) (by simp) ?_
         refine AllReadyH.cons (o := _) rfl (fun K hK => ?_) AllReadyH.nil
         go_simp
         refine hK.out _ _ trivial (fun hHeld => ?_)
         clear hK K
         (try simp only [Act.put, puts_])
         refine wpAnyH_done (by kernel_rfl) ?_ _
         go_simp
         go_wp2_with fail
         go_roundw
         case rel => exact ⟨f', p6, some ⟨g2, 0, none⟩, cap2, ws ++ [x6], by omega, by rw [length_append, List.length_singleton]; omega, by rw [World.size_setCell]; exact hbw6, HK3.out, by rw [length_append, List.length_singleton]; exact HFN1.out, HFU.out, by rw [length_append, List.length_singleton]; exact HFN2.out⟩
         case measure => rw [left_at HFN1.out.at_, HMR.out]; have := HFN1.out.at_.in_; omega
        refine AllReadyH.cons (o := _) rfl (fun K hK => ?_) AllReadyH.nil
        go_simp; refine (CM.out _ (Below.refl _ _).drew).mono ?_; rintro e6 w6 ⟨v6, rfl, ⟨kw, cs6, rfl, hv6⟩, hA6, hg6⟩; obtain ⟨q1, n1, c1, q2, n2, c2, o3, m3, q3, n3, c3, rfl⟩ := hv6.form; have hg6' : w5.grownBy w6 (some B) := g_trans (g_of (Below.refl _ _).drew) hg6; have hsz6 := hg6'.size; have HD6 := Lib.hid (HD5.out.call hA6 hg6'); have HV6 : Hid (RWr (fun b => w5.heap.size ≤ b) w6 [.bool x6.opn, .string x6.word, .string x6.sub, .slice q1 n1 c1, .slice q2 n2 c2, .bool x6.when_, .int .i64 o3, .int .i64 m3, .slice q3 n3 c3, .int .i64 x6.pos] x6) := ⟨kw, hv6⟩; have HU6 : Hid (UsP (fun b => D < b ∧ b < Bs) w6 (.slice q n k) c.caps) := FlP.kept HU5.out fun b hb hl => ⟨(HD5.out.stays hg6' b hb.1 hl).1, hb⟩; obtain ⟨css, x1, xo, x3, x4⟩ := goes_ok goes_wr HR5.out hg6' (by have := HD5.out.bx; have := HD5.out.xd; omega); have HX2 := Lib.hid xo; have HX3 := Lib.hid x3; have HX4 := Lib.hid x4; have q3' := HD6.out.cell (i := 9) rfl; have qd := HD6.out.dlt; clear xo x3 x4 hA6 hg6 hg6' hv6; dsimp only
        refine hK.out _ _ trivial (fun hHeld => ?_)
        clear hK K
        (try simp only [Act.put, puts_])
        refine wpAnyH_ready (rs := [1, 4]) (by kernel_rfl) (by simp) ?_
        refine AllReadyH.cons (o := _) rfl (fun K hK => ?_) ?_
        ·go_simp
         refine hK.out _ _ trivial (fun hHeld => ?_)
         clear hK K
         (try simp only [Act.put, puts_])
         refine wpAnyH_ready (rs := [4]) (by kernel_rfl) (by simp) ?_
         refine AllReadyH.cons (o := _) rfl (fun K hK => ?_) AllReadyH.nil
         go_simp
         refine hK.out _ _ trivial (fun hHeld => ?_)
         clear hK K
         (try simp only [Act.put, puts_])
         refine wpAnyH_ready (rs := [5]) (by kernel_rfl) (by simp) ?_
         refine AllReadyH.cons (o := _) rfl (fun K hK => ?_) AllReadyH.nil
         (refine step_append_lies _ (by rfl) _ _ _ (by rfl) Bs 90 i0 _ 10 144 Tryz.underlying79 hi hz0 hz1 hz2 rfl (by decide) (.slice q9 ws.length kc9) ws.length css.flatten (by rfl) (HX2.out.alloc _) ⟨w6.heap.size, 0, none⟩ 1 1 [.bool x6.opn, .string x6.word, .string x6.sub, .slice q1 n1 c1, .slice q2 n2 c2, .bool x6.when_, .int .i64 o3, .int .i64 m3, .slice q3 n3 c3, .int .i64 x6.pos] (by rfl) rfl (news_flat w6 [.bool x6.opn, .string x6.word, .string x6.sub, .slice q1 n1 c1, .slice q2 n2 c2, .bool x6.when_, .int .i64 o3, .int .i64 m3, .slice q3 n3 c3, .int .i64 x6.pos] _) (by intro u hu; simp at hu; rcases hu with rfl | rfl | rfl | rfl | rfl | rfl | rfl | rfl | rfl | rfl <;> rfl) (by decide) (by unfold maxLen; omega) (by omega) (by rw [World.size_alloc]; omega) (w6.heap.size + 1) (by simp) ?_); intro g2 cap2 w1' hown' hgrow hat hlt2; obtain ⟨HF1, HF2, y3, yf, yl, HF3, hbw6⟩ := row_step (i := 9) goes_wr HD6.out HR5.out hsz6 hDB (by omega) x1 HX3.out HX4.out HV6.out rfl hgrow hat hown'; have HFN1 := Lib.hid HF1; have HFN2 := Lib.hid HF2; have HFU : Hid (UsP (fun b => D < b ∧ b < Bs) (w1'.setCell ⟨D, 9, none⟩ (.slice (some ⟨g2, 0, none⟩) (ws.length + 1) cap2)) (.slice q n k) c.caps) := FlP.kept HU6.out fun b hb hl => ⟨HF3 b hb.2 hl hb.1, hb⟩; clear HF1 HF2 HF3 hown' hgrow hat
         refine hK.out _ _ trivial (fun hHeld => ?_)
         clear hK K
         (try simp only [Act.put, puts_])
         refine takeQ_ (i := 6) (v := ?_) rfl (by kernel_rfl) (fun _ _ _ h => h) (by rfl) ?_ (by assumption) ?_
         rotate_left
         focus (intro w' hSw; (try dsimp only at hSw); go_simp; try with_reducible rfl)
         (try simp only [Act.put, puts_])
         refine wpAnyH_ready (rs := [7]) (by kernel_rfl) (by simp) ?_
         refine AllReadyH.cons (o := _) rfl (fun K hK => ?_) AllReadyH.nil
         go_simp
         refine hK.out _ _ trivial (fun hHeld => ?_)
         clear hK K
         (try simp only [Act.put, puts_])
         refine wpAnyH_done (by kernel_rfl) ?_ _
         go_simp
         go_wp2_with fail
         go_roundw
         case rel => exact ⟨f', p6, some ⟨g2, 0, none⟩, cap2, ws ++ [x6], by omega, by rw [length_append, List.length_singleton]; omega, by rw [World.size_setCell]; exact hbw6, HK3.out, by rw [length_append, List.length_singleton]; exact HFN1.out, HFU.out, by rw [length_append, List.length_singleton]; exact HFN2.out⟩
         case measure => rw [left_at HFN1.out.at_, HMR.out]; have := HFN1.out.at_.in_; omega
        refine AllReadyH.cons (o := _) rfl (fun K hK => ?_) AllReadyH.nil
        go_simp
        refine hK.out _ _ trivial (fun hHeld => ?_)
        clear hK K
        (try simp only [Act.put, puts_])
        refine wpAnyH_ready (rs := [1]) (by kernel_rfl) (by simp) ?_
        refine AllReadyH.cons (o := _) rfl (fun K hK => ?_) AllReadyH.nil
        go_simp
        refine hK.out _ _ trivial (fun hHeld => ?_)
        clear hK K
        (try simp only [Act.put, puts_])
        refine wpAnyH_ready (rs := [5]) (by kernel_rfl) (by simp) ?_
        refine AllReadyH.cons (o := _) rfl (fun K hK => ?_) AllReadyH.nil
        (refine step_append_lies _ (by rfl) _ _ _ (by rfl) Bs 90 i0 _ 10 144 Tryz.underlying79 hi hz0 hz1 hz2 rfl (by decide) (.slice q9 ws.length kc9) ws.length css.flatten (by rfl) (HX2.out.alloc _) ⟨w6.heap.size, 0, none⟩ 1 1 [.bool x6.opn, .string x6.word, .string x6.sub, .slice q1 n1 c1, .slice q2 n2 c2, .bool x6.when_, .int .i64 o3, .int .i64 m3, .slice q3 n3 c3, .int .i64 x6.pos] (by rfl) rfl (news_flat w6 [.bool x6.opn, .string x6.word, .string x6.sub, .slice q1 n1 c1, .slice q2 n2 c2, .bool x6.when_, .int .i64 o3, .int .i64 m3, .slice q3 n3 c3, .int .i64 x6.pos] _) (by intro u hu; simp at hu; rcases hu with rfl | rfl | rfl | rfl | rfl | rfl | rfl | rfl | rfl | rfl <;> rfl) (by decide) (by unfold maxLen; omega) (by omega) (by rw [World.size_alloc]; omega) (w6.heap.size + 1) (by simp) ?_); intro g2 cap2 w1' hown' hgrow hat hlt2; obtain ⟨HF1, HF2, y3, yf, yl, HF3, hbw6⟩ := row_step (i := 9) goes_wr HD6.out HR5.out hsz6 hDB (by omega) x1 HX3.out HX4.out HV6.out rfl hgrow hat hown'; have HFN1 := Lib.hid HF1; have HFN2 := Lib.hid HF2; have HFU : Hid (UsP (fun b => D < b ∧ b < Bs) (w1'.setCell ⟨D, 9, none⟩ (.slice (some ⟨g2, 0, none⟩) (ws.length + 1) cap2)) (.slice q n k) c.caps) := FlP.kept HU6.out fun b hb hl => ⟨HF3 b hb.2 hl hb.1, hb⟩; clear HF1 HF2 HF3 hown' hgrow hat
        refine hK.out _ _ trivial (fun hHeld => ?_)
        clear hK K
        (try simp only [Act.put, puts_])
        refine takeQ_ (i := 6) (v := ?_) rfl (by kernel_rfl) (fun _ _ _ h => h) (by rfl) ?_ (by assumption) ?_
        rotate_left
        focus (intro w' hSw; (try dsimp only at hSw); go_simp; try with_reducible rfl)
        (try simp only [Act.put, puts_])
        refine wpAnyH_ready (rs := [7]) (by kernel_rfl) (by simp) ?_
        refine AllReadyH.cons (o := _) rfl (fun K hK => ?_) AllReadyH.nil
        go_simp
        refine hK.out _ _ trivial (fun hHeld => ?_)
        clear hK K
        (try simp only [Act.put, puts_])
        refine wpAnyH_done (by kernel_rfl) ?_ _
        go_simp
        go_wp2_with fail
        go_roundw
        case rel => exact ⟨f', p6, some ⟨g2, 0, none⟩, cap2, ws ++ [x6], by omega, by rw [length_append, List.length_singleton]; omega, by rw [World.size_setCell]; exact hbw6, HK3.out, by rw [length_append, List.length_singleton]; exact HFN1.out, HFU.out, by rw [length_append, List.length_singleton]; exact HFN2.out⟩
        case measure => rw [left_at HFN1.out.at_, HMR.out]; have := HFN1.out.at_.in_; omega
      ·rw [decide_eq_false h14, if_neg h14] at CT
       have HK2 : Hid (handlerP S a = handL S a u3 ofu c ws p') := by show handlerP S a = _; rw [HK1.out, wrapsP_succ, takeP_of, decide_eq_false h14, if_neg h14]; rfl
       clear h14
       go_wp2_with fail
       refine CT.out.mono ?_
       rintro e5 w5 ⟨rfl, hA5, hg5⟩
       have HD5 := Lib.hid (HDL.out.call hA5 hg5)
       have HU5 : Hid (UsP (fun b => D < b) w5 (.slice q n k) c.caps) := FlP.kept HUL.out fun b hb hl => ⟨(HDL.out.stays hg5 b hb.1 hl).1, hb.1⟩
       have HR5 := Lib.hid (goes_ok goes_wr HRL.out hg5 (by have := HDL.out.bx; have := HDL.out.xd; omega))
       obtain ⟨K, hK⟩ := wr_list HR5.out
       have HW5 : Hid (ListP (fun b => D < b) w5 10 (WrapP (fun b => D < b) w5 K) (.slice q9 ws.length kc9) ws) := (ListP.kept (fun b hb _ => ⟨rfl, by omega⟩) hK (fun _ _ h => WrapP.kept (fun b hb _ => ⟨rfl, by omega⟩) h))
       clear hA5 hg5 CT hK
       go_wp2_with fail
       go_meet
       exact ⟨ws, q9, kc9, p', K, HK2.out, HD5.out, HU5.out, HW5.out⟩
    case rest =>
     obtain ⟨ws, q9, kc9, p8, K, HL8, HD8, HU8, HW8⟩ := hcut
     clear HK0 HD7 HU7
     obtain ⟨br, hbr⟩ : ∃ br, decide (kindP S p8 = 9) = br := ⟨_, rfl⟩
     obtain ⟨p9, hp9⟩ : ∃ p9, (if kindP S p8 = 9 then p8 + 1 else p8) = p9 := ⟨_, rfl⟩
     have HT9 := Lib.hid (takeP_of S 9 p8)
     have CT := Lib.hid (ttake_any HC.out HD8.out.at_ 9 (by omega))
     rw [hbr, hp9] at CT HT9
     clear hbr hp9
     go_wp2_with fail
     refine CT.out.mono ?_
     rintro e9 w9 ⟨rfl, hA9, hg9⟩
     have HD9 := Lib.hid (HD8.out.call hA9 hg9)
     have HU9 : Hid (UsP (fun b => D < b) w9 (.slice q n k) c.caps) := FlP.kept HU8.out (HD8.out.stays hg9)
     have HW9 : Hid (ListP (fun b => D < b) w9 10 (WrapP (fun b => D < b) w9 K) (.slice q9 ws.length kc9) ws) := (ListP.kept (HD8.out.stays hg9) HW8.out (fun _ _ h => WrapP.kept (HD8.out.stays hg9) h))
     clear hA9 hg9 CT
     have k10 := HD9.out.cell (i := 10) rfl
     have fk10 := HD9.out.free 10
     have dl := HD9.out.dlt
     go_upto_region 11 with fail
     refine wp_world (fun W10 => Dec W0 W W10 B X D T 81 S tv nv #[.string ⟨#[]⟩, .string ⟨#[]⟩, .int .i64 0, .string ⟨#[]⟩, .bool false, .bool false, .int .u64 0, .slice none 0 0, .int .i64 0, .slice none 0 0, .bool false, .int .u64 0, .string ⟨#[]⟩, .int .i64 0, .slice none 0 0, .int .i64 0] #[.string u3.name, .string ofu.name, .int .i64 ofu.pos, .string c.word, .bool c.has, .bool c.minus, .int .u64 c.num, .slice q n k, .int .i64 c.pos, .slice q9 ws.length kc9, .bool br, .int .u64 0, .string ⟨#[]⟩, .int .i64 0, .slice none 0 0, .int .i64 (posP S a : Nat)] p9 0 ∧ UsP (fun b => D < b) W10 (.slice q n k) c.caps ∧ ListP (fun b => D < b) W10 10 (WrapP (fun b => D < b) W10 K) (.slice q9 ws.length kc9) ws) ⟨HD9.out.set 10 _, FlP.kept HU9.out stays_set, (ListP.kept stays_set HW9.out (fun _ _ h => WrapP.kept stays_set h))⟩ (fun W10 hW10 => ?_)
     have HD10 := Lib.hid hW10.1
     have HU10 := Lib.hid hW10.2.1
     have HW10 := Lib.hid hW10.2.2
     clear hW10
     clear k10 fk10 dl
     have k10 := HD10.out.cell (i := 10) rfl
     have fk10 := HD10.out.free 10
     have dl := HD10.out.dlt
     go_upto_if 66 with fail
     clear k10 fk10 dl
     go_cut [] (fun wx => ∃ (nb : Int) (dr : Us) (p11 : Nat), Hid (handlerP S a = handM S a u3 ofu c ws (br, nb, dr) p11) ∧ Hid (Dec W0 W wx B X D T 81 S tv nv #[.string ⟨#[]⟩, .string ⟨#[]⟩, .int .i64 0, .string ⟨#[]⟩, .bool false, .bool false, .int .u64 0, .slice none 0 0, .int .i64 0, .slice none 0 0, .bool false, .int .u64 0, .string ⟨#[]⟩, .int .i64 0, .slice none 0 0, .int .i64 0] #[.string u3.name, .string ofu.name, .int .i64 ofu.pos, .string c.word, .bool c.has, .bool c.minus, .int .u64 c.num, .slice q n k, .int .i64 c.pos, .slice q9 ws.length kc9, .bool br, .int .u64 nb, .string dr.name, .int .i64 dr.pos, .slice none 0 0, .int .i64 (posP S a : Nat)] p11 0) ∧ Hid (UsP (fun b => D < b) wx (.slice q n k) c.caps) ∧ Hid (ListP (fun b => D < b) wx 10 (WrapP (fun b => D < b) wx K) (.slice q9 ws.length kc9) ws))
     case first =>
      cases br with
      | true =>
       have CM := Lib.hid (tnumber_any HC.out HD10.out.at_)
       go_wp2_with fail
       cases hq : numP S p9 with
       | bad p k =>
        have HB := Lib.hid hq
        rw [hq] at CM
        clear hq
        refine CM.out.mono ?_
        rintro e11 w11 ⟨rfl, h1, h2⟩
        have HE : Hid (handlerP S a = .bad p k) := by show handlerP S a = _; rw [HL8.out]; unfold handL roomP; rw [HT9.out]; show PR.bind (PR.bind (numP S p9) _) _ = _; rw [HB.out]; rfl
        refine ⟨rfl, ?_⟩
        rw [← HPP.out, HE.out]
        exact ⟨rfl, h1, g_trans HD10.out.gr h2⟩
       | ok nb p10 =>
        have HQ := Lib.hid hq
        rw [hq] at CM
        clear hq
        refine CM.out.mono ?_
        rintro e11 w11 ⟨v11, rfl, hv11, hA11, hg11⟩
        have hv11 : v11 = .int .u64 nb := hv11
        subst hv11
        have HD11 := Lib.hid (HD10.out.call hA11 hg11)
        have HU11 : Hid (UsP (fun b => D < b) w11 (.slice q n k) c.caps) := FlP.kept HU10.out (HD10.out.stays hg11)
        have HW11 : Hid (ListP (fun b => D < b) w11 10 (WrapP (fun b => D < b) w11 K) (.slice q9 ws.length kc9) ws) := (ListP.kept (HD10.out.stays hg11) HW10.out (fun _ _ h => WrapP.kept (HD10.out.stays hg11) h))
        clear hA11 hg11 CM
        have k11 := HD11.out.cell (i := 11) rfl
        have fk11 := HD11.out.free 11
        have dl := HD11.out.dlt
        go_upto_region 13 with fail
        refine wp_world (fun W12 => Dec W0 W W12 B X D T 81 S tv nv #[.string ⟨#[]⟩, .string ⟨#[]⟩, .int .i64 0, .string ⟨#[]⟩, .bool false, .bool false, .int .u64 0, .slice none 0 0, .int .i64 0, .slice none 0 0, .bool false, .int .u64 0, .string ⟨#[]⟩, .int .i64 0, .slice none 0 0, .int .i64 0] #[.string u3.name, .string ofu.name, .int .i64 ofu.pos, .string c.word, .bool c.has, .bool c.minus, .int .u64 c.num, .slice q n k, .int .i64 c.pos, .slice q9 ws.length kc9, .bool true, .int .u64 nb, .string ⟨#[]⟩, .int .i64 0, .slice none 0 0, .int .i64 (posP S a : Nat)] p10 0 ∧ UsP (fun b => D < b) W12 (.slice q n k) c.caps ∧ ListP (fun b => D < b) W12 10 (WrapP (fun b => D < b) W12 K) (.slice q9 ws.length kc9) ws) ⟨HD11.out.set 11 _, FlP.kept HU11.out stays_set, (ListP.kept stays_set HW11.out (fun _ _ h => WrapP.kept stays_set h))⟩ (fun W12 hW12 => ?_)
        have HD12 := Lib.hid hW12.1
        have HU12 := Lib.hid hW12.2.1
        have HW12 := Lib.hid hW12.2.2
        clear hW12
        clear k11 fk11 dl
        obtain ⟨bd, hbd⟩ : ∃ bd, decide (kindP S p10 = 6) = bd := ⟨_, rfl⟩
        obtain ⟨p12, hp12⟩ : ∃ p12, (if kindP S p10 = 6 then p10 + 1 else p10) = p12 := ⟨_, rfl⟩
        have HT12 := Lib.hid (takeP_of S 6 p10)
        have CT := Lib.hid (ttake_any HC.out HD12.out.at_ 6 (by omega))
        rw [hbd, hp12] at CT HT12
        clear hbd hp12
        go_wp2_with fail
        refine CT.out.mono ?_
        rintro e13 w13 ⟨rfl, hA13, hg13⟩
        have HD13 := Lib.hid (HD12.out.call hA13 hg13)
        have HU13 : Hid (UsP (fun b => D < b) w13 (.slice q n k) c.caps) := FlP.kept HU12.out (HD12.out.stays hg13)
        have HW13 : Hid (ListP (fun b => D < b) w13 10 (WrapP (fun b => D < b) w13 K) (.slice q9 ws.length kc9) ws) := (ListP.kept (HD12.out.stays hg13) HW12.out (fun _ _ h => WrapP.kept (HD12.out.stays hg13) h))
        clear hA13 hg13 CT
        cases bd with
        | true =>
         have CN := Lib.hid (tname_any HC.out HD13.out.at_)
         go_wp2_with fail
         cases hn : nameP S p12 with
         | bad p k =>
          have HNB := Lib.hid hn
          rw [hn] at CN
          clear hn
          refine CN.out.mono ?_
          rintro e14 w14 ⟨rfl, h1, h2⟩
          have HE : Hid (handlerP S a = .bad p k) := by show handlerP S a = _; rw [HL8.out]; unfold handL roomP; rw [HT9.out]; show PR.bind (PR.bind (numP S p9) _) _ = _; rw [HQ.out]; show PR.bind (PR.bind (takeP S 6 p10) _) _ = _; rw [HT12.out]; show PR.bind (PR.bind (nameP S p12) _) _ = _; rw [HNB.out]; rfl
          refine ⟨rfl, ?_⟩
          rw [← HPP.out, HE.out]
          exact ⟨rfl, h1, g_trans HD13.out.gr h2⟩
         | ok u14 p14 =>
          have HN14 := Lib.hid hn
          rw [hn] at CN
          clear hn
          refine CN.out.mono ?_
          rintro e14 w14 ⟨v, rfl, hv, hA14, hg14⟩
          have hv : v = .agg #[.string u14.name, .int .i64 u14.pos] := hv
          subst hv
          have HD14 := Lib.hid (HD13.out.call hA14 hg14)
          have HU14 : Hid (UsP (fun b => D < b) w14 (.slice q n k) c.caps) := FlP.kept HU13.out (HD13.out.stays hg14)
          have HW14 : Hid (ListP (fun b => D < b) w14 10 (WrapP (fun b => D < b) w14 K) (.slice q9 ws.length kc9) ws) := (ListP.kept (HD13.out.stays hg14) HW13.out (fun _ _ h => WrapP.kept (HD13.out.stays hg14) h))
          clear hA14 hg14 CN
          have k12 := HD14.out.cell (i := 12) rfl
          have k13 := HD14.out.cell (i := 13) rfl
          have fk12 := HD14.out.free 12
          have fk13 := HD14.out.free 13
          have dl := HD14.out.dlt
          go_wp2_with fail
          go_meet
          exact ⟨nb, u14, p14, by show handlerP S a = _; rw [HL8.out]; unfold handL roomP; rw [HT9.out]; show PR.bind (PR.bind (numP S p9) _) _ = _; rw [HQ.out]; show PR.bind (PR.bind (takeP S 6 p10) _) _ = _; rw [HT12.out]; show PR.bind (PR.bind (nameP S p12) _) _ = _; rw [HN14.out]; rfl, (HD14.out.set 12 _).set 13 _, FlP.kept (FlP.kept HU14.out stays_set) stays_set, (ListP.kept stays_set (ListP.kept stays_set HW14.out (fun _ _ h => WrapP.kept stays_set h)) (fun _ _ h => WrapP.kept stays_set h))⟩
        | false =>
         go_wp2_with fail
         go_meet
         exact ⟨nb, usZ, p12, by show handlerP S a = _; rw [HL8.out]; unfold handL roomP; rw [HT9.out]; show PR.bind (PR.bind (numP S p9) _) _ = _; rw [HQ.out]; show PR.bind (PR.bind (takeP S 6 p10) _) _ = _; rw [HT12.out]; rfl, HD13.out, HU13.out, HW13.out⟩
      | false =>
       go_wp2_with fail
       go_meet
       exact ⟨0, usZ, p9, by show handlerP S a = _; rw [HL8.out]; unfold handL roomP; rw [HT9.out]; rfl, HD10.out, HU10.out, HW10.out⟩
     case rest =>
      obtain ⟨nb, dr, p11, HM11, HD11, HU11, HW11⟩ := hcut
      clear HL8 HD8 HU8 HW8 HD9 HU9 HW9 HD10 HU10 HW10 HT9
      obtain ⟨ba_, hba_⟩ : ∃ ba_, decide (kindP S p11 = 4) = ba_ := ⟨_, rfl⟩
      obtain ⟨p15, hp15⟩ : ∃ p15, (if kindP S p11 = 4 then p11 + 1 else p11) = p15 := ⟨_, rfl⟩
      have HT15 := Lib.hid (takeP_of S 4 p11)
      have CT := Lib.hid (ttake_any HC.out HD11.out.at_ 4 (by omega))
      rw [hba_, hp15] at CT HT15
      clear hba_ hp15
      go_wp2_with fail
      refine CT.out.mono ?_
      rintro e15 w15 ⟨rfl, hA15, hg15⟩
      have HD15 := Lib.hid (HD11.out.call hA15 hg15)
      have HU15 : Hid (UsP (fun b => D < b) w15 (.slice q n k) c.caps) := FlP.kept HU11.out (HD11.out.stays hg15)
      have HW15 : Hid (ListP (fun b => D < b) w15 10 (WrapP (fun b => D < b) w15 K) (.slice q9 ws.length kc9) ws) := (ListP.kept (HD11.out.stays hg15) HW11.out (fun _ _ h => WrapP.kept (HD11.out.stays hg15) h))
      clear hA15 hg15 CT
      go_upto_if 88 with fail
      go_cut [] (fun wx => ∃ (af : List Us) (qa : Option Addr) (ka p16 : Nat), Hid (handlerP S a = (wantP S 23 p16).bind fun _ b => .ok ⟨u3.name, ofu, c, ws, br, nb, dr, af, (posP S a : Nat)⟩ b) ∧ Hid (Dec W0 W wx B X D T 81 S tv nv #[.string ⟨#[]⟩, .string ⟨#[]⟩, .int .i64 0, .string ⟨#[]⟩, .bool false, .bool false, .int .u64 0, .slice none 0 0, .int .i64 0, .slice none 0 0, .bool false, .int .u64 0, .string ⟨#[]⟩, .int .i64 0, .slice none 0 0, .int .i64 0] #[.string u3.name, .string ofu.name, .int .i64 ofu.pos, .string c.word, .bool c.has, .bool c.minus, .int .u64 c.num, .slice q n k, .int .i64 c.pos, .slice q9 ws.length kc9, .bool br, .int .u64 nb, .string dr.name, .int .i64 dr.pos, .slice qa af.length ka, .int .i64 (posP S a : Nat)] p16 0) ∧ Hid (UsP (fun b => D < b) wx (.slice q n k) c.caps) ∧ Hid (ListP (fun b => D < b) wx 10 (WrapP (fun b => D < b) wx K) (.slice q9 ws.length kc9) ws) ∧ Hid (UsP (fun b => D < b) wx (.slice qa af.length ka) af))
      case first =>
       cases ba_ with
       | true =>
        have CL := Lib.hid (tlist_any HC.out HD15.out.at_)
        go_wp2_with fail
        cases hl : listP S p15 with
        | bad p k =>
         have HB := Lib.hid hl
         rw [hl] at CL
         clear hl
         refine CL.out.mono ?_
         rintro e16 w16 ⟨rfl, h1, h2⟩
         have HE : Hid (handlerP S a = .bad p k) := by show handlerP S a = _; rw [HM11.out]; unfold handM; rw [HT15.out]; show PR.bind (listP S p15) _ = _; rw [HB.out]; rfl
         refine ⟨rfl, ?_⟩
         rw [← HPP.out, HE.out]
         exact ⟨rfl, h1, g_trans HD15.out.gr h2⟩
        | ok af p16 =>
         have HLL := Lib.hid hl
         rw [hl] at CL
         clear hl
         refine CL.out.mono ?_
         rintro e16 w16 ⟨v16, rfl, hv16, hA16, hg16⟩
         obtain ⟨qa, ka, rfl⟩ : ∃ qa ka, v16 = .slice qa af.length ka := FlP.form hv16
         have HD16 := Lib.hid (HD15.out.call hA16 hg16)
         have hdl15 := HD15.out.dlt
         have HA16 : Hid (UsP (fun b => D < b) w16 (.slice qa af.length ka) af) := FlP.kept hv16 fun b hb _ => ⟨rfl, by omega⟩
         have HU16 : Hid (UsP (fun b => D < b) w16 (.slice q n k) c.caps) := FlP.kept HU15.out (HD15.out.stays hg16)
         have HW16 : Hid (ListP (fun b => D < b) w16 10 (WrapP (fun b => D < b) w16 K) (.slice q9 ws.length kc9) ws) := (ListP.kept (HD15.out.stays hg16) HW15.out (fun _ _ h => WrapP.kept (HD15.out.stays hg16) h))
         clear hA16 hg16 hv16 CL
         have k14 := HD16.out.cell (i := 14) rfl
         have fk14 := HD16.out.free 14
         have dl := HD16.out.dlt
         go_wp2_with fail
         go_meet
         exact ⟨af, qa, ka, p16, by show handlerP S a = _; rw [HM11.out]; unfold handM; rw [HT15.out]; show PR.bind (listP S p15) _ = _; rw [HLL.out]; rfl, HD16.out.set 14 _, FlP.kept HU16.out stays_set, (ListP.kept stays_set HW16.out (fun _ _ h => WrapP.kept stays_set h)), FlP.kept HA16.out stays_set⟩
       | false =>
        go_wp2_with fail
        go_meet
        exact ⟨[], none, 0, p15, by show handlerP S a = _; rw [HM11.out]; unfold handM; rw [HT15.out]; rfl, HD15.out, HU15.out, HW15.out, FlP.nil _ _ _⟩
      case rest =>
       obtain ⟨af, qa, ka, p16, HM16, HD16, HU16, HW16, HA16⟩ := hcut
       clear HM11 HD11 HU11 HW11 HD15 HU15 HW15 HT15
       have CW := Lib.hid (twant_any HC.out HD16.out.at_ 23 (by omega))
       go_wp2_with fail
       cases hw : wantP S 23 p16 with
       | bad p k =>
        have HWB := Lib.hid hw
        rw [hw] at CW
        clear hw
        refine CW.out.mono ?_
        rintro e17 w17 ⟨rfl, h1, h2⟩
        have HE : Hid (handlerP S a = .bad p k) := by show handlerP S a = _; rw [HM16.out]; rw [HWB.out]; rfl
        refine ⟨rfl, ?_⟩
        rw [← HPP.out, HE.out]
        exact ⟨rfl, h1, g_trans HD16.out.gr h2⟩
       | ok uu p17 =>
        have HWK17 := Lib.hid hw
        rw [hw] at CW
        clear hw
        refine CW.out.mono ?_
        rintro e17 w17 ⟨v, rfl, hv, hA17, hg17⟩
        have HD17 := Lib.hid (HD16.out.call hA17 hg17)
        have HU17 : Hid (UsP (fun b => D < b) w17 (.slice q n k) c.caps) := FlP.kept HU16.out (HD16.out.stays hg17)
        have HW17 : Hid (ListP (fun b => D < b) w17 10 (WrapP (fun b => D < b) w17 K) (.slice q9 ws.length kc9) ws) := (ListP.kept (HD16.out.stays hg17) HW16.out (fun _ _ h => WrapP.kept (HD16.out.stays hg17) h))
        have HA17 := Lib.hid (FlP.kept HA16.out (HD16.out.stays hg17))
        clear hv hA17 hg17 CW
        have HE : Hid (handlerP S a = .ok ⟨u3.name, ofu, c, ws, br, nb, dr, af, (posP S a : Nat)⟩ p17) := by show handlerP S a = _; rw [HM16.out, HWK17.out]; rfl
        have k0 := HD17.out.cell (i := 0) rfl
        have k1 := HD17.out.cell (i := 1) rfl
        have k2 := HD17.out.cell (i := 2) rfl
        have k3 := HD17.out.cell (i := 3) rfl
        have k4 := HD17.out.cell (i := 4) rfl
        have k5 := HD17.out.cell (i := 5) rfl
        have k6 := HD17.out.cell (i := 6) rfl
        have k7 := HD17.out.cell (i := 7) rfl
        have k8 := HD17.out.cell (i := 8) rfl
        have k9 := HD17.out.cell (i := 9) rfl
        have k10 := HD17.out.cell (i := 10) rfl
        have k11 := HD17.out.cell (i := 11) rfl
        have k12 := HD17.out.cell (i := 12) rfl
        have k13 := HD17.out.cell (i := 13) rfl
        have k14 := HD17.out.cell (i := 14) rfl
        have k15 := HD17.out.cell (i := 15) rfl
        have fk0 := HD17.out.free 0
        have fk1 := HD17.out.free 1
        have fk2 := HD17.out.free 2
        have fk3 := HD17.out.free 3
        have fk4 := HD17.out.free 4
        have fk5 := HD17.out.free 5
        have fk6 := HD17.out.free 6
        have fk7 := HD17.out.free 7
        have fk8 := HD17.out.free 8
        have fk9 := HD17.out.free 9
        have fk10 := HD17.out.free 10
        have fk11 := HD17.out.free 11
        have fk12 := HD17.out.free 12
        have fk13 := HD17.out.free 13
        have fk14 := HD17.out.free 14
        have fk15 := HD17.out.free 15
        have dl := HD17.out.dlt
        have z0 := HD17.out.rcell (i := 0) rfl
        have z1 := HD17.out.rcell (i := 1) rfl
        have z2 := HD17.out.rcell (i := 2) rfl
        have z3 := HD17.out.rcell (i := 3) rfl
        have z4 := HD17.out.rcell (i := 4) rfl
        have z5 := HD17.out.rcell (i := 5) rfl
        have z6 := HD17.out.rcell (i := 6) rfl
        have z7 := HD17.out.rcell (i := 7) rfl
        have z8 := HD17.out.rcell (i := 8) rfl
        have z9 := HD17.out.rcell (i := 9) rfl
        have z10 := HD17.out.rcell (i := 10) rfl
        have z11 := HD17.out.rcell (i := 11) rfl
        have z12 := HD17.out.rcell (i := 12) rfl
        have z13 := HD17.out.rcell (i := 13) rfl
        have z14 := HD17.out.rcell (i := 14) rfl
        have z15 := HD17.out.rcell (i := 15) rfl
        have fz0 := HD17.out.rfree 0
        have fz1 := HD17.out.rfree 1
        have fz2 := HD17.out.rfree 2
        have fz3 := HD17.out.rfree 3
        have fz4 := HD17.out.rfree 4
        have fz5 := HD17.out.rfree 5
        have fz6 := HD17.out.rfree 6
        have fz7 := HD17.out.rfree 7
        have fz8 := HD17.out.rfree 8
        have fz9 := HD17.out.rfree 9
        have fz10 := HD17.out.rfree 10
        have fz11 := HD17.out.rfree 11
        have fz12 := HD17.out.rfree 12
        have fz13 := HD17.out.rfree 13
        have fz14 := HD17.out.rfree 14
        have fz15 := HD17.out.rfree 15
        have xl := (Array.getElem?_eq_some_iff.1 HD17.out.res).1
        go_wp2_with fail
        refine wp_post (fun W' => W'.heap[X]? = some (.cells #[.string u3.name, .string ofu.name, .int .i64 ofu.pos, .string c.word, .bool c.has, .bool c.minus, .int .u64 c.num, .slice q n k, .int .i64 c.pos, .slice q9 ws.length kc9, .bool br, .int .u64 nb, .string dr.name, .int .i64 dr.pos, .slice qa af.length ka, .int .i64 (posP S a : Nat)] 81 (0, 0)) ∧ w17.grownBy W' (some X)) (set16h HD17.out.res _ _ _ _ _ _ _ _ _ _ _ _ _ _ _ _) (fun W' hW => ?_)
        refine bodyPost_ret (res_hand hW.1 rfl _ rfl) rfl ?_
        rw [← HPP.out, HE.out]
        obtain ⟨hA18, hg18⟩ := HD17.out.fin hW.2
        have hxd := HD17.out.xd
        have hwx := HD17.out.wx
        have hkk : ∀ b, D < b → b < w17.heap.size → W'.heap[b]? = w17.heap[b]? ∧ W.heap.size ≤ b := fun b hb hl => ⟨hW.2.block b hl (fun e => by injection e with e; omega), by omega⟩
        exact ⟨_, rfl, ⟨K, [.string u3.name, .string ofu.name, .int .i64 ofu.pos, .string c.word, .bool c.has, .bool c.minus, .int .u64 c.num, .slice q n k, .int .i64 c.pos, .slice q9 ws.length kc9, .bool br, .int .u64 nb, .string dr.name, .int .i64 dr.pos, .slice qa af.length ka, .int .i64 (posP S a : Nat)], rfl, _, _, _, _, _, _, _, _, rfl, ⟨_, rfl, FlP.kept HU17.out hkk⟩, (ListP.kept hkk HW17.out (fun _ _ h => WrapP.kept hkk h)), FlP.kept HA17.out hkk⟩, hA18, hg18⟩
end Go.Proofs.YtbdllefnghddcaaGreatDoor
