/- PARSE: a wrap. -/
import Derived.Test.YtbdllefnghddcaaGreatDoorPPl
import Derived.Test.YtbdllefnghddcaaGreatDoorPMem
namespace Go.Proofs.YtbdllefnghddcaaGreatDoor
open List (length_append)
open Go Go.RowKit
attribute [local go_sem ↓] Go.wp_at_zero Go.wp_at_succ

set_option maxRecDepth 100000 in
set_option maxHeartbeats 16000000 in
set_option linter.unusedSimpArgs false in
theorem twrap_any {W0 W : World} {B : Nat} {T : TypeId} {S : Src} {tv nv brk : Value} {a : Nat} (hC : Cx W0 S tv nv brk) (h : At W0 W B T S tv nv a 0) :
  Calls Tryz.prog 122 #[.pointer (some ⟨B, 0, none⟩)] W (StepPost W0 B T S tv nv brk 0 RepWr W (wrapP S a)) := by
 obtain ⟨PP, hPP⟩ : ∃ PP : Ending → World → Prop, StepPost W0 B T S tv nv brk 0 RepWr W (wrapP S a) = PP := ⟨_, rfl⟩
 rw [hPP]
 have HPP := Lib.hid hPP
 obtain ⟨X, hX⟩ : ∃ X, W.heap.size = X := ⟨_, rfl⟩
 obtain ⟨D, hD⟩ : ∃ D, X + 1 = D := ⟨_, rfl⟩
 obtain ⟨WA, hWA⟩ : ∃ WA, (W.alloc (.cells #[.bool false, .string ⟨#[]⟩, .string ⟨#[]⟩, .slice none 0 0, .slice none 0 0, .bool false, .int .i64 0, .int .i64 0, .slice none 0 0, .int .i64 0] 90)).alloc (.cells #[.bool false, .string ⟨#[]⟩, .string ⟨#[]⟩, .slice none 0 0, .slice none 0 0, .bool false, .int .i64 0, .int .i64 0, .slice none 0 0, .int .i64 0] 90) = WA := ⟨_, rfl⟩
 have hbA : Below W.heap.size W WA := by rw [← hWA]; exact ((Below.refl _ W).alloc (Nat.le_refl _) _).alloc (by simp) _
 have hs1 : (W.alloc (.cells #[.bool false, .string ⟨#[]⟩, .string ⟨#[]⟩, .slice none 0 0, .slice none 0 0, .bool false, .int .i64 0, .int .i64 0, .slice none 0 0, .int .i64 0] 90)).heap.size = D := by rw [World.size_alloc]; omega
 have hzX : WA.heap[X]? = some (.cells #[.bool false, .string ⟨#[]⟩, .string ⟨#[]⟩, .slice none 0 0, .slice none 0 0, .bool false, .int .i64 0, .int .i64 0, .slice none 0 0, .int .i64 0] 90 (0, 0)) := by rw [← hWA, Below.heap_alloc _ _ _ (by rw [hs1]; omega), ← hX]; exact heap_alloc_new W _
 have hzD := aRow_ hWA hs1
 have HD0 : Hid (Dec W0 W WA B X D T 90 S tv nv #[.bool false, .string ⟨#[]⟩, .string ⟨#[]⟩, .slice none 0 0, .slice none 0 0, .bool false, .int .i64 0, .int .i64 0, .slice none 0 0, .int .i64 0] #[.bool false, .string ⟨#[]⟩, .string ⟨#[]⟩, .slice none 0 0, .slice none 0 0, .bool false, .int .i64 0, .int .i64 0, .slice none 0 0, .int .i64 0] a 0) := ⟨h.below hbA, g_of hbA, hzX, hzD, by have := h.lt; omega, by omega, by omega⟩
 have HX := Lib.hid hX
 have HDD := Lib.hid hD
 have HWA := Lib.hid hWA
 have HC := Lib.hid hC
 have HA := Lib.hid h
 have hfew := hC.few
 clear hPP hC h hX hWA hzX hzD hbA hs1 hD
 go_enter Tryz.func122, Tryz.ntmps122
 go_upto_region 1 with fail
 go_upto_region 2 with fail
 simp only [World.size_alloc, HX.out, HDD.out]
 rw [HWA.out]
 obtain ⟨o, ho⟩ : ∃ o, decide (kindP S a = 11) = o := ⟨_, rfl⟩
 obtain ⟨p1, hp1⟩ : ∃ p1, (if kindP S a = 11 then a + 1 else a) = p1 := ⟨_, rfl⟩
 have HT1 := Lib.hid (takeP_of S 11 a)
 have CT := Lib.hid (ttake_any HC.out HD0.out.at_ 11 (by omega))
 rw [ho, hp1] at CT HT1
 clear ho hp1
 go_wp2_with fail
 refine CT.out.mono ?_
 rintro e1 w1 ⟨rfl, hA1, hg1⟩
 have HD1 := Lib.hid (HD0.out.call hA1 hg1)
 clear hA1 hg1 CT
 have k0 := HD1.out.cell (i := 0) rfl
 have fk0 := HD1.out.free 0
 have dl := HD1.out.dlt
 go_upto_region 3 with fail
 refine wp_world (fun W2 => Dec W0 W W2 B X D T 90 S tv nv #[.bool false, .string ⟨#[]⟩, .string ⟨#[]⟩, .slice none 0 0, .slice none 0 0, .bool false, .int .i64 0, .int .i64 0, .slice none 0 0, .int .i64 0] #[.bool o, .string ⟨#[]⟩, .string ⟨#[]⟩, .slice none 0 0, .slice none 0 0, .bool false, .int .i64 0, .int .i64 0, .slice none 0 0, .int .i64 0] p1 0) (HD1.out.set 0 _) (fun W2 hW2 => ?_)
 have HD2 := Lib.hid hW2
 have CN := Lib.hid (tname_any HC.out hW2.at_)
 clear hW2
 clear k0 fk0 dl
 go_wp2_with fail
 cases hn : nameP S p1 with
 | bad p k =>
  have HN := Lib.hid hn
  rw [hn] at CN
  clear hn
  refine CN.out.mono ?_
  rintro e3 w3 ⟨rfl, h1, h2⟩
  have HE : Hid (wrapP S a = .bad p k) := by show wrapP S a = _; rw [wrapP_eq, HT1.out]; show PR.bind (nameP S p1) _ = _; rw [HN.out]; rfl
  refine ⟨rfl, ?_⟩
  rw [← HPP.out, HE.out]
  exact ⟨rfl, h1, g_trans HD2.out.gr h2⟩
 | ok u a1 =>
  have HN := Lib.hid hn
  rw [hn] at CN
  clear hn
  refine CN.out.mono ?_
  rintro e3 w3 ⟨v, rfl, hv, hA3, hg3⟩
  have hv : v = .agg #[.string u.name, .int .i64 u.pos] := hv
  subst hv
  have HD3 := Lib.hid ((HD2.out.call hA3 hg3).below ((Below.refl _ _).alloc (Nat.le_refl _) (.cells #[.string u.name, .int .i64 u.pos] 74)))
  obtain ⟨R, hR⟩ : ∃ R, w3.heap.size = R := ⟨_, rfl⟩
  have hr := heap_alloc_new w3 (.cells #[.string u.name, .int .i64 u.pos] 74)
  rw [hR] at hr
  have hdr : D < R := by have := (HD2.out.call hA3 hg3).dlt; omega
  have HR := Lib.hid hR
  obtain ⟨WR, hWR⟩ : ∃ WR, w3.alloc (.cells #[.string u.name, .int .i64 u.pos] 74) = WR := ⟨_, rfl⟩
  rw [hWR] at HD3 hr
  have HWR := Lib.hid hWR
  clear hA3 hg3 hR hWR CN
  go_upto_region 4 with fail
  rw [HR.out, HWR.out]
  obtain ⟨r0, r1⟩ := row2_ hr
  have rl := (Array.getElem?_eq_some_iff.1 hr).1
  clear hr
  have k1 := HD3.out.cell (i := 1) rfl
  have k9 := HD3.out.cell (i := 9) rfl
  have fk1 := HD3.out.free 1
  have fk9 := HD3.out.free 9
  have dl := HD3.out.dlt
  go_cut [] (fun wx => Hid (Dec W0 W wx B X D T 90 S tv nv #[.bool false, .string ⟨#[]⟩, .string ⟨#[]⟩, .slice none 0 0, .slice none 0 0, .bool false, .int .i64 0, .int .i64 0, .slice none 0 0, .int .i64 0] #[.bool o, .string u.name, .string ⟨#[]⟩, .slice none 0 0, .slice none 0 0, .bool false, .int .i64 0, .int .i64 0, .slice none 0 0, .int .i64 u.pos] a1 0))
  case first =>
   go_region
   all_goals (go_wp2_with fail; go_meet; exact ((HD3.out.set 1 _).set 9 _).below (Below.refl _ _).drew)
  case rest =>
   have HD4 := hcut
   clear hcut r0 r1 rl hdr
   clear k1 fk1 k9 fk9 dl
   obtain ⟨b2, hb2⟩ : ∃ b2, decide (kindP S a1 = 22) = b2 := ⟨_, rfl⟩
   obtain ⟨p2, hp2⟩ : ∃ p2, (if kindP S a1 = 22 then a1 + 1 else a1) = p2 := ⟨_, rfl⟩
   have HT2 := Lib.hid (takeP_of S 22 a1)
   have CT := Lib.hid (ttake_any HC.out HD4.out.at_ 22 (by omega))
   rw [hb2, hp2] at CT HT2
   clear hb2 hp2
   go_wp2_with fail
   refine CT.out.mono ?_
   rintro e5 w5 ⟨rfl, hA5, hg5⟩
   have HD5 := Lib.hid (HD4.out.call hA5 hg5)
   clear hA5 hg5 CT
   go_upto_if 26 with fail
   go_cut [] (fun wx => ∃ (sub : ByteArray) (p3 : Nat), Hid (wrapP S a = (numsP S 2 [] p3).bind (wrapK S o u sub)) ∧ Hid (Dec W0 W wx B X D T 90 S tv nv #[.bool false, .string ⟨#[]⟩, .string ⟨#[]⟩, .slice none 0 0, .slice none 0 0, .bool false, .int .i64 0, .int .i64 0, .slice none 0 0, .int .i64 0] #[.bool o, .string u.name, .string sub, .slice none 0 0, .slice none 0 0, .bool false, .int .i64 0, .int .i64 0, .slice none 0 0, .int .i64 u.pos] p3 0))
   case first =>
    cases b2 with
    | true =>
     have CN := Lib.hid (tname_any HC.out HD5.out.at_)
     go_wp2_with fail
     cases hn : nameP S p2 with
     | bad p k =>
      have HN2 := Lib.hid hn
      rw [hn] at CN
      clear hn
      refine CN.out.mono ?_
      rintro e6 w6 ⟨rfl, h1, h2⟩
      have HE : Hid (wrapP S a = .bad p k) := by show wrapP S a = _; rw [wrapP_eq, HT1.out]; show PR.bind (nameP S p1) _ = _; rw [HN.out]; show PR.bind (takeP S 22 a1) _ = _; rw [HT2.out]; show PR.bind (PR.bind (nameP S p2) _) _ = _; rw [HN2.out]; rfl
      refine ⟨rfl, ?_⟩
      rw [← HPP.out, HE.out]
      exact ⟨rfl, h1, g_trans HD5.out.gr h2⟩
     | ok s p3 =>
      have HN2 := Lib.hid hn
      rw [hn] at CN
      clear hn
      refine CN.out.mono ?_
      rintro e6 w6 ⟨v, rfl, hv, hA6, hg6⟩
      have hv : v = .agg #[.string s.name, .int .i64 s.pos] := hv
      subst hv
      have HD6 := Lib.hid (HD5.out.call hA6 hg6)
      clear hA6 hg6 CN
      have k2 := HD6.out.cell (i := 2) rfl
      have fk2 := HD6.out.free 2
      have dl := HD6.out.dlt
      have hfl := field_use (.string s.name) (.int .i64 s.pos) w6
      go_wp2_with fail
      go_meet
      exact ⟨s.name, p3, by show wrapP S a = _; rw [wrapP_eq, HT1.out]; show PR.bind (nameP S p1) _ = _; rw [HN.out]; show PR.bind (takeP S 22 a1) _ = _; rw [HT2.out]; show PR.bind (PR.bind (nameP S p2) _) _ = _; rw [HN2.out]; rfl, HD6.out.set 2 _⟩
    | false =>
     go_wp2_with fail
     go_meet
     exact ⟨ByteArray.empty, p2, by show wrapP S a = _; rw [wrapP_eq, HT1.out]; show PR.bind (nameP S p1) _ = _; rw [HN.out]; show PR.bind (takeP S 22 a1) _ = _; rw [HT2.out]; rfl, HD5.out⟩
   case rest =>
    obtain ⟨sub, p3, HK0, HD6⟩ := hcut
    clear HD0 HD1 HD2 HD3 HD4 HD5 HT1 HT2 HN
    go_upto_block 0 with fail
    go_cut [] (fun wx => ∃ (nums : List Int) (nq : Option Addr) (nc p4 : Nat), Hid (wrapP S a = wrapK S o u sub nums p4) ∧ Hid (Dec W0 W wx B X D T 90 S tv nv #[.bool false, .string ⟨#[]⟩, .string ⟨#[]⟩, .slice none 0 0, .slice none 0 0, .bool false, .int .i64 0, .int .i64 0, .slice none 0 0, .int .i64 0] #[.bool o, .string u.name, .string sub, .slice nq nums.length nc, .slice none 0 0, .bool false, .int .i64 0, .int .i64 0, .slice none 0 0, .int .i64 u.pos] p4 0) ∧ Hid (NumsP (fun b => D < b) wx (.slice nq nums.length nc) nums))
    case first =>
     go_wp2_with fail
     go_loopw [] (fun wr => ∃ (f p' : Nat) (nq : Option Addr) (nc : Nat) (nums : List Int), nums.length + f = 2 ∧ Hid (wrapP S a = (numsP S f nums p').bind (wrapK S o u sub)) ∧ Hid (Dec W0 W wr B X D T 90 S tv nv #[.bool false, .string ⟨#[]⟩, .string ⟨#[]⟩, .slice none 0 0, .slice none 0 0, .bool false, .int .i64 0, .int .i64 0, .slice none 0 0, .int .i64 0] #[.bool o, .string u.name, .string sub, .slice nq nums.length nc, .slice none 0 0, .bool false, .int .i64 0, .int .i64 0, .slice none 0 0, .int .i64 u.pos] p' 0) ∧ Hid (ORow RNum (D + 1) 75 1 wr (.slice nq nums.length nc) nums)) (fun wr => leftM S B wr)
     case atStart => exact ⟨2, _, none, 0, [], rfl, HK0.out, HD6.out, ORow.nil _ _ _ _ _⟩
     case round =>
      obtain ⟨f, p', nq, nc, nums, hf, HK1, HDL, HNL⟩ := hrel
      have k3 := HDL.out.cell (i := 3) rfl
      have fk3 := HDL.out.free 3
      have dl := HDL.out.dlt
      have HMR := Lib.hid (left_at HDL.out.at_)
      by_cases hn2 : nums.length < 2
      ·obtain ⟨f', rfl⟩ : ∃ f', f = f' + 1 := ⟨f - 1, by omega⟩
       have hlI : (nums.length : Int) < 2 := by omega
       have CK := Lib.hid (tkind_any HC.out HDL.out.at_)
       go_wp2_with fail
       refine CK.out.mono ?_
       rintro e5 w5 ⟨rfl, hb5⟩
       have HD5 := Lib.hid (HDL.out.below hb5)
       have HN5 := Lib.hid (HNL.out.kept goes_num fun b hl _ => hb5.block b hl)
       clear hb5
       clear k3 fk3 dl
       by_cases h2k : kindP S p' = 2
       ·have t2 : ((kindP S p' : Int) == 2) = true := by rw [h2k]; rfl
        have HK2 : Hid (wrapP S a = ((numP S p').bind fun n a => numsP S f' (nums ++ [n]) a).bind (wrapK S o u sub)) := by show wrapP S a = _; rw [HK1.out]; conv => (lhs; unfold numsP); rw [if_pos h2k]
        have CM : Hid (∀ W', Below w5.heap.size w5 W' → Calls Tryz.prog 123 #[.pointer (some ⟨B, 0, none⟩)] W' (StepPost W0 B T S tv nv brk 0 (fun _ _ v n => v = .int .u64 n) W' (numP S p'))) := fun W' hb => tnumber_any HC.out (HD5.out.at_.below hb)
        obtain ⟨i0, hi, hz0, hz1, hz2⟩ := info_of info_u64
        clear h2k
        have k3 := HD5.out.cell (i := 3) rfl
        have fk3 := HD5.out.free 3
        have dl := HD5.out.dlt
        go_upto_region 8 with fail
        cases hq : numP S p' with
        | bad p k =>
         have HQ := Lib.hid hq
         rw [hq] at CM
         clear hq
         have HE : Hid (wrapP S a = .bad p k) := by show wrapP S a = _; rw [HK2.out, HQ.out]; rfl
         refine wp_region_held_drew (S := fun _ => True) (by kernel_rfl) trivial (fun hHeld => ?_)
         refine takeQ_ (i := 0) (v := ?_) rfl (by kernel_rfl) (fun _ _ _ h => h) (by rfl) ?_ (by assumption) ?_
         rotate_left
         focus (intro w' hSw; (try dsimp only at hSw); go_simp; try with_reducible rfl)
         (try simp only [Act.put, puts_])
         refine takeQ_ (i := 2) (v := ?_) rfl (by kernel_rfl) (fun _ _ _ h => h) (by rfl) ?_ (by assumption) ?_
         rotate_left
         focus (intro w' hSw; (try dsimp only at hSw); go_simp; try with_reducible rfl)
         (try simp only [Act.put, puts_])
         refine takeQ_ (i := 3) (v := ?_) rfl (by kernel_rfl) (fun _ _ _ h => h) (by rfl) ?_ (by assumption) ?_
         rotate_left
         focus (intro w' hSw; (try dsimp only at hSw); go_simp; try with_reducible rfl)
         (try simp only [Act.put, puts_])
         refine takeQ_ (i := 4) (v := ?_) rfl (by kernel_rfl) (fun _ _ _ h => h) (by rfl) ?_ (by assumption) ?_
         rotate_left
         focus (intro w' hSw; (try dsimp only at hSw); go_simp; try with_reducible rfl)
         (try simp only [Act.put, puts_])
         refine takeQ_ (i := 5) (v := ?_) rfl (by kernel_rfl) (fun _ _ _ h => h) (by rfl) ?_ (by assumption) ?_
         rotate_left
         focus (intro w' hSw; (try dsimp only at hSw); go_simp; try with_reducible rfl)
         (try simp only [Act.put, puts_])
         refine wpAnyH_ready (rs := [1, 6]) (by kernel_rfl) (by simp) ?_
         refine AllReadyH.cons (o := _) rfl (fun K hK => ?_) ?_
         ·go_simp
          refine hK.out _ _ trivial (fun hHeld => ?_)
          clear hK K
          (try simp only [Act.put, puts_])
          refine wpAnyH_ready (rs := [6]) (by kernel_rfl) (by simp) ?_
          refine AllReadyH.cons (o := _) rfl (fun K hK => ?_) AllReadyH.nil
          go_simp; refine (CM.out _ (Below.refl _ _).drew).mono ?_; rintro e6 w6 ⟨rfl, h1, h2⟩; refine ⟨rfl, ?_⟩; rw [← HPP.out, HE.out]; exact ⟨rfl, h1, g_trans HD5.out.gr (g_trans (g_of (Below.refl _ _).drew) h2)⟩
         refine AllReadyH.cons (o := _) rfl (fun K hK => ?_) AllReadyH.nil
         go_simp; refine (CM.out _ (Below.refl _ _).drew).mono ?_; rintro e6 w6 ⟨rfl, h1, h2⟩; refine ⟨rfl, ?_⟩; rw [← HPP.out, HE.out]; exact ⟨rfl, h1, g_trans HD5.out.gr (g_trans (g_of (Below.refl _ _).drew) h2)⟩
        | ok n6 p6 =>
         have HQ := Lib.hid hq
         have hp6 : p' < p6 := numP_lt hq
         rw [hq] at CM
         clear hq
         have HK3 : Hid (wrapP S a = (numsP S f' (nums ++ [n6]) p6).bind (wrapK S o u sub)) := by show wrapP S a = _; rw [HK2.out, HQ.out]; rfl
         refine wp_region_held_drew (S := fun _ => True) (by kernel_rfl) trivial (fun hHeld => ?_)
         refine takeQ_ (i := 0) (v := ?_) rfl (by kernel_rfl) (fun _ _ _ h => h) (by rfl) ?_ (by assumption) ?_
         rotate_left
         focus (intro w' hSw; (try dsimp only at hSw); go_simp; try with_reducible rfl)
         (try simp only [Act.put, puts_])
         refine takeQ_ (i := 2) (v := ?_) rfl (by kernel_rfl) (fun _ _ _ h => h) (by rfl) ?_ (by assumption) ?_
         rotate_left
         focus (intro w' hSw; (try dsimp only at hSw); go_simp; try with_reducible rfl)
         (try simp only [Act.put, puts_])
         refine takeQ_ (i := 3) (v := ?_) rfl (by kernel_rfl) (fun _ _ _ h => h) (by rfl) ?_ (by assumption) ?_
         rotate_left
         focus (intro w' hSw; (try dsimp only at hSw); go_simp; try with_reducible rfl)
         (try simp only [Act.put, puts_])
         refine takeQ_ (i := 4) (v := ?_) rfl (by kernel_rfl) (fun _ _ _ h => h) (by rfl) ?_ (by assumption) ?_
         rotate_left
         focus (intro w' hSw; (try dsimp only at hSw); go_simp; try with_reducible rfl)
         (try simp only [Act.put, puts_])
         refine takeQ_ (i := 5) (v := ?_) rfl (by kernel_rfl) (fun _ _ _ h => h) (by rfl) ?_ (by assumption) ?_
         rotate_left
         focus (intro w' hSw; (try dsimp only at hSw); go_simp; try with_reducible rfl)
         (try simp only [Act.put, puts_])
         refine wpAnyH_ready (rs := [1, 6]) (by kernel_rfl) (by simp) ?_
         refine AllReadyH.cons (o := _) rfl (fun K hK => ?_) ?_
         ·go_simp
          refine hK.out _ _ trivial (fun hHeld => ?_)
          clear hK K
          (try simp only [Act.put, puts_])
          refine wpAnyH_ready (rs := [6]) (by kernel_rfl) (by simp) ?_
          refine AllReadyH.cons (o := _) rfl (fun K hK => ?_) AllReadyH.nil
          go_simp; refine (CM.out _ (Below.refl _ _).drew).mono ?_; rintro e6 w6 ⟨v6, rfl, hv6, hA6, hg6⟩; have hv6 : v6 = .int .u64 n6 := hv6; subst hv6; have hg6' : w5.grownBy w6 (some B) := g_trans (g_of (Below.refl _ _).drew) hg6; have HD6 := Lib.hid (HD5.out.call hA6 hg6'); have HN6 := Lib.hid (goes_ok goes_num HN5.out hg6' (by have := HD5.out.bx; have := HD5.out.xd; omega)); obtain ⟨css, x1, xo, x3, x4⟩ := HN6.out; have HX2 := Lib.hid xo; have HX3 := Lib.hid x3; have HX4 := Lib.hid x4; have q3 := HD6.out.cell (i := 3) rfl; have qd := HD6.out.dlt; clear xo x3 x4 hA6 hg6 hg6' hv6; dsimp only
          refine hK.out _ _ trivial (fun hHeld => ?_)
          clear hK K
          (try simp only [Act.put, puts_])
          refine wpAnyH_ready (rs := [7]) (by kernel_rfl) (by simp) ?_
          refine AllReadyH.cons (o := _) rfl (fun K hK => ?_) AllReadyH.nil
          go_simp
          refine hK.out _ _ trivial (fun hHeld => ?_)
          clear hK K
          (try simp only [Act.put, puts_])
          refine wpAnyH_ready (rs := [8]) (by kernel_rfl) (by simp) ?_
          refine AllReadyH.cons (o := _) rfl (fun K hK => ?_) AllReadyH.nil
          (refine step_append_lies _ (by rfl) _ _ _ (by rfl) (D + 1) 75 i0 (.int .u64 0) 1 8 Tryz.underlying88 hi hz0 hz1 hz2 rfl (by decide) (.slice nq nums.length nc) nums.length css.flatten (by rfl) (HX2.out.alloc _) ⟨w6.heap.size, 0, none⟩ 1 1 [.int .u64 n6] (by rfl) rfl (news_flat w6 [.int .u64 n6] _) (by intro u hu; simp at hu; subst hu; rfl) (by decide) (by unfold maxLen; omega) (by omega) (by have := HD6.out.dlt; rw [World.size_alloc]; omega) (w6.heap.size + 1) (by simp) ?_); intro g2 cap2 w1' hown' hgrow hat hlt2; obtain ⟨HF1, HF2, y3, yf, yl⟩ := num_step HD6.out HN6.out x1 HX3.out HX4.out hgrow hat hown'; have HFN1 := Lib.hid HF1; have HFN2 := Lib.hid HF2; clear HF1 HF2 hown' hgrow hat
          refine hK.out _ _ trivial (fun hHeld => ?_)
          clear hK K
          (try simp only [Act.put, puts_])
          refine takeQ_ (i := 9) (v := ?_) rfl (by kernel_rfl) (fun _ _ _ h => h) (by rfl) ?_ (by assumption) ?_
          rotate_left
          focus (intro w' hSw; (try dsimp only at hSw); go_simp; try with_reducible rfl)
          (try simp only [Act.put, puts_])
          refine wpAnyH_ready (rs := [10]) (by kernel_rfl) (by simp) ?_
          refine AllReadyH.cons (o := _) rfl (fun K hK => ?_) AllReadyH.nil
          go_simp
          refine hK.out _ _ trivial (fun hHeld => ?_)
          clear hK K
          (try simp only [Act.put, puts_])
          refine wpAnyH_done (by kernel_rfl) ?_ _
          go_simp
          go_wp2_with fail
          go_roundw
          case rel => exact ⟨f', p6, some ⟨g2, 0, none⟩, cap2, nums ++ [n6], by rw [length_append, List.length_singleton]; omega, HK3.out, by rw [length_append, List.length_singleton]; exact HFN1.out, by rw [length_append, List.length_singleton]; exact HFN2.out⟩
          case measure => rw [left_at HFN1.out.at_, HMR.out]; have := HFN1.out.at_.in_; omega
         refine AllReadyH.cons (o := _) rfl (fun K hK => ?_) AllReadyH.nil
         go_simp; refine (CM.out _ (Below.refl _ _).drew).mono ?_; rintro e6 w6 ⟨v6, rfl, hv6, hA6, hg6⟩; have hv6 : v6 = .int .u64 n6 := hv6; subst hv6; have hg6' : w5.grownBy w6 (some B) := g_trans (g_of (Below.refl _ _).drew) hg6; have HD6 := Lib.hid (HD5.out.call hA6 hg6'); have HN6 := Lib.hid (goes_ok goes_num HN5.out hg6' (by have := HD5.out.bx; have := HD5.out.xd; omega)); obtain ⟨css, x1, xo, x3, x4⟩ := HN6.out; have HX2 := Lib.hid xo; have HX3 := Lib.hid x3; have HX4 := Lib.hid x4; have q3 := HD6.out.cell (i := 3) rfl; have qd := HD6.out.dlt; clear xo x3 x4 hA6 hg6 hg6' hv6; dsimp only
         refine hK.out _ _ trivial (fun hHeld => ?_)
         clear hK K
         (try simp only [Act.put, puts_])
         refine wpAnyH_ready (rs := [1, 7]) (by kernel_rfl) (by simp) ?_
         refine AllReadyH.cons (o := _) rfl (fun K hK => ?_) ?_
         ·go_simp
          refine hK.out _ _ trivial (fun hHeld => ?_)
          clear hK K
          (try simp only [Act.put, puts_])
          refine wpAnyH_ready (rs := [7]) (by kernel_rfl) (by simp) ?_
          refine AllReadyH.cons (o := _) rfl (fun K hK => ?_) AllReadyH.nil
          go_simp
          refine hK.out _ _ trivial (fun hHeld => ?_)
          clear hK K
          (try simp only [Act.put, puts_])
          refine wpAnyH_ready (rs := [8]) (by kernel_rfl) (by simp) ?_
          refine AllReadyH.cons (o := _) rfl (fun K hK => ?_) AllReadyH.nil
          (refine step_append_lies _ (by rfl) _ _ _ (by rfl) (D + 1) 75 i0 (.int .u64 0) 1 8 Tryz.underlying88 hi hz0 hz1 hz2 rfl (by decide) (.slice nq nums.length nc) nums.length css.flatten (by rfl) (HX2.out.alloc _) ⟨w6.heap.size, 0, none⟩ 1 1 [.int .u64 n6] (by rfl) rfl (news_flat w6 [.int .u64 n6] _) (by intro u hu; simp at hu; subst hu; rfl) (by decide) (by unfold maxLen; omega) (by omega) (by have := HD6.out.dlt; rw [World.size_alloc]; omega) (w6.heap.size + 1) (by simp) ?_); intro g2 cap2 w1' hown' hgrow hat hlt2; obtain ⟨HF1, HF2, y3, yf, yl⟩ := num_step HD6.out HN6.out x1 HX3.out HX4.out hgrow hat hown'; have HFN1 := Lib.hid HF1; have HFN2 := Lib.hid HF2; clear HF1 HF2 hown' hgrow hat
          refine hK.out _ _ trivial (fun hHeld => ?_)
          clear hK K
          (try simp only [Act.put, puts_])
          refine takeQ_ (i := 9) (v := ?_) rfl (by kernel_rfl) (fun _ _ _ h => h) (by rfl) ?_ (by assumption) ?_
          rotate_left
          focus (intro w' hSw; (try dsimp only at hSw); go_simp; try with_reducible rfl)
          (try simp only [Act.put, puts_])
          refine wpAnyH_ready (rs := [10]) (by kernel_rfl) (by simp) ?_
          refine AllReadyH.cons (o := _) rfl (fun K hK => ?_) AllReadyH.nil
          go_simp
          refine hK.out _ _ trivial (fun hHeld => ?_)
          clear hK K
          (try simp only [Act.put, puts_])
          refine wpAnyH_done (by kernel_rfl) ?_ _
          go_simp
          go_wp2_with fail
          go_roundw
          case rel => exact ⟨f', p6, some ⟨g2, 0, none⟩, cap2, nums ++ [n6], by rw [length_append, List.length_singleton]; omega, HK3.out, by rw [length_append, List.length_singleton]; exact HFN1.out, by rw [length_append, List.length_singleton]; exact HFN2.out⟩
          case measure => rw [left_at HFN1.out.at_, HMR.out]; have := HFN1.out.at_.in_; omega
         refine AllReadyH.cons (o := _) rfl (fun K hK => ?_) AllReadyH.nil
         go_simp
         refine hK.out _ _ trivial (fun hHeld => ?_)
         clear hK K
         (try simp only [Act.put, puts_])
         refine wpAnyH_ready (rs := [1]) (by kernel_rfl) (by simp) ?_
         refine AllReadyH.cons (o := _) rfl (fun K hK => ?_) AllReadyH.nil
         go_simp
         refine hK.out _ _ trivial (fun hHeld => ?_)
         clear hK K
         (try simp only [Act.put, puts_])
         refine wpAnyH_ready (rs := [8]) (by kernel_rfl) (by simp) ?_
         refine AllReadyH.cons (o := _) rfl (fun K hK => ?_) AllReadyH.nil
         (refine step_append_lies _ (by rfl) _ _ _ (by rfl) (D + 1) 75 i0 (.int .u64 0) 1 8 Tryz.underlying88 hi hz0 hz1 hz2 rfl (by decide) (.slice nq nums.length nc) nums.length css.flatten (by rfl) (HX2.out.alloc _) ⟨w6.heap.size, 0, none⟩ 1 1 [.int .u64 n6] (by rfl) rfl (news_flat w6 [.int .u64 n6] _) (by intro u hu; simp at hu; subst hu; rfl) (by decide) (by unfold maxLen; omega) (by omega) (by have := HD6.out.dlt; rw [World.size_alloc]; omega) (w6.heap.size + 1) (by simp) ?_); intro g2 cap2 w1' hown' hgrow hat hlt2; obtain ⟨HF1, HF2, y3, yf, yl⟩ := num_step HD6.out HN6.out x1 HX3.out HX4.out hgrow hat hown'; have HFN1 := Lib.hid HF1; have HFN2 := Lib.hid HF2; clear HF1 HF2 hown' hgrow hat
         refine hK.out _ _ trivial (fun hHeld => ?_)
         clear hK K
         (try simp only [Act.put, puts_])
         refine takeQ_ (i := 9) (v := ?_) rfl (by kernel_rfl) (fun _ _ _ h => h) (by rfl) ?_ (by assumption) ?_
         rotate_left
         focus (intro w' hSw; (try dsimp only at hSw); go_simp; try with_reducible rfl)
         (try simp only [Act.put, puts_])
         refine wpAnyH_ready (rs := [10]) (by kernel_rfl) (by simp) ?_
         refine AllReadyH.cons (o := _) rfl (fun K hK => ?_) AllReadyH.nil
         go_simp
         refine hK.out _ _ trivial (fun hHeld => ?_)
         clear hK K
         (try simp only [Act.put, puts_])
         refine wpAnyH_done (by kernel_rfl) ?_ _
         go_simp
         go_wp2_with fail
         go_roundw
         case rel => exact ⟨f', p6, some ⟨g2, 0, none⟩, cap2, nums ++ [n6], by rw [length_append, List.length_singleton]; omega, HK3.out, by rw [length_append, List.length_singleton]; exact HFN1.out, by rw [length_append, List.length_singleton]; exact HFN2.out⟩
         case measure => rw [left_at HFN1.out.at_, HMR.out]; have := HFN1.out.at_.in_; omega
       ·have t2 : ((kindP S p' : Int) == 2) = false := by rw [beq_eq_false_iff_ne]; omega
        have HK : Hid (wrapP S a = wrapK S o u sub nums p') := by show wrapP S a = _; rw [HK1.out]; unfold numsP; rw [if_neg h2k]; rfl
        have HN6 := Lib.hid (num_list HN5.out)
        clear h2k
        go_wp2_with fail
        go_meet
        exact ⟨nums, nq, nc, p', HK.out, HD5.out, HN6.out⟩
      ·obtain rfl : f = 0 := by omega
       have hlI : ¬ (nums.length : Int) < 2 := by omega
       have HK : Hid (wrapP S a = wrapK S o u sub nums p') := by show wrapP S a = _; rw [HK1.out]; rfl
       have HN6 := Lib.hid (num_list HNL.out)
       go_wp2_with fail
       go_meet
       exact ⟨nums, nq, nc, p', HK.out, HDL.out, HN6.out⟩
    case rest =>
     obtain ⟨nums, nq, nc, p4, HK, HD7, HN7⟩ := hcut
     obtain ⟨b5, hb5⟩ : ∃ b5, decide (kindP S p4 = 5) = b5 := ⟨_, rfl⟩
     obtain ⟨p5, hp5⟩ : ∃ p5, (if kindP S p4 = 5 then p4 + 1 else p4) = p5 := ⟨_, rfl⟩
     have HT5 := Lib.hid (takeP_of S 5 p4)
     have CT := Lib.hid (ttake_any HC.out HD7.out.at_ 5 (by omega))
     rw [hb5, hp5] at CT HT5
     clear hb5 hp5
     go_wp2_with fail
     refine CT.out.mono ?_
     rintro e8 w8 ⟨rfl, hA8, hg8⟩
     have HD8 := Lib.hid (HD7.out.call hA8 hg8)
     have HN8 := Lib.hid (FlP.kept HN7.out (HD7.out.stays hg8))
     clear hA8 hg8 CT
     go_upto_if 60 with fail
     go_cut [] (fun wx => ∃ (us : List Us) (q : Option Addr) (c p6 : Nat), Hid (wrapP S a = wrapL S o u sub nums us p6) ∧ Hid (Dec W0 W wx B X D T 90 S tv nv #[.bool false, .string ⟨#[]⟩, .string ⟨#[]⟩, .slice none 0 0, .slice none 0 0, .bool false, .int .i64 0, .int .i64 0, .slice none 0 0, .int .i64 0] #[.bool o, .string u.name, .string sub, .slice nq nums.length nc, .slice q us.length c, .bool false, .int .i64 0, .int .i64 0, .slice none 0 0, .int .i64 u.pos] p6 0) ∧ Hid (NumsP (fun b => D < b) wx (.slice nq nums.length nc) nums) ∧ Hid (UsP (fun b => D < b) wx (.slice q us.length c) us))
     case first =>
      cases b5 with
      | true =>
       have CL := Lib.hid (tlist_any HC.out HD8.out.at_)
       go_wp2_with fail
       cases hl : listP S p5 with
       | bad p k =>
        have HL := Lib.hid hl
        rw [hl] at CL
        clear hl
        refine CL.out.mono ?_
        rintro e9 w9 ⟨rfl, h1, h2⟩
        have HE : Hid (wrapP S a = .bad p k) := by show wrapP S a = _; rw [HK.out]; unfold wrapK; rw [HT5.out]; show PR.bind (listP S p5) _ = _; rw [HL.out]; rfl
        refine ⟨rfl, ?_⟩
        rw [← HPP.out, HE.out]
        exact ⟨rfl, h1, g_trans HD8.out.gr h2⟩
       | ok us p6 =>
        have HL := Lib.hid hl
        rw [hl] at CL
        clear hl
        refine CL.out.mono ?_
        rintro e9 w9 ⟨v9, rfl, hv9, hA9, hg9⟩
        obtain ⟨q, c, rfl⟩ : ∃ q c, v9 = .slice q us.length c := FlP.form hv9
        have HD9 := Lib.hid (HD8.out.call hA9 hg9)
        have hdl8 := HD8.out.dlt
        have HU9 : Hid (UsP (fun b => D < b) w9 (.slice q us.length c) us) := FlP.kept hv9 fun b hb _ => ⟨rfl, by omega⟩
        have HN9 := Lib.hid (FlP.kept HN8.out (HD8.out.stays hg9))
        clear hA9 hg9 hv9 CL
        have k4 := HD9.out.cell (i := 4) rfl
        have fk4 := HD9.out.free 4
        have dl := HD9.out.dlt
        go_wp2_with fail
        go_meet
        exact ⟨us, q, c, p6, by show wrapP S a = _; rw [HK.out]; unfold wrapK; rw [HT5.out]; show PR.bind (listP S p5) _ = _; rw [HL.out]; rfl, HD9.out.set 4 _, FlP.kept HN9.out stays_set, FlP.kept HU9.out stays_set⟩
      | false =>
       go_wp2_with fail
       go_meet
       exact ⟨[], none, 0, p5, by show wrapP S a = _; rw [HK.out]; unfold wrapK; rw [HT5.out]; rfl, HD8.out, HN8.out, FlP.nil _ _ _⟩
     case rest =>
      obtain ⟨us, q, c, p6, HL, HD10, HN10, HU10⟩ := hcut
      clear HD6 HD7 HN7 HD8 HN8 HT5 HK HK0
      have CT := Lib.hid (ttake_any HC.out HD10.out.at_ 13 (by omega))
      by_cases h13 : kindP S p6 = 13
      ·rw [decide_eq_true h13, if_pos h13] at CT
       have H13 := Lib.hid h13
       clear h13
       go_wp2_with fail
       refine CT.out.mono ?_
       rintro e11 w11 ⟨rfl, hA11, hg11⟩
       have HD11 := Lib.hid (HD10.out.call hA11 hg11)
       have HN11 := Lib.hid (FlP.kept HN10.out (HD10.out.stays hg11))
       have HU11 := Lib.hid (FlP.kept HU10.out (HD10.out.stays hg11))
       clear hA11 hg11 CT
       have k5 := HD11.out.cell (i := 5) rfl
       have fk5 := HD11.out.free 5
       have dl := HD11.out.dlt
       go_upto_region 12 with fail
       refine wp_world (fun W12 => Dec W0 W W12 B X D T 90 S tv nv #[.bool false, .string ⟨#[]⟩, .string ⟨#[]⟩, .slice none 0 0, .slice none 0 0, .bool false, .int .i64 0, .int .i64 0, .slice none 0 0, .int .i64 0] #[.bool o, .string u.name, .string sub, .slice nq nums.length nc, .slice q us.length c, .bool true, .int .i64 0, .int .i64 0, .slice none 0 0, .int .i64 u.pos] (p6 + 1) 0 ∧ NumsP (fun b => D < b) W12 (.slice nq nums.length nc) nums ∧ UsP (fun b => D < b) W12 (.slice q us.length c) us) ⟨HD11.out.set 5 _, FlP.kept HN11.out stays_set, FlP.kept HU11.out stays_set⟩ (fun W12 hW12 => ?_)
       have HD12 := Lib.hid hW12.1
       have HN12 := Lib.hid hW12.2.1
       have HU12 := Lib.hid hW12.2.2
       clear hW12
       clear k5 fk5 dl
       have k5 := HD12.out.cell (i := 5) rfl
       have fk5 := HD12.out.free 5
       have dl := HD12.out.dlt
       have CE := Lib.hid (teither_any (W := W12) HC.out HD12.out.at_ (fuel S) fun W' b h' _ => tboth_any HC.out h' (fuel S) fun W'' b' h'' _ => tone_any (fuel S) HC.out h'' (by omega) (by unfold fuel; omega))
       go_wp2_with fail
       cases hwq : wantW S ((p6 + 1)) with
       | bad p k =>
        have HWQ := Lib.hid hwq
        refine (show Calls _ _ _ _ (StepPost W0 B T S tv nv brk 0 RepW W12 (wantW S (p6 + 1))) from CE.out).mono ?_
        rw [hwq]
        rintro e12 w12 ⟨rfl, h1, h2⟩
        have HE : Hid (wrapP S a = .bad p k) := by show wrapP S a = _; rw [HL.out]; show wrapL S o u sub nums us p6 = _; unfold wrapL; rw [takeP_of]; rw [decide_eq_true H13.out, if_pos H13.out]; show PR.bind (wantW S (p6 + 1)) _ = _; rw [HWQ.out]; rfl
        refine ⟨rfl, ?_⟩
        rw [← HPP.out, HE.out]
        exact ⟨rfl, h1, g_trans HD12.out.gr h2⟩
       | ok wt p8 =>
        have HWQ := Lib.hid hwq
        have HE0 : Hid (wrapL S o u sub nums us p6 = .ok ⟨o, u.name, sub, nums, us, true, wt, u.pos⟩ p8) := by show wrapL S o u sub nums us p6 = _; unfold wrapL; rw [takeP_of]; rw [decide_eq_true H13.out, if_pos H13.out]; show PR.bind (wantW S (p6 + 1)) _ = _; rw [HWQ.out]; rfl
        refine (show Calls _ _ _ _ (StepPost W0 B T S tv nv brk 0 RepW W12 (wantW S (p6 + 1))) from CE.out).mono ?_
        rw [hwq]
        rintro e12 w12 ⟨v12, rfl, ⟨wq, wn, wc, rfl, hv12⟩, hA12, hg12⟩
        have HD13 := Lib.hid (HD12.out.call hA12 hg12)
        have hdl12 := HD12.out.dlt
        have HV13 : Hid (RWt (fun b => D < b) w12 [.int .i64 wt.op, .int .i64 wt.num, .slice wq wn wc] wt) := goes_wt _ _ _ _ (fun b hb _ => ⟨rfl, by omega⟩) _ _ hv12
        have HN13 := Lib.hid (FlP.kept HN12.out (HD12.out.stays hg12))
        have HU13 := Lib.hid (FlP.kept HU12.out (HD12.out.stays hg12))
        clear hwq hA12 hg12 hv12 CE
        clear k5 fk5 dl
        have k6 := HD13.out.cell (i := 6) rfl
        have k7 := HD13.out.cell (i := 7) rfl
        have k8 := HD13.out.cell (i := 8) rfl
        have fk6 := HD13.out.free 6
        have fk7 := HD13.out.free 7
        have fk8 := HD13.out.free 8
        have dl := HD13.out.dlt
        go_upto_region 14 with fail
        refine wp_world (fun W14 => Dec W0 W W14 B X D T 90 S tv nv #[.bool false, .string ⟨#[]⟩, .string ⟨#[]⟩, .slice none 0 0, .slice none 0 0, .bool false, .int .i64 0, .int .i64 0, .slice none 0 0, .int .i64 0] #[.bool o, .string u.name, .string sub, .slice nq nums.length nc, .slice q us.length c, .bool true, .int .i64 wt.op, .int .i64 wt.num, .slice wq wn wc, .int .i64 u.pos] p8 0 ∧ NumsP (fun b => D < b) W14 (.slice nq nums.length nc) nums ∧ UsP (fun b => D < b) W14 (.slice q us.length c) us ∧ RWt (fun b => D < b) W14 [.int .i64 wt.op, .int .i64 wt.num, .slice wq wn wc] wt) ⟨((HD13.out.set 6 _).set 7 _).set 8 _, FlP.kept (FlP.kept (FlP.kept HN13.out stays_set) stays_set) stays_set, FlP.kept (FlP.kept (FlP.kept HU13.out stays_set) stays_set) stays_set, goes_wt _ _ _ _ stays_set _ _ (goes_wt _ _ _ _ stays_set _ _ (goes_wt _ _ _ _ stays_set _ _ HV13.out))⟩ (fun W14 hW14 => ?_)
        have HD14 := Lib.hid hW14.1
        have HN14 := Lib.hid hW14.2.1
        have HU14 := Lib.hid hW14.2.2.1
        have HV14 := Lib.hid hW14.2.2.2
        clear hW14
        clear k6 fk6 k7 fk7 k8 fk8 dl
        have HE : Hid (wrapP S a = .ok ⟨o, u.name, sub, nums, us, true, wt, u.pos⟩ (p8)) := by show wrapP S a = _; rw [HL.out]; exact HE0.out
        have k0 := HD14.out.cell (i := 0) rfl
        have k1 := HD14.out.cell (i := 1) rfl
        have k2 := HD14.out.cell (i := 2) rfl
        have k3 := HD14.out.cell (i := 3) rfl
        have k4 := HD14.out.cell (i := 4) rfl
        have k5 := HD14.out.cell (i := 5) rfl
        have k6 := HD14.out.cell (i := 6) rfl
        have k7 := HD14.out.cell (i := 7) rfl
        have k8 := HD14.out.cell (i := 8) rfl
        have k9 := HD14.out.cell (i := 9) rfl
        have fk0 := HD14.out.free 0
        have fk1 := HD14.out.free 1
        have fk2 := HD14.out.free 2
        have fk3 := HD14.out.free 3
        have fk4 := HD14.out.free 4
        have fk5 := HD14.out.free 5
        have fk6 := HD14.out.free 6
        have fk7 := HD14.out.free 7
        have fk8 := HD14.out.free 8
        have fk9 := HD14.out.free 9
        have dl := HD14.out.dlt
        have z0 := HD14.out.rcell (i := 0) rfl
        have z1 := HD14.out.rcell (i := 1) rfl
        have z2 := HD14.out.rcell (i := 2) rfl
        have z3 := HD14.out.rcell (i := 3) rfl
        have z4 := HD14.out.rcell (i := 4) rfl
        have z5 := HD14.out.rcell (i := 5) rfl
        have z6 := HD14.out.rcell (i := 6) rfl
        have z7 := HD14.out.rcell (i := 7) rfl
        have z8 := HD14.out.rcell (i := 8) rfl
        have z9 := HD14.out.rcell (i := 9) rfl
        have fz0 := HD14.out.rfree 0
        have fz1 := HD14.out.rfree 1
        have fz2 := HD14.out.rfree 2
        have fz3 := HD14.out.rfree 3
        have fz4 := HD14.out.rfree 4
        have fz5 := HD14.out.rfree 5
        have fz6 := HD14.out.rfree 6
        have fz7 := HD14.out.rfree 7
        have fz8 := HD14.out.rfree 8
        have fz9 := HD14.out.rfree 9
        have xl := (Array.getElem?_eq_some_iff.1 HD14.out.res).1
        go_wp2_with fail
        refine wp_post (fun W' => W'.heap[X]? = some (.cells #[.bool o, .string u.name, .string sub, .slice nq nums.length nc, .slice q us.length c, .bool true, .int .i64 wt.op, .int .i64 wt.num, .slice wq wn wc, .int .i64 u.pos] 90 (0, 0)) ∧ W14.grownBy W' (some X)) (set10w HD14.out.res _ _ _ _ _ _ _ _ _ _) (fun W' hW => ?_)
        refine bodyPost_ret (res_wrap hW.1 rfl _ rfl) rfl ?_
        rw [← HPP.out, HE.out]
        obtain ⟨hA9, hg9⟩ := HD14.out.fin hW.2
        have hxd := HD14.out.xd
        have hwx := HD14.out.wx
        have hkk : ∀ b, D < b → b < W14.heap.size → W'.heap[b]? = W14.heap[b]? ∧ W.heap.size ≤ b := fun b hb hl => ⟨hW.2.block b hl (fun e => by injection e with e; omega), by omega⟩
        obtain ⟨kw, hkw⟩ := HV14.out
        exact ⟨_, rfl, ⟨kw, [.bool o, .string u.name, .string sub, .slice nq nums.length nc, .slice q us.length c, .bool true, .int .i64 wt.op, .int .i64 wt.num, .slice wq wn wc, .int .i64 u.pos], rfl, _, _, _, _, _, rfl, FlP.kept HN14.out hkk, FlP.kept HU14.out hkk, hkw.kept hkk⟩, hA9, hg9⟩
      ·rw [decide_eq_false h13, if_neg h13] at CT
       have H13 := Lib.hid h13
       clear h13
       go_wp2_with fail
       refine CT.out.mono ?_
       rintro e11 w11 ⟨rfl, hA11, hg11⟩
       have HD11 := Lib.hid (HD10.out.call hA11 hg11)
       have HN11 := Lib.hid (FlP.kept HN10.out (HD10.out.stays hg11))
       have HU11 := Lib.hid (FlP.kept HU10.out (HD10.out.stays hg11))
       clear hA11 hg11 CT
       have k5 := HD11.out.cell (i := 5) rfl
       have fk5 := HD11.out.free 5
       have dl := HD11.out.dlt
       go_upto_region 12 with fail
       refine wp_world (fun W12 => Dec W0 W W12 B X D T 90 S tv nv #[.bool false, .string ⟨#[]⟩, .string ⟨#[]⟩, .slice none 0 0, .slice none 0 0, .bool false, .int .i64 0, .int .i64 0, .slice none 0 0, .int .i64 0] #[.bool o, .string u.name, .string sub, .slice nq nums.length nc, .slice q us.length c, .bool false, .int .i64 0, .int .i64 0, .slice none 0 0, .int .i64 u.pos] p6 0 ∧ NumsP (fun b => D < b) W12 (.slice nq nums.length nc) nums ∧ UsP (fun b => D < b) W12 (.slice q us.length c) us) ⟨HD11.out.set 5 _, FlP.kept HN11.out stays_set, FlP.kept HU11.out stays_set⟩ (fun W12 hW12 => ?_)
       have HD12 := Lib.hid hW12.1
       have HN12 := Lib.hid hW12.2.1
       have HU12 := Lib.hid hW12.2.2
       clear hW12
       clear k5 fk5 dl
       have k5 := HD12.out.cell (i := 5) rfl
       have fk5 := HD12.out.free 5
       have dl := HD12.out.dlt
       have HE0 : Hid (wrapL S o u sub nums us p6 = .ok ⟨o, u.name, sub, nums, us, false, wtZ, u.pos⟩ p6) := by show wrapL S o u sub nums us p6 = _; unfold wrapL; rw [takeP_of]; rw [decide_eq_false H13.out, if_neg H13.out]; rfl
       go_upto_region 14 with fail
       clear k5 fk5 dl
       have HE : Hid (wrapP S a = .ok ⟨o, u.name, sub, nums, us, false, wtZ, u.pos⟩ (p6)) := by show wrapP S a = _; rw [HL.out]; exact HE0.out
       have k0 := HD12.out.cell (i := 0) rfl
       have k1 := HD12.out.cell (i := 1) rfl
       have k2 := HD12.out.cell (i := 2) rfl
       have k3 := HD12.out.cell (i := 3) rfl
       have k4 := HD12.out.cell (i := 4) rfl
       have k5 := HD12.out.cell (i := 5) rfl
       have k6 := HD12.out.cell (i := 6) rfl
       have k7 := HD12.out.cell (i := 7) rfl
       have k8 := HD12.out.cell (i := 8) rfl
       have k9 := HD12.out.cell (i := 9) rfl
       have fk0 := HD12.out.free 0
       have fk1 := HD12.out.free 1
       have fk2 := HD12.out.free 2
       have fk3 := HD12.out.free 3
       have fk4 := HD12.out.free 4
       have fk5 := HD12.out.free 5
       have fk6 := HD12.out.free 6
       have fk7 := HD12.out.free 7
       have fk8 := HD12.out.free 8
       have fk9 := HD12.out.free 9
       have dl := HD12.out.dlt
       have z0 := HD12.out.rcell (i := 0) rfl
       have z1 := HD12.out.rcell (i := 1) rfl
       have z2 := HD12.out.rcell (i := 2) rfl
       have z3 := HD12.out.rcell (i := 3) rfl
       have z4 := HD12.out.rcell (i := 4) rfl
       have z5 := HD12.out.rcell (i := 5) rfl
       have z6 := HD12.out.rcell (i := 6) rfl
       have z7 := HD12.out.rcell (i := 7) rfl
       have z8 := HD12.out.rcell (i := 8) rfl
       have z9 := HD12.out.rcell (i := 9) rfl
       have fz0 := HD12.out.rfree 0
       have fz1 := HD12.out.rfree 1
       have fz2 := HD12.out.rfree 2
       have fz3 := HD12.out.rfree 3
       have fz4 := HD12.out.rfree 4
       have fz5 := HD12.out.rfree 5
       have fz6 := HD12.out.rfree 6
       have fz7 := HD12.out.rfree 7
       have fz8 := HD12.out.rfree 8
       have fz9 := HD12.out.rfree 9
       have xl := (Array.getElem?_eq_some_iff.1 HD12.out.res).1
       go_wp2_with fail
       refine wp_post (fun W' => W'.heap[X]? = some (.cells #[.bool o, .string u.name, .string sub, .slice nq nums.length nc, .slice q us.length c, .bool false, .int .i64 0, .int .i64 0, .slice none 0 0, .int .i64 u.pos] 90 (0, 0)) ∧ W12.grownBy W' (some X)) (set10w HD12.out.res _ _ _ _ _ _ _ _ _ _) (fun W' hW => ?_)
       refine bodyPost_ret (res_wrap hW.1 rfl _ rfl) rfl ?_
       rw [← HPP.out, HE.out]
       obtain ⟨hA9, hg9⟩ := HD12.out.fin hW.2
       have hxd := HD12.out.xd
       have hwx := HD12.out.wx
       have hkk : ∀ b, D < b → b < W12.heap.size → W'.heap[b]? = W12.heap[b]? ∧ W.heap.size ≤ b := fun b hb hl => ⟨hW.2.block b hl (fun e => by injection e with e; omega), by omega⟩
       obtain ⟨kw, hkw⟩ := (leaf_wt (P := fun b => D < b) (W := W12) (wd := wtZ) rfl)
       exact ⟨_, rfl, ⟨kw, [.bool o, .string u.name, .string sub, .slice nq nums.length nc, .slice q us.length c, .bool false, .int .i64 0, .int .i64 0, .slice none 0 0, .int .i64 u.pos], rfl, _, _, _, _, _, rfl, FlP.kept HN12.out hkk, FlP.kept HU12.out hkk, hkw.kept hkk⟩, hA9, hg9⟩
end Go.Proofs.YtbdllefnghddcaaGreatDoor
