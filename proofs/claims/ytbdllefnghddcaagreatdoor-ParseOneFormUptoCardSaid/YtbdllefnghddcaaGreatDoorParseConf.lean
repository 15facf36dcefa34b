/- PARSE: a configuration. -/
import Derived.Test.YtbdllefnghddcaaGreatDoorParseRoute
import Derived.Test.YtbdllefnghddcaaGreatDoorParseHand
import Derived.Test.YtbdllefnghddcaaGreatDoorPPl
import Derived.Test.YtbdllefnghddcaaGreatDoorPMem
namespace Go.Proofs.YtbdllefnghddcaaGreatDoor
open List (length_append)
open Go Go.RowKit
attribute [local go_sem ↓] Go.wp_at_zero Go.wp_at_succ

def RepT (P : Nat → Prop) (w : World) (v : Value) (x : TreeT) : Prop := ∃ (k : Nat) (vh vr : Value), v = .agg #[vh, vr] ∧ TreeP P w k vh vr x
theorem uni {α : Type} (Rk : Nat → List Value → α → Prop) (hm : ∀ k d cs x, Rk k cs x → Rk (k + d) cs x) : ∀ (xs : List α) (css : List (List Value)), css.length = xs.length → (∀ (j : Nat) (cs : List Value) (x : α), css[j]? = some cs → xs[j]? = some x → ∃ k, Rk k cs x) → ∃ K, ∀ (j : Nat) (cs : List Value) (x : α), css[j]? = some cs → xs[j]? = some x → Rk K cs x
 | [], _, _, _ => ⟨0, fun j cs x _ h => by simp at h⟩
 | x :: xs, [], h, _ => by cases h
 | x :: xs, c :: css, hl, h => by
  obtain ⟨K, hK⟩ := uni Rk hm xs css (by simpa using hl) fun j cs y h1 h2 => h (j + 1) cs y h1 h2
  obtain ⟨k, hk⟩ := h 0 c x rfl rfl
  refine ⟨k + K, fun j cs y h1 h2 => ?_⟩
  cases j with
  | zero => injection h1 with h1; injection h2 with h2; subst h1; subst h2; exact hm _ _ _ _ hk
  | succ j =>
   have := hm _ k _ _ (hK j cs y h1 h2)
   rwa [Nat.add_comm] at this
theorem HandP.mono {P : Nat → Prop} {w : World} {k : Nat} {cs : List Value} {x : HandT} (h : HandP P w k cs x) (d : Nat) : HandP P w (k + d) cs x := by
 obtain ⟨c0, c1, c2, c3, c4, c5, v, u, e, h1, h2, h3⟩ := h
 exact ⟨c0, c1, c2, c3, c4, c5, v, u, e, h1, h2.kept (fun b hb _ => ⟨rfl, hb⟩) (fun _ _ h => h.mono d), h3⟩
theorem RouteP.mono {P : Nat → Prop} {w : World} {k : Nat} {cs : List Value} {x : RouteT} (h : RouteP P w k cs x) (d : Nat) : RouteP P w (k + d) cs x := by
 obtain ⟨w0, w1, w2, e, h1⟩ := h
 exact ⟨w0, w1, w2, e, h1.mono d⟩
theorem HandP.form {P : Nat → Prop} {w : World} {k : Nat} {cs : List Value} {x6 : HandT} (h : HandP P w k cs x6) : ∃ z1 n1 d1 z2 n2 d2 z3 n3 d3, cs = [.string x6.name, .string x6.of_.name, .int .i64 x6.of_.pos, .string x6.core.word, .bool x6.core.has, .bool x6.core.minus, .int .u64 x6.core.num, .slice z1 n1 d1, .int .i64 x6.core.pos, .slice z2 n2 d2, .bool x6.room, .int .u64 x6.inbox, .string x6.drop.name, .int .i64 x6.drop.pos, .slice z3 n3 d3, .int .i64 x6.pos] := by
 obtain ⟨c0, c1, c2, c3, c4, c5, v, u, e, ⟨vv, e1, h1⟩, ⟨css, -, h2, -⟩, h3⟩ := h
 obtain ⟨p1, k1, rfl⟩ := FlP.form h1
 obtain ⟨p2, k2, rfl⟩ := FlP.form h2
 obtain ⟨p3, k3, rfl⟩ := FlP.form h3
 injection e1 with a0 e1
 injection e1 with a1 e1
 injection e1 with a2 e1
 injection e1 with a3 e1
 injection e1 with a4 e1
 injection e1 with a5
 subst a0; subst a1; subst a2; subst a3; subst a4; subst a5
 exact ⟨_, _, _, _, _, _, _, _, _, e⟩
theorem RouteP.form {P : Nat → Prop} {w : World} {k : Nat} {cs : List Value} {x6 : RouteT} (h : RouteP P w k cs x6) : ∃ o3 m3 z3 n3 d3, cs = [.string x6.filter.name, .int .i64 x6.filter.pos, .bool x6.when_, .int .i64 o3, .int .i64 m3, .slice z3 n3 d3, .bool x6.els, .string (RouteT.to x6).name, .int .i64 (RouteT.to x6).pos, .int .i64 x6.pos] := by
 obtain ⟨w0, w1, w2, e, h1⟩ := h
 obtain ⟨k', p3, c3, -, e3⟩ := h1.form
 injection e3 with a0 e3
 injection e3 with a1 e3
 injection e3 with a2
 subst a0; subst a1; subst a2
 exact ⟨_, _, _, _, _, e⟩
theorem tree_list {base : Nat} {W : World} {vh vr : Value} {hs : List HandT} {rs : List RouteT} (h : ORow RHa base 81 16 W vh hs) (r : ORow RRo base 84 10 W vr rs) : ∃ K, TreeP (fun b => base ≤ b) W K vh vr ⟨hs, rs⟩ := by
 obtain ⟨css, h1, h2, h3, h4⟩ := h.list goes_ha
 obtain ⟨dss, r1, r2, r3, r4⟩ := r.list goes_ro
 obtain ⟨K1, hK1⟩ := uni (fun k cs x => HandP (fun b => base ≤ b) W k cs x) (fun k d cs x h => h.mono d) hs css h1 h4
 obtain ⟨K2, hK2⟩ := uni (fun k cs x => RouteP (fun b => base ≤ b) W k cs x) (fun k d cs x h => h.mono d) rs dss r1 r4
 exact ⟨K1 + K2, ⟨css, h1, h2, h3, fun j cs x a b => (hK1 j cs x a b).mono K2⟩, ⟨dss, r1, r2, r3, fun j cs x a b => by rw [Nat.add_comm]; exact (hK2 j cs x a b).mono K1⟩⟩
theorem configP_end {S : Src} {f a : Nat} {hs : List HandT} {rs : List RouteT} (h : kindP S a = 0) : configP S (f + 1) hs rs a = .ok ⟨hs, rs⟩ a := by
 conv => lhs; unfold configP
 rw [if_pos h]
theorem configP_hand {S : Src} {f a : Nat} {hs : List HandT} {rs : List RouteT} (h : kindP S a = 8) : configP S (f + 1) hs rs a = (handlerP S a).bind fun h a => configP S f (hs ++ [h]) rs a := by
 conv => lhs; unfold configP
 rw [if_neg (by omega), if_pos h]
theorem configP_route {S : Src} {f a : Nat} {hs : List HandT} {rs : List RouteT} (h : kindP S a = 12) : configP S (f + 1) hs rs a = (routeP S a).bind fun r a => configP S f hs (rs ++ [r]) a := by
 conv => lhs; unfold configP
 rw [if_neg (by omega), if_neg (by omega), if_pos h]
theorem configP_bad {S : Src} {f a : Nat} {hs : List HandT} {rs : List RouteT} (h0 : ¬ kindP S a = 0) (h8 : ¬ kindP S a = 8) (h12 : ¬ kindP S a = 12) : configP S (f + 1) hs rs a = .bad (posP S a) 70 := by
 conv => lhs; unfold configP
 rw [if_neg h0, if_neg h8, if_neg h12]
set_option maxRecDepth 100000 in
set_option maxHeartbeats 16000000 in
set_option linter.unusedSimpArgs false in
theorem tconfig_any {W0 W : World} {B : Nat} {T : TypeId} {S : Src} {tv nv brk : Value} {a : Nat} (hC : Cx W0 S tv nv brk) (h : At W0 W B T S tv nv a 0) (f0 : Nat) (hf0 : S.ts.length < f0 + a) (hf1 : f0 ≤ 16385) :
  Calls Tryz.prog 32 #[.pointer (some ⟨B, 0, none⟩)] W (StepPost W0 B T S tv nv brk 0 RepT W (configP S f0 [] [] a)) := by
 obtain ⟨PP, hPP⟩ : ∃ PP : Ending → World → Prop, StepPost W0 B T S tv nv brk 0 RepT W (configP S f0 [] [] a) = PP := ⟨_, rfl⟩
 rw [hPP]
 have HPP := Lib.hid hPP
 obtain ⟨X, hX⟩ : ∃ X, W.heap.size = X := ⟨_, rfl⟩
 obtain ⟨D, hD⟩ : ∃ D, X + 1 = D := ⟨_, rfl⟩
 obtain ⟨Bs, hBs⟩ : ∃ Bs, D + 1 = Bs := ⟨_, rfl⟩
 obtain ⟨WA, hWA⟩ : ∃ WA, (W.alloc (.cells #[.slice none 0 0, .slice none 0 0] 26)).alloc (.cells #[.slice none 0 0, .slice none 0 0] 26) = WA := ⟨_, rfl⟩
 have hbA : Below W.heap.size W WA := by rw [← hWA]; exact ((Below.refl _ W).alloc (Nat.le_refl _) _).alloc (by simp) _
 have hs1 : (W.alloc (.cells #[.slice none 0 0, .slice none 0 0] 26)).heap.size = D := by rw [World.size_alloc]; omega
 have hsA : Bs ≤ WA.heap.size := by rw [← hWA, World.size_alloc, hs1]; omega
 have hzX : WA.heap[X]? = some (.cells #[.slice none 0 0, .slice none 0 0] 26 (0, 0)) := by rw [← hWA, Below.heap_alloc _ _ _ (by rw [hs1]; omega), ← hX]; exact heap_alloc_new W _
 have hzD := aRow_ hWA hs1
 have HD0 : Hid (Dec W0 W WA B X D T 26 S tv nv #[.slice none 0 0, .slice none 0 0] #[.slice none 0 0, .slice none 0 0] a 0) := ⟨h.below hbA, g_of hbA, hzX, hzD, by have := h.lt; omega, by omega, by omega⟩
 have hDB : D < Bs := by omega
 have HX := Lib.hid hX
 have HDD := Lib.hid hD
 have HBS := Lib.hid hBs
 have HSA := Lib.hid hsA
 have HWA := Lib.hid hWA
 have HC := Lib.hid hC
 have hfew := hC.few
 obtain ⟨i0, hi, hz0, hz1, hz2⟩ := info_of info_hand
 obtain ⟨i5, hj, hy0, hy1, hy2⟩ := info_of info_route
 clear hPP hC h hX hWA hzX hzD hbA hs1 hD hBs hsA
 go_enter Tryz.func32, Tryz.ntmps32
 go_upto_region 2 with fail
 simp only [World.size_alloc, HX.out, HDD.out]
 rw [HWA.out]
 go_loopw [] (fun wr => ∃ (f p : Nat) (q1 : Option Addr) (c1 : Nat) (q2 : Option Addr) (c2 : Nat) (hs : List HandT) (rs : List RouteT), S.ts.length < f + p ∧ hs.length + rs.length + f ≤ 16385 ∧ Bs ≤ wr.heap.size ∧ Hid (configP S f0 [] [] a = configP S f hs rs p) ∧ Hid (Dec W0 W wr B X D T 26 S tv nv #[.slice none 0 0, .slice none 0 0] #[.slice q1 hs.length c1, .slice q2 rs.length c2] p 0) ∧ Hid (ORow (RAv (fun b => some b ≠ Value.ownBlock (.slice q2 rs.length c2)) RHa) Bs 81 16 wr (.slice q1 hs.length c1) hs) ∧ Hid (ORow (RAv (fun b => some b ≠ Value.ownBlock (.slice q1 hs.length c1)) RRo) Bs 84 10 wr (.slice q2 rs.length c2) rs) ∧ Hid (∀ b, Value.ownBlock (.slice q1 hs.length c1) = some b → Value.ownBlock (.slice q2 rs.length c2) ≠ some b)) (fun wr => leftM S B wr)
 case atStart => exact ⟨f0, a, none, 0, none, 0, [], [], hf0, by simpa using hf1, HSA.out, rfl, HD0.out, ORow.nil _ _ _ _ _, ORow.nil _ _ _ _ _, fun b h => by cases h⟩
 case round =>
  obtain ⟨f, p, q1, c1, q2, c2, hs, rs, hf, hwl, hbw, HK1, HDL, HHL, HRL, HAP⟩ := hrel
  have HMR := Lib.hid (left_at HDL.out.at_)
  have hin := HDL.out.at_.in_
  obtain ⟨f', rfl⟩ : ∃ f', f = f' + 1 := ⟨f - 1, by omega⟩
  have CK := Lib.hid (tkind_any HC.out HDL.out.at_)
  go_wp2_with fail
  refine CK.out.mono ?_
  rintro e3 w3 ⟨rfl, hb3⟩
  have HD3 := Lib.hid (HDL.out.below hb3)
  have HH3 := Lib.hid (HHL.out.kept (goes_av goes_ha) fun b hl _ => hb3.block b hl)
  have HR3 := Lib.hid (HRL.out.kept (goes_av goes_ro) fun b hl _ => hb3.block b hl)
  have hsz3 := hb3.size
  clear hb3 CK
  by_cases h0 : kindP S p = 0
  ·have t0 : ((kindP S p : Int) == 0) = true := by rw [h0]; rfl
   have HE : Hid (configP S f0 [] [] a = .ok ⟨hs, rs⟩ p) := by show configP S f0 [] [] a = _; rw [HK1.out, configP_end h0]
   clear h0
   have k0 := HD3.out.cell (i := 0) rfl
   have k1 := HD3.out.cell (i := 1) rfl
   have z0 := HD3.out.rcell (i := 0) rfl
   have z1 := HD3.out.rcell (i := 1) rfl
   have fz0 := HD3.out.rfree 0
   have fz1 := HD3.out.rfree 1
   have dl := HD3.out.dlt
   have xl := (Array.getElem?_eq_some_iff.1 HD3.out.res).1
   go_wp2_with fail
   refine wp_post (fun W' => W'.heap[X]? = some (.cells #[.slice q1 hs.length c1, .slice q2 rs.length c2] 26 (0, 0)) ∧ w3.grownBy W' (some X)) (set2c HD3.out.res _ _) (fun W' hW => ?_)
   refine bodyPost_ret (res_conf hW.1 rfl _ rfl) rfl ?_
   rw [← HPP.out, HE.out]
   obtain ⟨hA9, hg9⟩ := HD3.out.fin hW.2
   have hxd := HD3.out.xd
   have hwx := HD3.out.wx
   obtain ⟨K, hK⟩ := tree_list (HH3.out.plain goes_ha) (HR3.out.plain goes_ro)
   exact ⟨_, rfl, ⟨K, _, _, rfl, hK.kept fun b hb hl => ⟨hW.2.block b hl (fun e => by injection e with e; omega), by omega⟩⟩, hA9, hg9⟩
  ·have t0 : ((kindP S p : Int) == 0) = false := by rw [beq_eq_false_iff_ne]; omega
   have H0 := Lib.hid h0
   have hpl : p < S.ts.length := kind_lt (k := kindP S p) rfl (by omega)
   clear h0
   have CK := Lib.hid (tkind_any HC.out HD3.out.at_)
   go_wp2_with fail
   refine CK.out.mono ?_
   rintro e5 w5 ⟨rfl, hb5⟩
   have HD5 := Lib.hid (HD3.out.below hb5)
   have HH5 := Lib.hid (HH3.out.kept (goes_av goes_ha) fun b hl _ => hb5.block b hl)
   have HR5 := Lib.hid (HR3.out.kept (goes_av goes_ro) fun b hl _ => hb5.block b hl)
   have hsz5 := hb5.size
   clear hb5 CK
   by_cases h8 : kindP S p = 8
   ·have t8 : ((kindP S p : Int) == 8) = true := by rw [h8]; rfl
    have HK2 : Hid (configP S f0 [] [] a = (handlerP S p).bind fun h a => configP S f' (hs ++ [h]) rs a) := by show configP S f0 [] [] a = _; rw [HK1.out, configP_hand h8]
    clear h8
    have CM : Hid (∀ W', Below w5.heap.size w5 W' → Calls Tryz.prog 70 #[.pointer (some ⟨B, 0, none⟩)] W' (StepPost W0 B T S tv nv brk 0 RepHa W' (handlerP S p))) := fun W' hb => thandler_any HC.out (HD5.out.at_.below hb) hpl
    have dl := HD5.out.dlt
    have k0 := HD5.out.cell (i := 0) rfl
    have fk0 := HD5.out.free 0
    go_upto_region 6 with fail
    cases hq : handlerP S p with
    | bad p' k' =>
     have HQ := Lib.hid hq
     rw [hq] at CM
     clear hq
     have HE : Hid (configP S f0 [] [] a = .bad p' k') := by show configP S f0 [] [] a = _; rw [HK2.out, HQ.out]; rfl
     refine wp_region_held_drew (S := fun _ => True) (by kernel_rfl) trivial (fun hHeld => ?_)
     refine takeQ_ (i := 0) (v := ?_) rfl (by kernel_rfl) (fun _ _ _ h => h) (by rfl) ?_ (by assumption) ?_
     rotate_left
     focus (intro w' hSw; (try dsimp only at hSw); go_simp; try with_reducible rfl)
     (try simp only [Act.put, puts_])
     refine takeQ_ (i := 2) (v := ?_) rfl (by kernel_rfl) (fun _ _ _ h => h) (by rfl) ?_ (by assumption) ?_
     rotate_left
     focus (intro w' hSw; (try dsimp only at hSw); go_simp; try with_reducible rfl)
     (try simp only [Act.put, puts_])
     refine wpAnyH_ready (rs := [1, 3]) (by kernel_rfl) (by simp) ?_
     refine AllReadyH.cons (o := _) rfl (fun K hK => ?_) ?_
     ·go_simp
      refine hK.out _ _ trivial (fun hHeld => ?_)
      clear hK K
      (try simp only [Act.put, puts_])
      refine wpAnyH_ready (rs := [3]) (by kernel_rfl) (by simp) ?_
      refine AllReadyH.cons (o := _) rfl (fun K hK => ?_) AllReadyH.nil
      go_simp; refine (CM.out _ (Below.refl _ _).drew).mono ?_; rintro e6 w6 ⟨rfl, h1, h2⟩; refine ⟨rfl, ?_⟩; rw [← HPP.out, HE.out]; exact ⟨rfl, h1, g_trans HD5.out.gr (g_trans (g_of (Below.refl _ _).drew) h2)⟩
     refine AllReadyH.cons (o := _) rfl (fun K hK => ?_) AllReadyH.nil
     go_simp; refine (CM.out _ (Below.refl _ _).drew).mono ?_; rintro e6 w6 ⟨rfl, h1, h2⟩; refine ⟨rfl, ?_⟩; rw [← HPP.out, HE.out]; exact ⟨rfl, h1, g_trans HD5.out.gr (g_trans (g_of (Below.refl _ _).drew) h2)⟩
    | ok x6 p6 =>
     have HQ := Lib.hid hq
     have hp6 : p < p6 := handlerP_lt hq
     rw [hq] at CM
     clear hq
     have HK3 : Hid (configP S f0 [] [] a = configP S f' (hs ++ [x6]) rs p6) := by show configP S f0 [] [] a = _; rw [HK2.out, HQ.out]; rfl
     refine wp_region_held_drew (S := fun _ => True) (by kernel_rfl) trivial (fun hHeld => ?_)
     refine takeQ_ (i := 0) (v := ?_) rfl (by kernel_rfl) (fun _ _ _ h => h) (by rfl) ?_ (by assumption) ?_
     rotate_left
     focus (intro w' hSw; (try dsimp only at hSw); go_simp; try with_reducible rfl)
     (try simp only [Act.put, puts_])
     refine takeQ_ (i := 2) (v := ?_) rfl (by kernel_rfl) (fun _ _ _ h => h) (by rfl) ?_ (by assumption) ?_
     rotate_left
     focus (intro w' hSw; (try dsimp only at hSw); go_simp; try with_reducible rfl)
     (try simp only [Act.put, puts_])
     refine wpAnyH_ready (rs := [1, 3]) (by kernel_rfl) (by simp) ?_
     refine AllReadyH.cons (o := _) rfl (fun K hK => ?_) ?_
     ·go_simp
      refine hK.out _ _ trivial (fun hHeld => ?_)
      clear hK K
      (try simp only [Act.put, puts_])
      refine wpAnyH_ready (rs := [3]) (by kernel_rfl) (by simp) ?_
      refine AllReadyH.cons (o := _) rfl (fun K hK => ?_) AllReadyH.nil
      go_simp; refine (CM.out _ (Below.refl _ _).drew).mono ?_; rintro e6 w6 ⟨v6, rfl, ⟨kw, cs6, rfl, hv6⟩, hA6, hg6⟩; obtain ⟨z1, n1, d1, z2, n2, d2, z3, n3, d3, rfl⟩ := hv6.form; have hg6' : w5.grownBy w6 (some B) := g_trans (g_of (Below.refl _ _).drew) hg6; have hsz6 := hg6'.size; have HD6 := Lib.hid (HD5.out.call hA6 hg6'); have HV6 : Hid (RHa (fun b => w5.heap.size ≤ b) w6 [.string x6.name, .string x6.of_.name, .int .i64 x6.of_.pos, .string x6.core.word, .bool x6.core.has, .bool x6.core.minus, .int .u64 x6.core.num, .slice z1 n1 d1, .int .i64 x6.core.pos, .slice z2 n2 d2, .bool x6.room, .int .u64 x6.inbox, .string x6.drop.name, .int .i64 x6.drop.pos, .slice z3 n3 d3, .int .i64 x6.pos] x6) := ⟨kw, hv6⟩; have HKB : Hid (∀ b, b < w5.heap.size → Bs ≤ b → w6.heap[b]? = w5.heap[b]?) := fun b hb hbb => hg6'.block b hb (fun e => by injection e with e; have := HD5.out.bx; have := HD5.out.xd; omega); obtain ⟨css, x1, xo, x3, x4⟩ := goes_ok (goes_av goes_ha) HH5.out hg6' (by have := HD5.out.bx; have := HD5.out.xd; omega); have HX2 := Lib.hid xo; have HX3 := Lib.hid x3; have HX4 := Lib.hid x4; have q3' := HD6.out.cell (i := 0) rfl; have qd := HD6.out.dlt; clear xo x3 x4 hA6 hg6 hg6' hv6; dsimp only
      refine hK.out _ _ trivial (fun hHeld => ?_)
      clear hK K
      (try simp only [Act.put, puts_])
      refine wpAnyH_ready (rs := [4]) (by kernel_rfl) (by simp) ?_
      refine AllReadyH.cons (o := _) rfl (fun K hK => ?_) AllReadyH.nil
      go_simp
      refine hK.out _ _ trivial (fun hHeld => ?_)
      clear hK K
      (try simp only [Act.put, puts_])
      refine wpAnyH_ready (rs := [5]) (by kernel_rfl) (by simp) ?_
      refine AllReadyH.cons (o := _) rfl (fun K hK => ?_) AllReadyH.nil
      (refine step_append_lies _ (by rfl) _ _ _ (by rfl) Bs 81 i0 _ 16 200 Tryz.underlying23 hi hz0 hz1 hz2 rfl (by decide) (.slice q1 hs.length c1) hs.length css.flatten (by rfl) (HX2.out.alloc _) ⟨w6.heap.size, 0, none⟩ 1 1 [.string x6.name, .string x6.of_.name, .int .i64 x6.of_.pos, .string x6.core.word, .bool x6.core.has, .bool x6.core.minus, .int .u64 x6.core.num, .slice z1 n1 d1, .int .i64 x6.core.pos, .slice z2 n2 d2, .bool x6.room, .int .u64 x6.inbox, .string x6.drop.name, .int .i64 x6.drop.pos, .slice z3 n3 d3, .int .i64 x6.pos] (by rfl) rfl (news_flat w6 [.string x6.name, .string x6.of_.name, .int .i64 x6.of_.pos, .string x6.core.word, .bool x6.core.has, .bool x6.core.minus, .int .u64 x6.core.num, .slice z1 n1 d1, .int .i64 x6.core.pos, .slice z2 n2 d2, .bool x6.room, .int .u64 x6.inbox, .string x6.drop.name, .int .i64 x6.drop.pos, .slice z3 n3 d3, .int .i64 x6.pos] _) (by intro u hu; simp at hu; rcases hu with rfl | rfl | rfl | rfl | rfl | rfl | rfl | rfl | rfl | rfl | rfl | rfl | rfl | rfl | rfl | rfl <;> rfl) (by decide) (by unfold maxLen; omega) (by omega) (by rw [World.size_alloc]; omega) (w6.heap.size + 1) (by simp) ?_); intro g2 cap2 w1' hown' hgrow hat hlt2; obtain ⟨HF1, HF2, HF3, HF4, y3, yf, yl, hbw6⟩ := two_step (i := 0) goes_ha goes_ro HD6.out HH5.out HR5.out HAP.out hsz6 HKB.out hDB (by omega) x1 HX3.out HX4.out HV6.out rfl hgrow hat hown'; have HFN1 := Lib.hid HF1; have HFN2 := Lib.hid HF2; have HFN3 := Lib.hid HF3; have HFN4 := Lib.hid HF4; clear HF1 HF2 HF3 HF4 hown' hgrow hat
      refine hK.out _ _ trivial (fun hHeld => ?_)
      clear hK K
      (try simp only [Act.put, puts_])
      refine takeQ_ (i := 6) (v := ?_) rfl (by kernel_rfl) (fun _ _ _ h => h) (by rfl) ?_ (by assumption) ?_
      rotate_left
      focus (intro w' hSw; (try dsimp only at hSw); go_simp; try with_reducible rfl)
      (try simp only [Act.put, puts_])
      refine wpAnyH_ready (rs := [7]) (by kernel_rfl) (by simp) ?_
      refine AllReadyH.cons (o := _) rfl (fun K hK => ?_) AllReadyH.nil
      go_simp
      refine hK.out _ _ trivial (fun hHeld => ?_)
      clear hK K
      (try simp only [Act.put, puts_])
      refine wpAnyH_done (by kernel_rfl) ?_ _
      go_simp
      go_wp2_with fail
      go_roundw
      case rel => exact ⟨f', p6, some ⟨g2, 0, none⟩, cap2, q2, c2, hs ++ [x6], rs, by omega, by rw [length_append, List.length_singleton]; omega, by rw [World.size_setCell]; exact hbw6, HK3.out, by rw [length_append, List.length_singleton]; exact HFN1.out, by rw [length_append, List.length_singleton]; exact HFN2.out, by rw [length_append, List.length_singleton]; exact HFN3.out, by rw [length_append, List.length_singleton]; exact HFN4.out⟩
      case measure => rw [left_at HFN1.out.at_, HMR.out]; have := HFN1.out.at_.in_; omega
     refine AllReadyH.cons (o := _) rfl (fun K hK => ?_) AllReadyH.nil
     go_simp; refine (CM.out _ (Below.refl _ _).drew).mono ?_; rintro e6 w6 ⟨v6, rfl, ⟨kw, cs6, rfl, hv6⟩, hA6, hg6⟩; obtain ⟨z1, n1, d1, z2, n2, d2, z3, n3, d3, rfl⟩ := hv6.form; have hg6' : w5.grownBy w6 (some B) := g_trans (g_of (Below.refl _ _).drew) hg6; have hsz6 := hg6'.size; have HD6 := Lib.hid (HD5.out.call hA6 hg6'); have HV6 : Hid (RHa (fun b => w5.heap.size ≤ b) w6 [.string x6.name, .string x6.of_.name, .int .i64 x6.of_.pos, .string x6.core.word, .bool x6.core.has, .bool x6.core.minus, .int .u64 x6.core.num, .slice z1 n1 d1, .int .i64 x6.core.pos, .slice z2 n2 d2, .bool x6.room, .int .u64 x6.inbox, .string x6.drop.name, .int .i64 x6.drop.pos, .slice z3 n3 d3, .int .i64 x6.pos] x6) := ⟨kw, hv6⟩; have HKB : Hid (∀ b, b < w5.heap.size → Bs ≤ b → w6.heap[b]? = w5.heap[b]?) := fun b hb hbb => hg6'.block b hb (fun e => by injection e with e; have := HD5.out.bx; have := HD5.out.xd; omega); obtain ⟨css, x1, xo, x3, x4⟩ := goes_ok (goes_av goes_ha) HH5.out hg6' (by have := HD5.out.bx; have := HD5.out.xd; omega); have HX2 := Lib.hid xo; have HX3 := Lib.hid x3; have HX4 := Lib.hid x4; have q3' := HD6.out.cell (i := 0) rfl; have qd := HD6.out.dlt; clear xo x3 x4 hA6 hg6 hg6' hv6; dsimp only
     refine hK.out _ _ trivial (fun hHeld => ?_)
     clear hK K
     (try simp only [Act.put, puts_])
     refine wpAnyH_ready (rs := [1, 4]) (by kernel_rfl) (by simp) ?_
     refine AllReadyH.cons (o := _) rfl (fun K hK => ?_) ?_
     ·go_simp
      refine hK.out _ _ trivial (fun hHeld => ?_)
      clear hK K
      (try simp only [Act.put, puts_])
      refine wpAnyH_ready (rs := [4]) (by kernel_rfl) (by simp) ?_
      refine AllReadyH.cons (o := _) rfl (fun K hK => ?_) AllReadyH.nil
      go_simp
      refine hK.out _ _ trivial (fun hHeld => ?_)
      clear hK K
      (try simp only [Act.put, puts_])
      refine wpAnyH_ready (rs := [5]) (by kernel_rfl) (by simp) ?_
      refine AllReadyH.cons (o := _) rfl (fun K hK => ?_) AllReadyH.nil
      (refine step_append_lies _ (by rfl) _ _ _ (by rfl) Bs 81 i0 _ 16 200 Tryz.underlying23 hi hz0 hz1 hz2 rfl (by decide) (.slice q1 hs.length c1) hs.length css.flatten (by rfl) (HX2.out.alloc _) ⟨w6.heap.size, 0, none⟩ 1 1 [.string x6.name, .string x6.of_.name, .int .i64 x6.of_.pos, .string x6.core.word, .bool x6.core.has, .bool x6.core.minus, .int .u64 x6.core.num, .slice z1 n1 d1, .int .i64 x6.core.pos, .slice z2 n2 d2, .bool x6.room, .int .u64 x6.inbox, .string x6.drop.name, .int .i64 x6.drop.pos, .slice z3 n3 d3, .int .i64 x6.pos] (by rfl) rfl (news_flat w6 [.string x6.name, .string x6.of_.name, .int .i64 x6.of_.pos, .string x6.core.word, .bool x6.core.has, .bool x6.core.minus, .int .u64 x6.core.num, .slice z1 n1 d1, .int .i64 x6.core.pos, .slice z2 n2 d2, .bool x6.room, .int .u64 x6.inbox, .string x6.drop.name, .int .i64 x6.drop.pos, .slice z3 n3 d3, .int .i64 x6.pos] _) (by intro u hu; simp at hu; rcases hu with rfl | rfl | rfl | rfl | rfl | rfl | rfl | rfl | rfl | rfl | rfl | rfl | rfl | rfl | rfl | rfl <;> rfl) (by decide) (by unfold maxLen; omega) (by omega) (by rw [World.size_alloc]; omega) (w6.heap.size + 1) (by simp) ?_); intro g2 cap2 w1' hown' hgrow hat hlt2; obtain ⟨HF1, HF2, HF3, HF4, y3, yf, yl, hbw6⟩ := two_step (i := 0) goes_ha goes_ro HD6.out HH5.out HR5.out HAP.out hsz6 HKB.out hDB (by omega) x1 HX3.out HX4.out HV6.out rfl hgrow hat hown'; have HFN1 := Lib.hid HF1; have HFN2 := Lib.hid HF2; have HFN3 := Lib.hid HF3; have HFN4 := Lib.hid HF4; clear HF1 HF2 HF3 HF4 hown' hgrow hat
      refine hK.out _ _ trivial (fun hHeld => ?_)
      clear hK K
      (try simp only [Act.put, puts_])
      refine takeQ_ (i := 6) (v := ?_) rfl (by kernel_rfl) (fun _ _ _ h => h) (by rfl) ?_ (by assumption) ?_
      rotate_left
      focus (intro w' hSw; (try dsimp only at hSw); go_simp; try with_reducible rfl)
      (try simp only [Act.put, puts_])
      refine wpAnyH_ready (rs := [7]) (by kernel_rfl) (by simp) ?_
      refine AllReadyH.cons (o := _) rfl (fun K hK => ?_) AllReadyH.nil
      go_simp
      refine hK.out _ _ trivial (fun hHeld => ?_)
      clear hK K
      (try simp only [Act.put, puts_])
      refine wpAnyH_done (by kernel_rfl) ?_ _
      go_simp
      go_wp2_with fail
      go_roundw
      case rel => exact ⟨f', p6, some ⟨g2, 0, none⟩, cap2, q2, c2, hs ++ [x6], rs, by omega, by rw [length_append, List.length_singleton]; omega, by rw [World.size_setCell]; exact hbw6, HK3.out, by rw [length_append, List.length_singleton]; exact HFN1.out, by rw [length_append, List.length_singleton]; exact HFN2.out, by rw [length_append, List.length_singleton]; exact HFN3.out, by rw [length_append, List.length_singleton]; exact HFN4.out⟩
      case measure => rw [left_at HFN1.out.at_, HMR.out]; have := HFN1.out.at_.in_; omega
     refine AllReadyH.cons (o := _) rfl (fun K hK => ?_) AllReadyH.nil
     go_simp
     refine hK.out _ _ trivial (fun hHeld => ?_)
     clear hK K
     (try simp only [Act.put, puts_])
     refine wpAnyH_ready (rs := [1]) (by kernel_rfl) (by simp) ?_
     refine AllReadyH.cons (o := _) rfl (fun K hK => ?_) AllReadyH.nil
     go_simp
     refine hK.out _ _ trivial (fun hHeld => ?_)
     clear hK K
     (try simp only [Act.put, puts_])
     refine wpAnyH_ready (rs := [5]) (by kernel_rfl) (by simp) ?_
     refine AllReadyH.cons (o := _) rfl (fun K hK => ?_) AllReadyH.nil
     (refine step_append_lies _ (by rfl) _ _ _ (by rfl) Bs 81 i0 _ 16 200 Tryz.underlying23 hi hz0 hz1 hz2 rfl (by decide) (.slice q1 hs.length c1) hs.length css.flatten (by rfl) (HX2.out.alloc _) ⟨w6.heap.size, 0, none⟩ 1 1 [.string x6.name, .string x6.of_.name, .int .i64 x6.of_.pos, .string x6.core.word, .bool x6.core.has, .bool x6.core.minus, .int .u64 x6.core.num, .slice z1 n1 d1, .int .i64 x6.core.pos, .slice z2 n2 d2, .bool x6.room, .int .u64 x6.inbox, .string x6.drop.name, .int .i64 x6.drop.pos, .slice z3 n3 d3, .int .i64 x6.pos] (by rfl) rfl (news_flat w6 [.string x6.name, .string x6.of_.name, .int .i64 x6.of_.pos, .string x6.core.word, .bool x6.core.has, .bool x6.core.minus, .int .u64 x6.core.num, .slice z1 n1 d1, .int .i64 x6.core.pos, .slice z2 n2 d2, .bool x6.room, .int .u64 x6.inbox, .string x6.drop.name, .int .i64 x6.drop.pos, .slice z3 n3 d3, .int .i64 x6.pos] _) (by intro u hu; simp at hu; rcases hu with rfl | rfl | rfl | rfl | rfl | rfl | rfl | rfl | rfl | rfl | rfl | rfl | rfl | rfl | rfl | rfl <;> rfl) (by decide) (by unfold maxLen; omega) (by omega) (by rw [World.size_alloc]; omega) (w6.heap.size + 1) (by simp) ?_); intro g2 cap2 w1' hown' hgrow hat hlt2; obtain ⟨HF1, HF2, HF3, HF4, y3, yf, yl, hbw6⟩ := two_step (i := 0) goes_ha goes_ro HD6.out HH5.out HR5.out HAP.out hsz6 HKB.out hDB (by omega) x1 HX3.out HX4.out HV6.out rfl hgrow hat hown'; have HFN1 := Lib.hid HF1; have HFN2 := Lib.hid HF2; have HFN3 := Lib.hid HF3; have HFN4 := Lib.hid HF4; clear HF1 HF2 HF3 HF4 hown' hgrow hat
     refine hK.out _ _ trivial (fun hHeld => ?_)
     clear hK K
     (try simp only [Act.put, puts_])
     refine takeQ_ (i := 6) (v := ?_) rfl (by kernel_rfl) (fun _ _ _ h => h) (by rfl) ?_ (by assumption) ?_
     rotate_left
     focus (intro w' hSw; (try dsimp only at hSw); go_simp; try with_reducible rfl)
     (try simp only [Act.put, puts_])
     refine wpAnyH_ready (rs := [7]) (by kernel_rfl) (by simp) ?_
     refine AllReadyH.cons (o := _) rfl (fun K hK => ?_) AllReadyH.nil
     go_simp
     refine hK.out _ _ trivial (fun hHeld => ?_)
     clear hK K
     (try simp only [Act.put, puts_])
     refine wpAnyH_done (by kernel_rfl) ?_ _
     go_simp
     go_wp2_with fail
     go_roundw
     case rel => exact ⟨f', p6, some ⟨g2, 0, none⟩, cap2, q2, c2, hs ++ [x6], rs, by omega, by rw [length_append, List.length_singleton]; omega, by rw [World.size_setCell]; exact hbw6, HK3.out, by rw [length_append, List.length_singleton]; exact HFN1.out, by rw [length_append, List.length_singleton]; exact HFN2.out, by rw [length_append, List.length_singleton]; exact HFN3.out, by rw [length_append, List.length_singleton]; exact HFN4.out⟩
     case measure => rw [left_at HFN1.out.at_, HMR.out]; have := HFN1.out.at_.in_; omega
   ·have t8 : ((kindP S p : Int) == 8) = false := by rw [beq_eq_false_iff_ne]; omega
    have H8 := Lib.hid h8
    clear h8
    by_cases h12 : kindP S p = 12
    ·have t12 : ((kindP S p : Int) == 12) = true := by rw [h12]; rfl
     have HK2 : Hid (configP S f0 [] [] a = (routeP S p).bind fun r a => configP S f' hs (rs ++ [r]) a) := by show configP S f0 [] [] a = _; rw [HK1.out, configP_route h12]
     clear h12
     have CM : Hid (∀ W', Below w5.heap.size w5 W' → Calls Tryz.prog 71 #[.pointer (some ⟨B, 0, none⟩)] W' (StepPost W0 B T S tv nv brk 0 RepRo W' (routeP S p))) := fun W' hb => troute_any HC.out (HD5.out.at_.below hb) hpl
     have dl := HD5.out.dlt
     have k1 := HD5.out.cell (i := 1) rfl
     have fk1 := HD5.out.free 1
     go_upto_region 8 with fail
     cases hq : routeP S p with
     | bad p' k' =>
      have HQ := Lib.hid hq
      rw [hq] at CM
      clear hq
      have HE : Hid (configP S f0 [] [] a = .bad p' k') := by show configP S f0 [] [] a = _; rw [HK2.out, HQ.out]; rfl
      refine wp_region_held_drew (S := fun _ => True) (by kernel_rfl) trivial (fun hHeld => ?_)
      refine takeQ_ (i := 0) (v := ?_) rfl (by kernel_rfl) (fun _ _ _ h => h) (by rfl) ?_ (by assumption) ?_
      rotate_left
      focus (intro w' hSw; (try dsimp only at hSw); go_simp; try with_reducible rfl)
      (try simp only [Act.put, puts_])
      refine takeQ_ (i := 2) (v := ?_) rfl (by kernel_rfl) (fun _ _ _ h => h) (by rfl) ?_ (by assumption) ?_
      rotate_left
      focus (intro w' hSw; (try dsimp only at hSw); go_simp; try with_reducible rfl)
      (try simp only [Act.put, puts_])
      refine wpAnyH_ready (rs := [1, 3]) (by kernel_rfl) (by simp) ?_
      refine AllReadyH.cons (o := _) rfl (fun K hK => ?_) ?_
      ·go_simp
       refine hK.out _ _ trivial (fun hHeld => ?_)
       clear hK K
       (try simp only [Act.put, puts_])
       refine wpAnyH_ready (rs := [3]) (by kernel_rfl) (by simp) ?_
       refine AllReadyH.cons (o := _) rfl (fun K hK => ?_) AllReadyH.nil
       go_simp; refine (CM.out _ (Below.refl _ _).drew).mono ?_; rintro e6 w6 ⟨rfl, h1, h2⟩; refine ⟨rfl, ?_⟩; rw [← HPP.out, HE.out]; exact ⟨rfl, h1, g_trans HD5.out.gr (g_trans (g_of (Below.refl _ _).drew) h2)⟩
      refine AllReadyH.cons (o := _) rfl (fun K hK => ?_) AllReadyH.nil
      go_simp; refine (CM.out _ (Below.refl _ _).drew).mono ?_; rintro e6 w6 ⟨rfl, h1, h2⟩; refine ⟨rfl, ?_⟩; rw [← HPP.out, HE.out]; exact ⟨rfl, h1, g_trans HD5.out.gr (g_trans (g_of (Below.refl _ _).drew) h2)⟩
     | ok x6 p6 =>
      have HQ := Lib.hid hq
      have hp6 : p < p6 := routeP_lt hq
      rw [hq] at CM
      clear hq
      have HK3 : Hid (configP S f0 [] [] a = configP S f' hs (rs ++ [x6]) p6) := by show configP S f0 [] [] a = _; rw [HK2.out, HQ.out]; rfl
      refine wp_region_held_drew (S := fun _ => True) (by kernel_rfl) trivial (fun hHeld => ?_)
      refine takeQ_ (i := 0) (v := ?_) rfl (by kernel_rfl) (fun _ _ _ h => h) (by rfl) ?_ (by assumption) ?_
      rotate_left
      focus (intro w' hSw; (try dsimp only at hSw); go_simp; try with_reducible rfl)
      (try simp only [Act.put, puts_])
      refine takeQ_ (i := 2) (v := ?_) rfl (by kernel_rfl) (fun _ _ _ h => h) (by rfl) ?_ (by assumption) ?_
      rotate_left
      focus (intro w' hSw; (try dsimp only at hSw); go_simp; try with_reducible rfl)
      (try simp only [Act.put, puts_])
      refine wpAnyH_ready (rs := [1, 3]) (by kernel_rfl) (by simp) ?_
      refine AllReadyH.cons (o := _) rfl (fun K hK => ?_) ?_
      ·go_simp
       refine hK.out _ _ trivial (fun hHeld => ?_)
       clear hK K
       (try simp only [Act.put, puts_])
       refine wpAnyH_ready (rs := [3]) (by kernel_rfl) (by simp) ?_
       refine AllReadyH.cons (o := _) rfl (fun K hK => ?_) AllReadyH.nil
       go_simp; refine (CM.out _ (Below.refl _ _).drew).mono ?_; rintro e6 w6 ⟨v6, rfl, ⟨kw, cs6, rfl, hv6⟩, hA6, hg6⟩; obtain ⟨o3, m3, z3, n3, d3, rfl⟩ := hv6.form; have hg6' : w5.grownBy w6 (some B) := g_trans (g_of (Below.refl _ _).drew) hg6; have hsz6 := hg6'.size; have HD6 := Lib.hid (HD5.out.call hA6 hg6'); have HV6 : Hid (RRo (fun b => w5.heap.size ≤ b) w6 [.string x6.filter.name, .int .i64 x6.filter.pos, .bool x6.when_, .int .i64 o3, .int .i64 m3, .slice z3 n3 d3, .bool x6.els, .string (RouteT.to x6).name, .int .i64 (RouteT.to x6).pos, .int .i64 x6.pos] x6) := ⟨kw, hv6⟩; have HKB : Hid (∀ b, b < w5.heap.size → Bs ≤ b → w6.heap[b]? = w5.heap[b]?) := fun b hb hbb => hg6'.block b hb (fun e => by injection e with e; have := HD5.out.bx; have := HD5.out.xd; omega); obtain ⟨css, x1, xo, x3, x4⟩ := goes_ok (goes_av goes_ro) HR5.out hg6' (by have := HD5.out.bx; have := HD5.out.xd; omega); have HX2 := Lib.hid xo; have HX3 := Lib.hid x3; have HX4 := Lib.hid x4; have q3' := HD6.out.cell (i := 1) rfl; have qd := HD6.out.dlt; clear xo x3 x4 hA6 hg6 hg6' hv6; dsimp only
       refine hK.out _ _ trivial (fun hHeld => ?_)
       clear hK K
       (try simp only [Act.put, puts_])
       refine wpAnyH_ready (rs := [4]) (by kernel_rfl) (by simp) ?_
       refine AllReadyH.cons (o := _) rfl (fun K hK => ?_) AllReadyH.nil
       go_simp
       refine hK.out _ _ trivial (fun hHeld => ?_)
       clear hK K
       (try simp only [Act.put, puts_])
       refine wpAnyH_ready (rs := [5]) (by kernel_rfl) (by simp) ?_
       refine AllReadyH.cons (o := _) rfl (fun K hK => ?_) AllReadyH.nil
       (refine step_append_lies _ (by rfl) _ _ _ (by rfl) Bs 84 i5 _ 10 112 Tryz.underlying24 hj hy0 hy1 hy2 rfl (by decide) (.slice q2 rs.length c2) rs.length css.flatten (by rfl) (HX2.out.alloc _) ⟨w6.heap.size, 0, none⟩ 1 1 [.string x6.filter.name, .int .i64 x6.filter.pos, .bool x6.when_, .int .i64 o3, .int .i64 m3, .slice z3 n3 d3, .bool x6.els, .string (RouteT.to x6).name, .int .i64 (RouteT.to x6).pos, .int .i64 x6.pos] (by rfl) rfl (news_flat w6 [.string x6.filter.name, .int .i64 x6.filter.pos, .bool x6.when_, .int .i64 o3, .int .i64 m3, .slice z3 n3 d3, .bool x6.els, .string (RouteT.to x6).name, .int .i64 (RouteT.to x6).pos, .int .i64 x6.pos] _) (by intro u hu; simp at hu; rcases hu with rfl | rfl | rfl | rfl | rfl | rfl | rfl | rfl | rfl | rfl <;> rfl) (by decide) (by unfold maxLen; omega) (by omega) (by rw [World.size_alloc]; omega) (w6.heap.size + 1) (by simp) ?_); intro g2 cap2 w1' hown' hgrow hat hlt2; obtain ⟨HF1, HF2, HF3, HF4, y3, yf, yl, hbw6⟩ := two_step (i := 1) goes_ro goes_ha HD6.out HR5.out HH5.out (fun b h1 h2 => HAP.out b h2 h1) hsz6 HKB.out hDB (by omega) x1 HX3.out HX4.out HV6.out rfl hgrow hat hown'; have HFN1 := Lib.hid HF1; have HFN2 := Lib.hid HF2; have HFN3 := Lib.hid HF3; have HFN4 := Lib.hid HF4; clear HF1 HF2 HF3 HF4 hown' hgrow hat
       refine hK.out _ _ trivial (fun hHeld => ?_)
       clear hK K
       (try simp only [Act.put, puts_])
       refine takeQ_ (i := 6) (v := ?_) rfl (by kernel_rfl) (fun _ _ _ h => h) (by rfl) ?_ (by assumption) ?_
       rotate_left
       focus (intro w' hSw; (try dsimp only at hSw); go_simp; try with_reducible rfl)
       (try simp only [Act.put, puts_])
       refine wpAnyH_ready (rs := [7]) (by kernel_rfl) (by simp) ?_
       refine AllReadyH.cons (o := _) rfl (fun K hK => ?_) AllReadyH.nil
       go_simp
       refine hK.out _ _ trivial (fun hHeld => ?_)
       clear hK K
       (try simp only [Act.put, puts_])
       refine wpAnyH_done (by kernel_rfl) ?_ _
       go_simp
       go_wp2_with fail
       go_roundw
       case rel => exact ⟨f', p6, q1, c1, some ⟨g2, 0, none⟩, cap2, hs, rs ++ [x6], by omega, by rw [length_append, List.length_singleton]; omega, by rw [World.size_setCell]; exact hbw6, HK3.out, by rw [length_append, List.length_singleton]; exact HFN1.out, by rw [length_append, List.length_singleton]; exact HFN3.out, by rw [length_append, List.length_singleton]; exact HFN2.out, by rw [length_append, List.length_singleton]; exact fun b h1 h2 => HFN4.out b h2 h1⟩
       case measure => rw [left_at HFN1.out.at_, HMR.out]; have := HFN1.out.at_.in_; omega
      refine AllReadyH.cons (o := _) rfl (fun K hK => ?_) AllReadyH.nil
      go_simp; refine (CM.out _ (Below.refl _ _).drew).mono ?_; rintro e6 w6 ⟨v6, rfl, ⟨kw, cs6, rfl, hv6⟩, hA6, hg6⟩; obtain ⟨o3, m3, z3, n3, d3, rfl⟩ := hv6.form; have hg6' : w5.grownBy w6 (some B) := g_trans (g_of (Below.refl _ _).drew) hg6; have hsz6 := hg6'.size; have HD6 := Lib.hid (HD5.out.call hA6 hg6'); have HV6 : Hid (RRo (fun b => w5.heap.size ≤ b) w6 [.string x6.filter.name, .int .i64 x6.filter.pos, .bool x6.when_, .int .i64 o3, .int .i64 m3, .slice z3 n3 d3, .bool x6.els, .string (RouteT.to x6).name, .int .i64 (RouteT.to x6).pos, .int .i64 x6.pos] x6) := ⟨kw, hv6⟩; have HKB : Hid (∀ b, b < w5.heap.size → Bs ≤ b → w6.heap[b]? = w5.heap[b]?) := fun b hb hbb => hg6'.block b hb (fun e => by injection e with e; have := HD5.out.bx; have := HD5.out.xd; omega); obtain ⟨css, x1, xo, x3, x4⟩ := goes_ok (goes_av goes_ro) HR5.out hg6' (by have := HD5.out.bx; have := HD5.out.xd; omega); have HX2 := Lib.hid xo; have HX3 := Lib.hid x3; have HX4 := Lib.hid x4; have q3' := HD6.out.cell (i := 1) rfl; have qd := HD6.out.dlt; clear xo x3 x4 hA6 hg6 hg6' hv6; dsimp only
      refine hK.out _ _ trivial (fun hHeld => ?_)
      clear hK K
      (try simp only [Act.put, puts_])
      refine wpAnyH_ready (rs := [1, 4]) (by kernel_rfl) (by simp) ?_
      refine AllReadyH.cons (o := _) rfl (fun K hK => ?_) ?_
      ·go_simp
       refine hK.out _ _ trivial (fun hHeld => ?_)
       clear hK K
       (try simp only [Act.put, puts_])
       refine wpAnyH_ready (rs := [4]) (by kernel_rfl) (by simp) ?_
       refine AllReadyH.cons (o := _) rfl (fun K hK => ?_) AllReadyH.nil
       go_simp
       refine hK.out _ _ trivial (fun hHeld => ?_)
       clear hK K
       (try simp only [Act.put, puts_])
       refine wpAnyH_ready (rs := [5]) (by kernel_rfl) (by simp) ?_
       refine AllReadyH.cons (o := _) rfl (fun K hK => ?_) AllReadyH.nil
       (refine step_append_lies _ (by rfl) _ _ _ (by rfl) Bs 84 i5 _ 10 112 Tryz.underlying24 hj hy0 hy1 hy2 rfl (by decide) (.slice q2 rs.length c2) rs.length css.flatten (by rfl) (HX2.out.alloc _) ⟨w6.heap.size, 0, none⟩ 1 1 [.string x6.filter.name, .int .i64 x6.filter.pos, .bool x6.when_, .int .i64 o3, .int .i64 m3, .slice z3 n3 d3, .bool x6.els, .string (RouteT.to x6).name, .int .i64 (RouteT.to x6).pos, .int .i64 x6.pos] (by rfl) rfl (news_flat w6 [.string x6.filter.name, .int .i64 x6.filter.pos, .bool x6.when_, .int .i64 o3, .int .i64 m3, .slice z3 n3 d3, .bool x6.els, .string (RouteT.to x6).name, .int .i64 (RouteT.to x6).pos, .int .i64 x6.pos] _) (by intro u hu; simp at hu; rcases hu with rfl | rfl | rfl | rfl | rfl | rfl | rfl | rfl | rfl | rfl <;> rfl) (by decide) (by unfold maxLen; omega) (by omega) (by rw [World.size_alloc]; omega) (w6.heap.size + 1) (by simp) ?_); intro g2 cap2 w1' hown' hgrow hat hlt2; obtain ⟨HF1, HF2, HF3, HF4, y3, yf, yl, hbw6⟩ := two_step (i := 1) goes_ro goes_ha HD6.out HR5.out HH5.out (fun b h1 h2 => HAP.out b h2 h1) hsz6 HKB.out hDB (by omega) x1 HX3.out HX4.out HV6.out rfl hgrow hat hown'; have HFN1 := Lib.hid HF1; have HFN2 := Lib.hid HF2; have HFN3 := Lib.hid HF3; have HFN4 := Lib.hid HF4; clear HF1 HF2 HF3 HF4 hown' hgrow hat
       refine hK.out _ _ trivial (fun hHeld => ?_)
       clear hK K
       (try simp only [Act.put, puts_])
       refine takeQ_ (i := 6) (v := ?_) rfl (by kernel_rfl) (fun _ _ _ h => h) (by rfl) ?_ (by assumption) ?_
       rotate_left
       focus (intro w' hSw; (try dsimp only at hSw); go_simp; try with_reducible rfl)
       (try simp only [Act.put, puts_])
       refine wpAnyH_ready (rs := [7]) (by kernel_rfl) (by simp) ?_
       refine AllReadyH.cons (o := _) rfl (fun K hK => ?_) AllReadyH.nil
       go_simp
       refine hK.out _ _ trivial (fun hHeld => ?_)
       clear hK K
       (try simp only [Act.put, puts_])
       refine wpAnyH_done (by kernel_rfl) ?_ _
       go_simp
       go_wp2_with fail
       go_roundw
       case rel => exact ⟨f', p6, q1, c1, some ⟨g2, 0, none⟩, cap2, hs, rs ++ [x6], by omega, by rw [length_append, List.length_singleton]; omega, by rw [World.size_setCell]; exact hbw6, HK3.out, by rw [length_append, List.length_singleton]; exact HFN1.out, by rw [length_append, List.length_singleton]; exact HFN3.out, by rw [length_append, List.length_singleton]; exact HFN2.out, by rw [length_append, List.length_singleton]; exact fun b h1 h2 => HFN4.out b h2 h1⟩
       case measure => rw [left_at HFN1.out.at_, HMR.out]; have := HFN1.out.at_.in_; omega
      refine AllReadyH.cons (o := _) rfl (fun K hK => ?_) AllReadyH.nil
      go_simp
      refine hK.out _ _ trivial (fun hHeld => ?_)
      clear hK K
      (try simp only [Act.put, puts_])
      refine wpAnyH_ready (rs := [1]) (by kernel_rfl) (by simp) ?_
      refine AllReadyH.cons (o := _) rfl (fun K hK => ?_) AllReadyH.nil
      go_simp
      refine hK.out _ _ trivial (fun hHeld => ?_)
      clear hK K
      (try simp only [Act.put, puts_])
      refine wpAnyH_ready (rs := [5]) (by kernel_rfl) (by simp) ?_
      refine AllReadyH.cons (o := _) rfl (fun K hK => ?_) AllReadyH.nil
      (refine step_append_lies _ (by rfl) _ _ _ (by rfl) Bs 84 i5 _ 10 112 Tryz.underlying24 hj hy0 hy1 hy2 rfl (by decide) (.slice q2 rs.length c2) rs.length css.flatten (by rfl) (HX2.out.alloc _) ⟨w6.heap.size, 0, none⟩ 1 1 [.string x6.filter.name, .int .i64 x6.filter.pos, .bool x6.when_, .int .i64 o3, .int .i64 m3, .slice z3 n3 d3, .bool x6.els, .string (RouteT.to x6).name, .int .i64 (RouteT.to x6).pos, .int .i64 x6.pos] (by rfl) rfl (news_flat w6 [.string x6.filter.name, .int .i64 x6.filter.pos, .bool x6.when_, .int .i64 o3, .int .i64 m3, .slice z3 n3 d3, .bool x6.els, .string (RouteT.to x6).name, .int .i64 (RouteT.to x6).pos, .int .i64 x6.pos] _) (by intro u hu; simp at hu; rcases hu with rfl | rfl | rfl | rfl | rfl | rfl | rfl | rfl | rfl | rfl <;> rfl) (by decide) (by unfold maxLen; omega) (by omega) (by rw [World.size_alloc]; omega) (w6.heap.size + 1) (by simp) ?_); intro g2 cap2 w1' hown' hgrow hat hlt2; obtain ⟨HF1, HF2, HF3, HF4, y3, yf, yl, hbw6⟩ := two_step (i := 1) goes_ro goes_ha HD6.out HR5.out HH5.out (fun b h1 h2 => HAP.out b h2 h1) hsz6 HKB.out hDB (by omega) x1 HX3.out HX4.out HV6.out rfl hgrow hat hown'; have HFN1 := Lib.hid HF1; have HFN2 := Lib.hid HF2; have HFN3 := Lib.hid HF3; have HFN4 := Lib.hid HF4; clear HF1 HF2 HF3 HF4 hown' hgrow hat
      refine hK.out _ _ trivial (fun hHeld => ?_)
      clear hK K
      (try simp only [Act.put, puts_])
      refine takeQ_ (i := 6) (v := ?_) rfl (by kernel_rfl) (fun _ _ _ h => h) (by rfl) ?_ (by assumption) ?_
      rotate_left
      focus (intro w' hSw; (try dsimp only at hSw); go_simp; try with_reducible rfl)
      (try simp only [Act.put, puts_])
      refine wpAnyH_ready (rs := [7]) (by kernel_rfl) (by simp) ?_
      refine AllReadyH.cons (o := _) rfl (fun K hK => ?_) AllReadyH.nil
      go_simp
      refine hK.out _ _ trivial (fun hHeld => ?_)
      clear hK K
      (try simp only [Act.put, puts_])
      refine wpAnyH_done (by kernel_rfl) ?_ _
      go_simp
      go_wp2_with fail
      go_roundw
      case rel => exact ⟨f', p6, q1, c1, some ⟨g2, 0, none⟩, cap2, hs, rs ++ [x6], by omega, by rw [length_append, List.length_singleton]; omega, by rw [World.size_setCell]; exact hbw6, HK3.out, by rw [length_append, List.length_singleton]; exact HFN1.out, by rw [length_append, List.length_singleton]; exact HFN3.out, by rw [length_append, List.length_singleton]; exact HFN2.out, by rw [length_append, List.length_singleton]; exact fun b h1 h2 => HFN4.out b h2 h1⟩
      case measure => rw [left_at HFN1.out.at_, HMR.out]; have := HFN1.out.at_.in_; omega
    ·have t12 : ((kindP S p : Int) == 12) = false := by rw [beq_eq_false_iff_ne]; omega
     have HE : Hid (configP S f0 [] [] a = .bad (posP S p) 70) := by show configP S f0 [] [] a = _; rw [HK1.out, configP_bad H0.out H8.out h12]
     have CF : Hid (Calls Tryz.prog 55 #[.pointer (some ⟨B, 0, none⟩), .int .i64 70] w5 (Fails W0 B T S tv nv brk w5 (posP S p) 70)) := tfail_any HC.out HD5.out.at_ 70
     clear h12
     go_wp2_with fail
     refine CF.out.mono ?_
     rintro e2 w2 h2
     obtain ⟨rfl, h3⟩ := h2.after HD5.out.gr
     refine ⟨rfl, ?_⟩
     rw [← HPP.out, HE.out]
     exact ⟨rfl, h3⟩
end Go.Proofs.YtbdllefnghddcaaGreatDoor
