/- PARSE: a wrap, written. -/
import Derived.Test.YtbdllefnghddcaaGreatDoorPPr
import Derived.Test.YtbdllefnghddcaaGreatDoorPMem
namespace Go.Proofs.YtbdllefnghddcaaGreatDoor
open List (length_append)
open Go Go.RowKit
attribute [local go_sem ↓] Go.wp_at_zero Go.wp_at_succ

theorem nums_shape {P : Nat → Prop} {w : World} {v : Value} {ns : List Int} (h : NumsP P w v ns) : ∃ p cap, v = .slice p ns.length cap ∧ ns.length ≤ 9223372036854775807 := by
 obtain ⟨h2, p, cap, rfl, h3, h4, h5⟩ := h
 exact ⟨p, cap, rfl, by omega⟩
theorem NumsP.at {P : Nat → Prop} {w : World} {v : Value} {ns : List Int} (h : NumsP P w v ns) {j : Nat} {n : Int} (hn : ns[j]? = some n) :
  ∃ b o cap, v = .slice (some ⟨b, o, none⟩) ns.length cap ∧ P b ∧ b < w.heap.size ∧ w.cell? ⟨b, o + j, none⟩ = some (.int .u64 n) := by
 obtain ⟨h2, p, cap, rfl, h3, h4, h5⟩ := h
 have hj := (List.getElem?_eq_some_iff.1 hn).1
 obtain ⟨b, o, hP, hb, rfl, hc⟩ := h5 (by omega)
 exact ⟨b, o, cap, rfl, hP, hb, hc j _ (by rw [List.getElem?_map, hn]; rfl)⟩
theorem empty_ne {s : ByteArray} (h0 : ¬ s.size = 0) : (s == (⟨#[]⟩ : ByteArray)) = false ∧ (s != (⟨#[]⟩ : ByteArray)) = true ∧ ¬ s.toList = [] ∧ s.toList.isEmpty = false := by
 have h : s ≠ ⟨#[]⟩ := fun e => h0 (by rw [e]; rfl)
 have h1 : (s == (⟨#[]⟩ : ByteArray)) = false := by
  have h2 : s.data ≠ #[] := fun e => h (by cases s; simp at e; subst e; rfl)
  show (s.data == #[]) = false
  simpa using h2
 have h3 : ¬ s.toList = [] := fun e => h (by rw [ByteArray.toList_eq] at e; cases s; simp at e; subst e; rfl)
 exact ⟨h1, by simp [bne, h1], h3, by simpa using h3⟩
theorem empty_is {s : ByteArray} (h : s.size = 0) : s = ⟨#[]⟩ := by
 cases s with
 | mk d =>
  have h : d.size = 0 := h
  rw [Array.eq_empty_of_size_eq_zero h]
theorem cat_ba2 (s : ByteArray) (y : List UInt8) : s ++ ba y = ba (bs s ++ y) := by
 have := cat_ba (bs s) y
 exact this
theorem cat_ba3 (x : List UInt8) (s : ByteArray) : (⟨x.toArray⟩ : ByteArray) ++ s = ba (x ++ bs s) := by
 have := cat_ba x (bs s)
 rw [ba_bs] at this
 exact this

set_option maxRecDepth 100000 in
set_option maxHeartbeats 8000000 in
set_option linter.unusedSimpArgs false in
theorem wwrap_any {T : TypeId} (hT : IsBT T) {base b : Nat} {W : World} {v : Value} {l : List UInt8} (hB : Bd T base b W v l) (x : WrapT) (k : Nat) {cs : List Value} (hP : Pv base W) (hR : WrapP (Lo base) W k cs x) (hN : NmW x) (hW : x.when_ = true → rightB x.want = true) (hsz : l.length + (wrapW x).length ≤ 140737488355328) :
  Calls Tryz.prog 136 #[.pointer (some ⟨b, 0, none⟩), .agg cs.toArray] W (WrPost T base b W (l ++ wrapW x)) := by
 obtain ⟨PP, hPP⟩ : ∃ PP, WrPost T base b W (l ++ wrapW x) = PP := ⟨_, rfl⟩
 rw [hPP]
 have HPP := Lib.hid hPP
 obtain ⟨v1, u1, y0, y1, y2, rfl, hnums, hcaps, hwant⟩ := hR
 obtain ⟨k1, q1, m1, -, ew⟩ := hwant.form
 injection ew with ew0 ew
 injection ew with ew1 ew
 injection ew with ew2
 subst ew0; subst ew1; subst ew2
 obtain ⟨nq, nc, rfl, hn9⟩ := nums_shape hnums
 obtain ⟨uq, uc, rfl, -⟩ := UsP.shape hcaps
 obtain ⟨w0, hw0⟩ : ∃ w0, W.alloc (.cells #[.bool x.opn, .string x.word, .string x.sub, .slice nq x.nums.length nc, .slice uq x.caps.length uc, .bool x.when_, .int .i64 x.want.op, .int .i64 x.want.num, .slice q1 x.want.l.length m1, .int .i64 x.pos] 90) = w0 := ⟨_, rfl⟩
 obtain ⟨X, hX⟩ : ∃ X, W.heap.size = X := ⟨_, rfl⟩
 have hb0 : Below W.heap.size W w0 := by rw [← hw0]; exact (Below.refl _ W).alloc (Nat.le_refl _) _
 have HX0 := Lib.hid (aRow_ hw0 hX)
 have hbl := hB.lt
 have hblo := hB.lo
 have lbX : b < X := by omega
 have HB0 := Lib.hid (hB.below hb0)
 have HW0 : Hid (Wro base b W w0) := .of hb0 (by omega)
 have HX := Lib.hid hX
 have Hw0 := Lib.hid hw0
 have HT : Hid (IsBT T) := hT
 clear hX hw0 hb0 hB
 obtain ⟨z0, z1, z2, z3, z4, z5, z6, z7, z8, z9⟩ := row10_ HX0.out
 have zl : X < w0.heap.size := (Array.getElem?_eq_some_iff.1 HX0.out).1
 have HP := Lib.hid hP
 have HCA := Lib.hid hcaps
 have HNS := Lib.hid hnums
 have HWN := Lib.hid hwant
 have HNM := Lib.hid hN
 have HWR := Lib.hid hW
 obtain ⟨opl, hopl⟩ : ∃ opl : List UInt8, (if x.opn = true then spsB [[111, 112, 101, 110]] else []) = opl := ⟨_, rfl⟩
 have HOPL := Lib.hid hopl
 have hsz2 := hsz
 unfold wrapW at hsz2
 rw [hopl] at hsz2
 have hev : wrapW x = wrapW x := rfl
 conv at hev => (rhs; unfold wrapW)
 rw [hopl] at hev
 have HSZ : Hid (l.length + (spsB [[119, 105, 116, 104]] ++ (opl ++ (spsB [subB x] ++ ((x.nums.map fun n => spsB [digW n]).flatten ++ (capsB x.caps ++ whenW x.when_ x.want))))).length ≤ 140737488355328) := hsz2
 have HEV : Hid (wrapW x = spsB [[119, 105, 116, 104]] ++ (opl ++ (spsB [subB x] ++ ((x.nums.map fun n => spsB [digW n]).flatten ++ (capsB x.caps ++ whenW x.when_ x.want))))) := hev
 clear hPP hP hcaps hnums hwant hN hW hsz hsz2 hev hopl
 go_enter Tryz.func136, Tryz.ntmps136
 go_upto_region 1 with fail
 rw [HX.out, Hw0.out]
 have C1 : Hid (Calls Tryz.prog 134 #[.pointer (some ⟨b, 0, none⟩), .slice (some ⟨w0.heap.size, 0, none⟩) 1 1] (w0.alloc (.cells #[Value.string ⟨#[119, 105, 116, 104]⟩] 9)) (WrPost T base b (w0.alloc (.cells #[Value.string ⟨#[119, 105, 116, 104]⟩] 9)) ((l) ++ spsB [[119, 105, 116, 104]]))) := words_any HT.out w0.heap.size [⟨#[119, 105, 116, 104]⟩] (HB0.out.below ((Below.refl _ w0).alloc (Nat.le_refl _) _)) (heap_alloc_new w0 _) (by have := HB0.out.lt; omega) (Nat.le_of_ble_eq_true rfl) (show (l).length + (spsB [[119, 105, 116, 104]]).length ≤ 140737488355328 by have h := HSZ.out; (try simp only [length_append] at h); (try simp only [length_append]); omega)
 go_wp2_with (go_at_call 134; refine C1.out.mono ?_)
 rintro e1 w1 ⟨rfl, ⟨v1, hB1⟩, hW1x⟩
 have hW1 : Wro base b w0 w1 := (Wro.of ((Below.refl _ w0).alloc (Nat.le_refl _) _) (by have := HB0.out.lt; have := HB0.out.lo; omega)).trans hW1x
 have HB1 : Hid (Bd T base b w1 v1 (l ++ spsB [[119, 105, 116, 104]])) := by have h := hB1; show Bd _ _ _ _ _ _; (try simp only [List.append_assoc, List.map_take] at h); (try simp only [List.append_assoc, List.map_take]); exact h
 have HW1 : Hid (Wro base b W w1) := HW0.out.trans hW1
 have HX1 := Lib.hid (hW1.box HX0.out (by decide) (by omega))
 clear hB1 hW1x hW1 C1
 clear z0 z1 z2 z3 z4 z5 z6 z7 z8 z9 zl
 obtain ⟨z0, z1, z2, z3, z4, z5, z6, z7, z8, z9⟩ := row10_ HX1.out
 have zl : X < w1.heap.size := (Array.getElem?_eq_some_iff.1 HX1.out).1
 obtain ⟨bo, hbo⟩ : ∃ bo, x.opn = bo := ⟨_, rfl⟩
 rw [hbo] at z0
 have HO := Lib.hid hbo
 clear hbo
 go_upto_if 11 with fail
 go_cut [] (fun wx => ∃ vx : Value, Hid (Bd T base b wx vx (l ++ spsB [[119, 105, 116, 104]] ++ opl)) ∧ Hid (Wro base b W wx) ∧ Hid (wx.heap[X]? = some (.cells #[.bool x.opn, .string x.word, .string x.sub, .slice nq x.nums.length nc, .slice uq x.caps.length uc, .bool x.when_, .int .i64 x.want.op, .int .i64 x.want.num, .slice q1 x.want.l.length m1, .int .i64 x.pos] 90 (0, 0))))
 case first =>
  cases bo with
  | true =>
   have HSZ : Hid (l.length + (spsB [[119, 105, 116, 104]] ++ (spsB [[111, 112, 101, 110]] ++ (spsB [subB x] ++ ((x.nums.map fun n => spsB [digW n]).flatten ++ (capsB x.caps ++ whenW x.when_ x.want))))).length ≤ 140737488355328) := by have h := HSZ.out; rw [← HOPL.out, if_pos HO.out] at h; exact h
   have C2 : Hid (Calls Tryz.prog 134 #[.pointer (some ⟨b, 0, none⟩), .slice (some ⟨w1.heap.size, 0, none⟩) 1 1] (w1.alloc (.cells #[Value.string ⟨#[111, 112, 101, 110]⟩] 9)) (WrPost T base b (w1.alloc (.cells #[Value.string ⟨#[111, 112, 101, 110]⟩] 9)) ((l ++ spsB [[119, 105, 116, 104]]) ++ spsB [[111, 112, 101, 110]]))) := words_any HT.out w1.heap.size [⟨#[111, 112, 101, 110]⟩] (HB1.out.below ((Below.refl _ w1).alloc (Nat.le_refl _) _)) (heap_alloc_new w1 _) (by have := HB1.out.lt; omega) (Nat.le_of_ble_eq_true rfl) (show (l ++ spsB [[119, 105, 116, 104]]).length + (spsB [[111, 112, 101, 110]]).length ≤ 140737488355328 by have h := HSZ.out; (try simp only [length_append] at h); (try simp only [length_append]); omega)
   go_wp2_with (go_at_call 134; refine C2.out.mono ?_)
   rintro e2 w2 ⟨rfl, ⟨v2, hB2⟩, hW2x⟩
   have hW2 : Wro base b w1 w2 := (Wro.of ((Below.refl _ w1).alloc (Nat.le_refl _) _) (by have := HB1.out.lt; have := HB1.out.lo; omega)).trans hW2x
   have HB2 : Hid (Bd T base b w2 v2 (l ++ spsB [[119, 105, 116, 104]] ++ spsB [[111, 112, 101, 110]])) := by have h := hB2; show Bd _ _ _ _ _ _; (try simp only [List.append_assoc, List.map_take] at h); (try simp only [List.append_assoc, List.map_take]); exact h
   have HW2 : Hid (Wro base b W w2) := HW1.out.trans hW2
   have HX2 := Lib.hid (hW2.box HX1.out (by decide) (by omega))
   clear hB2 hW2x hW2 C2
   go_wp2_with fail
   go_meet
   exact ⟨v2, by show Bd _ _ _ _ _ _; rw [← HOPL.out, if_pos HO.out]; exact HB2.out, HW2.out, HX2.out⟩
  | false =>
   go_wp2_with fail
   go_meet
   exact ⟨v1, by show Bd _ _ _ _ _ _; rw [← HOPL.out, HO.out, if_neg (by decide), List.append_nil]; exact HB1.out, HW1.out, HX1.out⟩
 case rest =>
  obtain ⟨v3, HB3, HW3, HX3⟩ := hcut
  rename World => w3
  clear z0 z1 z2 z3 z4 z5 z6 z7 z8 z9 zl
  obtain ⟨z0, z1, z2, z3, z4, z5, z6, z7, z8, z9⟩ := row10_ HX3.out
  have zl : X < w3.heap.size := (Array.getElem?_eq_some_iff.1 HX3.out).1
  clear HO
  obtain ⟨sb, hsb⟩ : ∃ sb, x.sub = sb := ⟨_, rfl⟩
  rw [hsb] at z2
  have HSB := Lib.hid hsb
  clear hsb
  go_upto_if 19 with fail
  go_cut [4] (fun s4 wx => s4 = .string (ba (subB x)) ∧ Hid (Bd T base b wx v3 (l ++ spsB [[119, 105, 116, 104]] ++ opl)) ∧ Hid (Wro base b W wx) ∧ Hid (wx.heap[X]? = some (.cells #[.bool x.opn, .string x.word, .string x.sub, .slice nq x.nums.length nc, .slice uq x.caps.length uc, .bool x.when_, .int .i64 x.want.op, .int .i64 x.want.num, .slice q1 x.want.l.length m1, .int .i64 x.pos] 90 (0, 0))))
  case first =>
   by_cases hs0 : sb.size = 0
   ·have HSU : Hid (ba (subB x) = x.word) := by show _ = _; unfold subB; rw [HSB.out, if_pos hs0, List.append_nil, ba_bs]
    have hv : (!sb.toList.isEmpty) = false := by rw [empty_is hs0, ByteArray.toList_eq]; rfl
    rw [hv]
    clear hs0 hv
    go_wp2_with fail
    go_meet
    exact ⟨by rw [HSU.out], HB3.out, HW3.out, HX3.out⟩
   ·obtain ⟨n1, n2, n3, n4⟩ := empty_ne hs0
    have hsub : subB x = bs x.word ++ (58 :: bs sb) := by unfold subB; rw [HSB.out, if_neg hs0]
    have h1 : (spsB [subB x]).length = 1 + (x.word.size + (1 + sb.size)) := by rw [hsub]; simp [spsB, spB, bs]; omega
    have hz := HSZ.out
    simp only [length_append] at hz
    rw [h1] at hz
    have hq1 : ¬ 9223372036854775807 < 1 + sb.size := by omega
    have hc1 : (⟨#[58]⟩ : ByteArray) ++ sb = ba (58 :: bs sb) := cat_ba3 [58] sb
    have hq2 : ¬ 9223372036854775807 < x.word.size + (ba (58 :: bs sb)).size := by rw [ba_size, List.length_cons]; show ¬ _ < _ + (sb.size + 1); omega
    have hq3 : ¬ 9223372036854775807 < x.word.size + (1 + sb.size) := by omega
    have hc2 : x.word ++ ba (58 :: bs sb) = ba (subB x) := by rw [hsub]; exact cat_ba2 _ _
    have hv : (!sb.toList.isEmpty) = true := by rw [n4]; rfl
    rw [hv]
    clear hsub h1 hz hs0 hv
    go_wp2_with fail
    go_meet
    exact ⟨by rfl, HB3.out, HW3.out, HX3.out⟩
  case rest =>
   clear z0 z1 z2 z3 z4 z5 z6 z7 z8 z9 zl
   clear HB3 HW3 HX3
   obtain ⟨hs4, HB4, HW4, HX4⟩ := hcut
   subst hs4
   rename World => w4
   obtain ⟨z0, z1, z2, z3, z4, z5, z6, z7, z8, z9⟩ := row10_ HX4.out
   have zl : X < w4.heap.size := (Array.getElem?_eq_some_iff.1 HX4.out).1
   have C5 : Hid (Calls Tryz.prog 134 #[.pointer (some ⟨b, 0, none⟩), .slice (some ⟨w4.heap.size, 0, none⟩) 1 1] (w4.alloc (.cells #[Value.string (ba (subB x))] 9)) (WrPost T base b (w4.alloc (.cells #[Value.string (ba (subB x))] 9)) ((l ++ spsB [[119, 105, 116, 104]] ++ opl) ++ spsB [subB x]))) := words_any HT.out w4.heap.size [ba (subB x)] (HB4.out.below ((Below.refl _ w4).alloc (Nat.le_refl _) _)) (heap_alloc_new w4 _) (by have := HB4.out.lt; omega) (Nat.le_of_ble_eq_true rfl) (show (l ++ spsB [[119, 105, 116, 104]] ++ opl).length + (spsB [subB x]).length ≤ 140737488355328 by have h := HSZ.out; (try simp only [length_append] at h); (try simp only [length_append]); omega)
   go_wp2_with (go_at_call 134; refine C5.out.mono ?_)
   rintro e5 w5 ⟨rfl, ⟨v5, hB5⟩, hW5x⟩
   have hW5 : Wro base b w4 w5 := (Wro.of ((Below.refl _ w4).alloc (Nat.le_refl _) _) (by have := HB4.out.lt; have := HB4.out.lo; omega)).trans hW5x
   have HB5 : Hid (Bd T base b w5 v5 (l ++ spsB [[119, 105, 116, 104]] ++ opl ++ spsB [subB x])) := by have h := hB5; show Bd _ _ _ _ _ _; (try simp only [List.append_assoc, List.map_take] at h); (try simp only [List.append_assoc, List.map_take]); exact h
   have HW5 : Hid (Wro base b W w5) := HW4.out.trans hW5
   have HX5 := Lib.hid (hW5.box HX4.out (by decide) (by omega))
   clear hB5 hW5x hW5 C5
   clear z0 z1 z2 z3 z4 z5 z6 z7 z8 z9 zl
   obtain ⟨z0, z1, z2, z3, z4, z5, z6, z7, z8, z9⟩ := row10_ HX5.out
   have zl : X < w5.heap.size := (Array.getElem?_eq_some_iff.1 HX5.out).1
   go_upto_block 0 with fail
   go_cut [] (fun wx => ∃ vx : Value, Hid (Bd T base b wx vx (l ++ spsB [[119, 105, 116, 104]] ++ opl ++ spsB [subB x] ++ (x.nums.map fun n => spsB [digW n]).flatten)) ∧ Hid (Wro base b W wx) ∧ Hid (wx.heap[X]? = some (.cells #[.bool x.opn, .string x.word, .string x.sub, .slice nq x.nums.length nc, .slice uq x.caps.length uc, .bool x.when_, .int .i64 x.want.op, .int .i64 x.want.num, .slice q1 x.want.l.length m1, .int .i64 x.pos] 90 (0, 0))))
   case first =>
    go_wp2_with fail
    go_loopw [6, 32] (fun s6 s32 w6 => ∃ (j : Nat) (v6 : Value), s32 = .int .i64 (j : Nat) ∧ j ≤ x.nums.length ∧ Hid (Bd T base b w6 v6 (l ++ spsB [[119, 105, 116, 104]] ++ opl ++ spsB [subB x] ++ ((x.nums.take j).map fun n => spsB [digW n]).flatten)) ∧ Hid (Wro base b W w6) ∧ Hid (w6.heap[X]? = some (.cells #[.bool x.opn, .string x.word, .string x.sub, .slice nq x.nums.length nc, .slice uq x.caps.length uc, .bool x.when_, .int .i64 x.want.op, .int .i64 x.want.num, .slice q1 x.want.l.length m1, .int .i64 x.pos] 90 (0, 0)))) (fun _ i _ => x.nums.length - (intOf i).toNat)
    case atStart => exact ⟨0, v5, rfl, Nat.zero_le _, by show Bd _ _ _ _ _ _; rw [List.take_zero, List.map_nil, List.flatten_nil, List.append_nil]; exact HB5.out, HW5.out, HX5.out⟩
    case round =>
     rename World => w6
     obtain ⟨j, v6, rfl, hj, HB6, HW6, HX6⟩ := hrel
     by_cases hlt : j < x.nums.length
     ·obtain ⟨nn, hnn⟩ : ∃ nn, x.nums[j]? = some nn := ⟨_, List.getElem?_eq_getElem hlt⟩
      obtain ⟨bb, o, cap2, e, hPb, hbl2, d0⟩ := HNS.out.at hnn
      injection e with e _ e3
      subst e; subst e3
      have y0 := cell_block (HW6.out.bel.block bb hPb) d0
      have hnr := HNM.out.1 nn (List.mem_of_getElem? hnn)
      obtain ⟨nu, hnu⟩ : ∃ nu : Nat, nn = (nu : Int) := ⟨nn.toNat, by have := hnr.1; omega⟩
      have hnl : nu < 18446744073709551616 := by have := hnr.2; omega
      subst hnu
      have h1 := flat_step (f := fun n => spsB [digW n]) hnn
      have h2 := flat_take_le (fun n => spsB [digW n]) x.nums (j + 1)
      have H1 := Lib.hid h1
      have hl1 := congrArg List.length h1
      rw [length_append] at hl1
      have hz := HSZ.out
      simp only [length_append] at hz
      have HSZ : Hid ((l ++ spsB [[119, 105, 116, 104]] ++ opl ++ spsB [subB x] ++ ((x.nums.take j).map fun n => spsB [digW n]).flatten).length + (spsB [digW (nu : Nat)]).length ≤ 140737488355328) := by show _ ≤ _; simp only [length_append]; omega
      have g0 : (j : Int) < ((x.nums.length : Nat) : Int) := by omega
      have g00 : (0 : Int) ≤ (j : Int) := by omega
      clear hnn hPb hbl2 d0 hnr h1 h2 hl1 hz
      have C7 := Lib.hid ((show Calls Tryz.prog 137 #[.int .u64 (nu : Nat)] w6 (PatPost w6 (.string (ba (Lib.itoa (nu : Nat))))) from digits_any nu hnl w6 (HP.out.below HW6.out.bel).pow))
      go_wp2_with (go_at_call 137; refine C7.out.mono ?_)
      rintro e7 w7 ⟨rfl, hb7⟩
      have hW7 : Wro base b w6 w7 := .of hb7 (by have := HB6.out.lt; have := HB6.out.lo; omega)
      have HB7 := Lib.hid (HB6.out.below hb7)
      have HW7 : Hid (Wro base b W w7) := HW6.out.trans hW7
      have HX7 := Lib.hid (hW7.box HX6.out (by decide) (by omega))
      clear hb7 hW7 C7
      have C8 : Hid (Calls Tryz.prog 134 #[.pointer (some ⟨b, 0, none⟩), .slice (some ⟨w7.heap.size, 0, none⟩) 1 1] (w7.alloc (.cells #[Value.string (ba (Lib.itoa (nu : Nat)))] 9)) (WrPost T base b (w7.alloc (.cells #[Value.string (ba (Lib.itoa (nu : Nat)))] 9)) ((l ++ spsB [[119, 105, 116, 104]] ++ opl ++ spsB [subB x] ++ ((x.nums.take j).map fun n => spsB [digW n]).flatten) ++ spsB [digW (nu : Nat)]))) := words_any HT.out w7.heap.size [ba (Lib.itoa (nu : Nat))] (HB7.out.below ((Below.refl _ w7).alloc (Nat.le_refl _) _)) (heap_alloc_new w7 _) (by have := HB7.out.lt; omega) (Nat.le_of_ble_eq_true rfl) (show (l ++ spsB [[119, 105, 116, 104]] ++ opl ++ spsB [subB x] ++ ((x.nums.take j).map fun n => spsB [digW n]).flatten).length + (spsB [digW (nu : Nat)]).length ≤ 140737488355328 by have h := HSZ.out; (try simp only [length_append] at h); (try simp only [length_append]); omega)
      go_wp2_with (go_at_call 134; refine C8.out.mono ?_)
      rintro e8 w8 ⟨rfl, ⟨v8, hB8⟩, hW8x⟩
      have hW8 : Wro base b w7 w8 := (Wro.of ((Below.refl _ w7).alloc (Nat.le_refl _) _) (by have := HB7.out.lt; have := HB7.out.lo; omega)).trans hW8x
      have HB8 : Hid (Bd T base b w8 v8 (l ++ spsB [[119, 105, 116, 104]] ++ opl ++ spsB [subB x] ++ ((x.nums.take j).map fun n => spsB [digW n]).flatten ++ spsB [digW (nu : Nat)])) := by have h := hB8; show Bd _ _ _ _ _ _; (try simp only [List.append_assoc, List.map_take] at h); (try simp only [List.append_assoc, List.map_take]); exact h
      have HW8 : Hid (Wro base b W w8) := HW7.out.trans hW8
      have HX8 := Lib.hid (hW8.box HX7.out (by decide) (by omega))
      clear hB8 hW8x hW8 C8
      go_wp2_with fail
      go_roundw
      case rel => exact ⟨j + 1, v8, by go_num, by omega, by show Bd _ _ _ _ _ _; rw [H1.out, ← List.append_assoc]; exact HB8.out, HW8.out, HX8.out⟩
      case measure => simp [intOf]; omega
     ·obtain rfl : j = x.nums.length := by omega
      have hjj : ¬ ((x.nums.length : Nat) : Int) < ((x.nums.length : Nat) : Int) := by omega
      go_wp2_with fail
      go_meet
      exact ⟨v6, by have h := HB6.out; rw [List.take_length] at h; exact h, HW6.out, HX6.out⟩
   case rest =>
    clear z0 z1 z2 z3 z4 z5 z6 z7 z8 z9 zl
    clear HB4 HW4 HX4 HB5 HW5 HX5
    obtain ⟨v9, HB9, HW9, HX9⟩ := hcut
    rename World => w9
    obtain ⟨z0, z1, z2, z3, z4, z5, z6, z7, z8, z9⟩ := row10_ HX9.out
    have zl : X < w9.heap.size := (Array.getElem?_eq_some_iff.1 HX9.out).1
    have hb9l := HB9.out.lt
    have C10 := Lib.hid (caps_any HT.out HB9.out (FlP.kept HCA.out (Lo.kept HW9.out.bel)) HNM.out.2 (by have h := HSZ.out; (try simp only [length_append] at h); (try simp only [length_append]); omega))
    go_wp2_with (go_at_call 160; refine C10.out.mono ?_)
    rintro e10 w10 ⟨rfl, ⟨v10, hB10⟩, hW10x⟩
    have hW10 : Wro base b w9 w10 := hW10x
    have HB10 : Hid (Bd T base b w10 v10 (l ++ spsB [[119, 105, 116, 104]] ++ opl ++ spsB [subB x] ++ (x.nums.map fun n => spsB [digW n]).flatten ++ capsB x.caps)) := by have h := hB10; show Bd _ _ _ _ _ _; (try simp only [List.append_assoc, List.map_take] at h); (try simp only [List.append_assoc, List.map_take]); exact h
    have HW10 : Hid (Wro base b W w10) := HW9.out.trans hW10
    have HX10 := Lib.hid (hW10.box HX9.out (by decide) (by omega))
    clear hB10 hW10x hW10 C10
    clear z0 z1 z2 z3 z4 z5 z6 z7 z8 z9 zl
    obtain ⟨z0, z1, z2, z3, z4, z5, z6, z7, z8, z9⟩ := row10_ HX10.out
    have zl : X < w10.heap.size := (Array.getElem?_eq_some_iff.1 HX10.out).1
    have C11 := Lib.hid (when_any HT.out HB10.out x.when_ _ x.want _ _ _ _ _ (HP.out.below HW10.out.bel) (HWN.out.kept (Lo.kept HW10.out.bel)) HWR.out (by have h := HSZ.out; (try simp only [length_append] at h); (try simp only [length_append]); omega))
    go_wp2_with (go_at_call 140; refine C11.out.mono ?_)
    rintro e11 w11 ⟨rfl, ⟨v11, hB11⟩, hW11x⟩
    have hW11 : Wro base b w10 w11 := hW11x
    have HB11 : Hid (Bd T base b w11 v11 (l ++ spsB [[119, 105, 116, 104]] ++ opl ++ spsB [subB x] ++ (x.nums.map fun n => spsB [digW n]).flatten ++ capsB x.caps ++ whenW x.when_ x.want)) := by have h := hB11; show Bd _ _ _ _ _ _; (try simp only [List.append_assoc, List.map_take] at h); (try simp only [List.append_assoc, List.map_take]); exact h
    have HW11 : Hid (Wro base b W w11) := HW10.out.trans hW11
    have HX11 := Lib.hid (hW11.box HX10.out (by decide) (by omega))
    clear hB11 hW11x hW11 C11
    go_wp2_with fail
    go_end0
    rw [← HPP.out]
    exact ⟨rfl, ⟨_, by rw [HEV.out]; simp only [← List.append_assoc]; exact HB11.out⟩, HW11.out⟩
end Go.Proofs.YtbdllefnghddcaaGreatDoor
