/- PARSE: a handler, written. -/
import Derived.StillTailTactics
import Derived.Test.YtbdllefnghddcaaGreatDoorParsePrW
import Derived.Test.YtbdllefnghddcaaGreatDoorPMem
namespace Go.Proofs.YtbdllefnghddcaaGreatDoor
open List (length_append)
open Go Go.RowKit
attribute [local go_sem ↓] Go.wp_at_zero Go.wp_at_succ

theorem Wro.drew {base b : Nat} {W W' : World} (h : Wro base b W W') (hb : base ≤ W.heap.size) : Wro base b W W'.drew := h.below (Below.refl _ _).drew hb

set_option maxRecDepth 100000 in
set_option maxHeartbeats 8000000 in
set_option linter.unusedSimpArgs false in
theorem whand_any {T : TypeId} (hT : IsBT T) {base b : Nat} {W : World} {v : Value} {l : List UInt8} (hB : Bd T base b W v l) (d : HandT) (k : Nat) {cs : List Value} (hP : Pv base W) (hR : HandP (Lo base) W k cs d) (hN : NmH d) (hW : ∀ x ∈ d.wraps, x.when_ = true → rightB x.want = true) (hsz : l.length + (handW d).length ≤ 140737488355328) :
  Calls Tryz.prog 92 #[.pointer (some ⟨b, 0, none⟩), .agg cs.toArray] W (WrPost T base b W (l ++ handW d)) := by
 obtain ⟨PP, hPP⟩ : ∃ PP, WrPost T base b W (l ++ handW d) = PP := ⟨_, rfl⟩
 rw [hPP]
 have HPP := Lib.hid hPP
 obtain ⟨c0, c1, c2, c3, c4, c5, v0, u0, rfl, hcore, hws, haf⟩ := hR
 have HCO0 := Lib.hid hcore
 obtain ⟨cv, ec, hcaps⟩ := hcore
 simp only [List.cons.injEq, and_true] at ec
 obtain ⟨rfl, rfl, rfl, rfl, rfl, rfl⟩ := ec
 obtain ⟨cq, cc, rfl, -⟩ := UsP.shape hcaps
 obtain ⟨vq, vk, rfl, hn9⟩ := hws.shape
 obtain ⟨aq, ac, rfl, -⟩ := UsP.shape haf
 obtain ⟨w0, hw0⟩ : ∃ w0, W.alloc (.cells #[.string d.name, .string d.of_.name, .int .i64 d.of_.pos, .string d.core.word, .bool d.core.has, .bool d.core.minus, .int .u64 d.core.num, .slice cq d.core.caps.length cc, .int .i64 d.core.pos, .slice vq d.wraps.length vk, .bool d.room, .int .u64 d.inbox, .string d.drop.name, .int .i64 d.drop.pos, .slice aq d.after.length ac, .int .i64 d.pos] 81) = w0 := ⟨_, rfl⟩
 obtain ⟨X, hX⟩ : ∃ X, W.heap.size = X := ⟨_, rfl⟩
 have hb0 : Below W.heap.size W w0 := by rw [← hw0]; exact (Below.refl _ W).alloc (Nat.le_refl _) _
 have HX0 := Lib.hid (aRow_ hw0 hX)
 have hbl := hB.lt
 have hblo := hB.lo
 have lbX : b < X := by omega
 have HB0 := Lib.hid (hB.below hb0)
 have HW0 : Hid (Wro base b W w0) := .of hb0 (by omega)
 have HX := Lib.hid hX
 have Hw0 := Lib.hid hw0
 have HT : Hid (IsBT T) := hT
 clear hX hw0 hb0 hB
 obtain ⟨ocl, hocl⟩ : ∃ ocl : List UInt8, (if d.of_.name.size = 0 then coreW d.core else spsB [[111, 102], bs d.of_.name]) = ocl := ⟨_, rfl⟩
 obtain ⟨rml, hrml⟩ : ∃ rml : List UInt8, roomW d = rml := ⟨_, rfl⟩
 have hev : handW d = handW d := rfl
 conv at hev => (rhs; unfold handW)
 rw [hocl, hrml] at hev
 rw [hev] at hsz
 have HSZ := Lib.hid hsz
 have HEV : Hid (handW d = [104, 97, 110, 100, 108, 101, 114, 32] ++ (bs d.name ++ ([32, 61] ++ (ocl ++ ((d.wraps.map wrapW).flatten ++ (rml ++ (afterW d.after ++ [59, 10]))))))) := hev
 have HOC := Lib.hid hocl
 have HRM := Lib.hid hrml
 have HP := Lib.hid hP
 have HWS := Lib.hid hws
 have HAF := Lib.hid haf
 have HNM := Lib.hid hN
 have HWR := Lib.hid hW
 obtain ⟨nu, hnu⟩ : ∃ nu : Nat, d.inbox = (nu : Int) := ⟨d.inbox.toNat, by have := hN.2.2.2.1.1; omega⟩
 have hnl : nu < 18446744073709551616 := by have := hN.2.2.2.1.2; omega
 have HNU := Lib.hid hnu
 clear hPP hP hcaps hws haf hN hW hsz hev hocl hrml hnu
 go_enter Tryz.func92, Tryz.ntmps92
 go_upto_region 1 with fail
 rw [HX.out, Hw0.out]
 have h0 : Hid (w0.drew.heap[X]? = some (.cells #[.string d.name, .string d.of_.name, .int .i64 d.of_.pos, .string d.core.word, .bool d.core.has, .bool d.core.minus, .int .u64 d.core.num, .slice cq d.core.caps.length cc, .int .i64 d.core.pos, .slice vq d.wraps.length vk, .bool d.room, .int .u64 d.inbox, .string d.drop.name, .int .i64 d.drop.pos, .slice aq d.after.length ac, .int .i64 d.pos] 81 (0, 0))) := HX0.out
 have HBd : Hid (Bd T base b w0.drew v l) := HB0.out.below (Below.refl _ _).drew
 have HWd : Hid (Wro base b W w0.drew) := HW0.out.drew (by omega)
 have Hx0 := HX0
 clear HX0 HB0 HW0
 obtain ⟨w1, hw1⟩ : ∃ w1, w0.drew = w1 := ⟨_, rfl⟩
 rw [hw1] at h0 HBd HWd
 have Hw1 := Lib.hid hw1
 clear hw1
 skip
 have z0 : w0.drew.cell? ⟨X, 0, none⟩ = some (.string d.name) := by rw [cell_of_row _ _ _ _ _ _ (show w0.drew.heap[X]? = _ from Hx0.out)]; rfl
 have z1 : w0.drew.cell? ⟨X, 1, none⟩ = some (.string d.of_.name) := by rw [cell_of_row _ _ _ _ _ _ (show w0.drew.heap[X]? = _ from Hx0.out)]; rfl
 have z2 : w0.drew.cell? ⟨X, 2, none⟩ = some (.int .i64 d.of_.pos) := by rw [cell_of_row _ _ _ _ _ _ (show w0.drew.heap[X]? = _ from Hx0.out)]; rfl
 have z3 : w0.drew.cell? ⟨X, 3, none⟩ = some (.string d.core.word) := by rw [cell_of_row _ _ _ _ _ _ (show w0.drew.heap[X]? = _ from Hx0.out)]; rfl
 have z4 : w0.drew.cell? ⟨X, 4, none⟩ = some (.bool d.core.has) := by rw [cell_of_row _ _ _ _ _ _ (show w0.drew.heap[X]? = _ from Hx0.out)]; rfl
 have z5 : w0.drew.cell? ⟨X, 5, none⟩ = some (.bool d.core.minus) := by rw [cell_of_row _ _ _ _ _ _ (show w0.drew.heap[X]? = _ from Hx0.out)]; rfl
 have z6 : w0.drew.cell? ⟨X, 6, none⟩ = some (.int .u64 d.core.num) := by rw [cell_of_row _ _ _ _ _ _ (show w0.drew.heap[X]? = _ from Hx0.out)]; rfl
 have z7 : w0.drew.cell? ⟨X, 7, none⟩ = some (.slice cq d.core.caps.length cc) := by rw [cell_of_row _ _ _ _ _ _ (show w0.drew.heap[X]? = _ from Hx0.out)]; rfl
 have z8 : w0.drew.cell? ⟨X, 8, none⟩ = some (.int .i64 d.core.pos) := by rw [cell_of_row _ _ _ _ _ _ (show w0.drew.heap[X]? = _ from Hx0.out)]; rfl
 have z9 : w0.drew.cell? ⟨X, 9, none⟩ = some (.slice vq d.wraps.length vk) := by rw [cell_of_row _ _ _ _ _ _ (show w0.drew.heap[X]? = _ from Hx0.out)]; rfl
 have z10 : w0.drew.cell? ⟨X, 10, none⟩ = some (.bool d.room) := by rw [cell_of_row _ _ _ _ _ _ (show w0.drew.heap[X]? = _ from Hx0.out)]; rfl
 have z11 : w0.drew.cell? ⟨X, 11, none⟩ = some (.int .u64 d.inbox) := by rw [cell_of_row _ _ _ _ _ _ (show w0.drew.heap[X]? = _ from Hx0.out)]; rfl
 have z12 : w0.drew.cell? ⟨X, 12, none⟩ = some (.string d.drop.name) := by rw [cell_of_row _ _ _ _ _ _ (show w0.drew.heap[X]? = _ from Hx0.out)]; rfl
 have z13 : w0.drew.cell? ⟨X, 13, none⟩ = some (.int .i64 d.drop.pos) := by rw [cell_of_row _ _ _ _ _ _ (show w0.drew.heap[X]? = _ from Hx0.out)]; rfl
 have z14 : w0.drew.cell? ⟨X, 14, none⟩ = some (.slice aq d.after.length ac) := by rw [cell_of_row _ _ _ _ _ _ (show w0.drew.heap[X]? = _ from Hx0.out)]; rfl
 have z15 : w0.drew.cell? ⟨X, 15, none⟩ = some (.int .i64 d.pos) := by rw [cell_of_row _ _ _ _ _ _ (show w0.drew.heap[X]? = _ from Hx0.out)]; rfl
 have zl : X < w0.drew.heap.size := (Array.getElem?_eq_some_iff.1 (show w0.drew.heap[X]? = _ from Hx0.out)).1
 have h1 : (bs d.name).length = d.name.size := rfl
 have hz := HSZ.out
 simp only [length_append] at hz
 have hq1 : ¬ 9223372036854775807 < 8 + d.name.size := by omega
 have hc1 : (⟨#[104, 97, 110, 100, 108, 101, 114, 32]⟩ : ByteArray) ++ d.name = ba (104 :: 97 :: 110 :: 100 :: 108 :: 101 :: 114 :: 32 :: bs d.name) := cat_ba3 [104, 97, 110, 100, 108, 101, 114, 32] d.name
 have hq2 : ¬ 9223372036854775807 < (ba (104 :: 97 :: 110 :: 100 :: 108 :: 101 :: 114 :: 32 :: bs d.name)).size + 2 := by rw [ba_size]; show ¬ _ < (d.name.size + 8) + 2; omega
 have hc2 : ba (104 :: 97 :: 110 :: 100 :: 108 :: 101 :: 114 :: 32 :: bs d.name) ++ (⟨#[32, 61]⟩ : ByteArray) = ba (104 :: 97 :: 110 :: 100 :: 108 :: 101 :: 114 :: 32 :: (bs d.name ++ [32, 61])) := cat_ba (104 :: 97 :: 110 :: 100 :: 108 :: 101 :: 114 :: 32 :: bs d.name) [32, 61]
 have C2 : Hid (Calls Tryz.prog 133 #[.pointer (some ⟨b, 0, none⟩), .string (ba (104 :: 97 :: 110 :: 100 :: 108 :: 101 :: 114 :: 32 :: (bs d.name ++ [32, 61])))] w1 (WsPost T base b w1 (ba (104 :: 97 :: 110 :: 100 :: 108 :: 101 :: 114 :: 32 :: (bs d.name ++ [32, 61]))) (l ++ (104 :: 97 :: 110 :: 100 :: 108 :: 101 :: 114 :: 32 :: (bs d.name ++ [32, 61]))))) := by have h := write_any HT.out HBd.out (ba (104 :: 97 :: 110 :: 100 :: 108 :: 101 :: 114 :: 32 :: (bs d.name ++ [32, 61]))) (by rw [ba_size]; simp only [List.length_cons, length_append, List.length_nil] at hz ⊢; omega); rw [bs_ba] at h; exact h
 clear h1 hz
 go_still_tail 7, (by kernel_rfl)
 change wpList _ _ _ _ _ w0.drew
 rw [Hw1.out]
 clear z0 z1 z2 z3 z4 z5 z6 z7 z8 z9 z10 z11 z12 z13 z14 z15 zl
 have HB1 := HBd
 have HW1 := HWd
 have HX1 := h0
 skip
 go_wp2_with (go_at_call 133; refine C2.out.mono ?_)
 rintro e2 w2 ⟨rfl, ⟨v2, hB2⟩, hW2x⟩
 have hW2 : Wro base b w1 w2 := hW2x
 have HB2 : Hid (Bd T base b w2 v2 (l ++ [104, 97, 110, 100, 108, 101, 114, 32] ++ bs d.name ++ [32, 61])) := by have h := hB2; show Bd _ _ _ _ _ _; (try simp only [List.append_assoc, List.map_take] at h); (try simp only [List.append_assoc, List.map_take]); exact h
 have HW2 : Hid (Wro base b W w2) := HW1.out.trans hW2
 have HX2 := Lib.hid (hW2.box HX1.out (by decide) (by omega))
 clear hB2 hW2x hW2 C2
 obtain ⟨z0, z1, z2, z3, z4, z5, z6, z7, z8, z9, z10, z11, z12, z13, z14, z15⟩ := row16_ HX2.out
 have zl : X < w2.heap.size := (Array.getElem?_eq_some_iff.1 HX2.out).1
 obtain ⟨sb, hsb⟩ : ∃ sb, d.of_.name = sb := ⟨_, rfl⟩
 rw [hsb] at z1
 have HSB := Lib.hid hsb
 clear hsb hq1 hc1 hq2 hc2
 go_upto_if 17 with fail
 go_cut [] (fun wx => ∃ vx : Value, Hid (Bd T base b wx vx (l ++ [104, 97, 110, 100, 108, 101, 114, 32] ++ bs d.name ++ [32, 61] ++ ocl)) ∧ Hid (Wro base b W wx) ∧ Hid (wx.heap[X]? = some (.cells #[.string d.name, .string d.of_.name, .int .i64 d.of_.pos, .string d.core.word, .bool d.core.has, .bool d.core.minus, .int .u64 d.core.num, .slice cq d.core.caps.length cc, .int .i64 d.core.pos, .slice vq d.wraps.length vk, .bool d.room, .int .u64 d.inbox, .string d.drop.name, .int .i64 d.drop.pos, .slice aq d.after.length ac, .int .i64 d.pos] 81 (0, 0))))
 case first =>
  by_cases hs0 : sb.size = 0
  ·have hoc : ocl = coreW d.core := by rw [← HOC.out, HSB.out, if_pos hs0]
   have hv : (!sb.toList.isEmpty) = false := by rw [empty_is hs0, ByteArray.toList_eq]; rfl
   rw [hv]
   have hol := congrArg List.length hoc
   have HO := Lib.hid hoc
   clear hs0 hv hoc
   have C3 := Lib.hid (wcore_any HT.out HB2.out d.core (HP.out.below HW2.out.bel) (HCO0.out.kept (Lo.kept HW2.out.bel)) HNM.out.1 HNM.out.2.1 (by have h := HSZ.out; (try simp only [length_append] at h); (try simp only [length_append]); omega))
   go_wp2_with (go_at_call 135; refine C3.out.mono ?_)
   rintro e3 w3 ⟨rfl, ⟨v3, hB3⟩, hW3x⟩
   have hW3 : Wro base b w2 w3 := hW3x
   have HB3 : Hid (Bd T base b w3 v3 (l ++ [104, 97, 110, 100, 108, 101, 114, 32] ++ bs d.name ++ [32, 61] ++ coreW d.core)) := by have h := hB3; show Bd _ _ _ _ _ _; (try simp only [List.append_assoc, List.map_take] at h); (try simp only [List.append_assoc, List.map_take]); exact h
   have HW3 : Hid (Wro base b W w3) := HW2.out.trans hW3
   have HX3 := Lib.hid (hW3.box HX2.out (by decide) (by omega))
   clear hB3 hW3x hW3 C3
   go_wp2_with fail
   go_meet
   exact ⟨v3, by show Bd _ _ _ _ _ _; rw [HO.out]; exact HB3.out, HW3.out, HX3.out⟩
  ·obtain ⟨n1, n2, n3, n4⟩ := empty_ne hs0
   have hoc : ocl = spsB [[111, 102], bs sb] := by rw [← HOC.out, HSB.out, if_neg hs0]
   have hv : (!sb.toList.isEmpty) = true := by rw [n4]; rfl
   rw [hv]
   have HO := Lib.hid hoc
   have HSZ : Hid (l.length + ([104, 97, 110, 100, 108, 101, 114, 32] ++ (bs d.name ++ ([32, 61] ++ (spsB [[111, 102], bs sb] ++ ((d.wraps.map wrapW).flatten ++ (rml ++ (afterW d.after ++ [59, 10]))))))).length ≤ 140737488355328) := by have h := HSZ.out; rw [hoc] at h; exact h
   clear hs0 hv hoc
   have C3 : Hid (Calls Tryz.prog 134 #[.pointer (some ⟨b, 0, none⟩), .slice (some ⟨w2.heap.size, 0, none⟩) 2 2] (w2.alloc (.cells #[Value.string ⟨#[111, 102]⟩, Value.string (sb)] 9)) (WrPost T base b (w2.alloc (.cells #[Value.string ⟨#[111, 102]⟩, Value.string (sb)] 9)) ((l ++ [104, 97, 110, 100, 108, 101, 114, 32] ++ bs d.name ++ [32, 61]) ++ spsB [[111, 102], bs sb]))) := words_any HT.out w2.heap.size [⟨#[111, 102]⟩, sb] (HB2.out.below ((Below.refl _ w2).alloc (Nat.le_refl _) _)) (heap_alloc_new w2 _) (by have := HB2.out.lt; omega) (Nat.le_of_ble_eq_true rfl) (show (l ++ [104, 97, 110, 100, 108, 101, 114, 32] ++ bs d.name ++ [32, 61]).length + (spsB [[111, 102], bs sb]).length ≤ 140737488355328 by have h := HSZ.out; (try simp only [length_append] at h); (try simp only [length_append]); omega)
   go_wp2_with (go_at_call 134; refine C3.out.mono ?_)
   rintro e3 w3 ⟨rfl, ⟨v3, hB3⟩, hW3x⟩
   have hW3 : Wro base b w2 w3 := (Wro.of ((Below.refl _ w2).alloc (Nat.le_refl _) _) (by have := HB2.out.lt; have := HB2.out.lo; omega)).trans hW3x
   have HB3 : Hid (Bd T base b w3 v3 (l ++ [104, 97, 110, 100, 108, 101, 114, 32] ++ bs d.name ++ [32, 61] ++ spsB [[111, 102], bs sb])) := by have h := hB3; show Bd _ _ _ _ _ _; (try simp only [List.append_assoc, List.map_take] at h); (try simp only [List.append_assoc, List.map_take]); exact h
   have HW3 : Hid (Wro base b W w3) := HW2.out.trans hW3
   have HX3 := Lib.hid (hW3.box HX2.out (by decide) (by omega))
   clear hB3 hW3x hW3 C3
   go_wp2_with fail
   go_meet
   exact ⟨v3, by show Bd _ _ _ _ _ _; rw [HO.out]; exact HB3.out, HW3.out, HX3.out⟩
 case rest =>
  clear z0 z1 z2 z3 z4 z5 z6 z7 z8 z9 z10 z11 z12 z13 z14 z15 zl
  clear HB2 HW2 HX2 HSB
  obtain ⟨v4, HB4, HW4, HX4⟩ := hcut
  rename World => w4
  obtain ⟨z0, z1, z2, z3, z4, z5, z6, z7, z8, z9, z10, z11, z12, z13, z14, z15⟩ := row16_ HX4.out
  have zl : X < w4.heap.size := (Array.getElem?_eq_some_iff.1 HX4.out).1
  go_upto_block 0 with fail
  go_cut [] (fun wx => ∃ vx : Value, Hid (Bd T base b wx vx (l ++ [104, 97, 110, 100, 108, 101, 114, 32] ++ bs d.name ++ [32, 61] ++ ocl ++ (d.wraps.map wrapW).flatten)) ∧ Hid (Wro base b W wx) ∧ Hid (wx.heap[X]? = some (.cells #[.string d.name, .string d.of_.name, .int .i64 d.of_.pos, .string d.core.word, .bool d.core.has, .bool d.core.minus, .int .u64 d.core.num, .slice cq d.core.caps.length cc, .int .i64 d.core.pos, .slice vq d.wraps.length vk, .bool d.room, .int .u64 d.inbox, .string d.drop.name, .int .i64 d.drop.pos, .slice aq d.after.length ac, .int .i64 d.pos] 81 (0, 0))))
  case first =>
   go_wp2_with fail
   go_loopw [5, 31] (fun s5 s31 w6 => ∃ (j : Nat) (v6 : Value), s31 = .int .i64 (j : Nat) ∧ j ≤ d.wraps.length ∧ Hid (Bd T base b w6 v6 (l ++ [104, 97, 110, 100, 108, 101, 114, 32] ++ bs d.name ++ [32, 61] ++ ocl ++ ((d.wraps.take j).map wrapW).flatten)) ∧ Hid (Wro base b W w6) ∧ Hid (w6.heap[X]? = some (.cells #[.string d.name, .string d.of_.name, .int .i64 d.of_.pos, .string d.core.word, .bool d.core.has, .bool d.core.minus, .int .u64 d.core.num, .slice cq d.core.caps.length cc, .int .i64 d.core.pos, .slice vq d.wraps.length vk, .bool d.room, .int .u64 d.inbox, .string d.drop.name, .int .i64 d.drop.pos, .slice aq d.after.length ac, .int .i64 d.pos] 81 (0, 0)))) (fun _ i _ => d.wraps.length - (intOf i).toNat)
   case atStart => exact ⟨0, v4, rfl, Nat.zero_le _, by show Bd _ _ _ _ _ _; rw [List.take_zero, List.map_nil, List.flatten_nil, List.append_nil]; exact HB4.out, HW4.out, HX4.out⟩
   case round =>
    rename World => w6
    obtain ⟨j, v6, rfl, hj, HB6, HW6, HX6⟩ := hrel
    by_cases hlt : j < d.wraps.length
    ·obtain ⟨x, hx⟩ : ∃ x, d.wraps[j]? = some x := ⟨_, List.getElem?_eq_getElem hlt⟩
     obtain ⟨bb, o, cap2, cs, e, hPb, hbl2, -, hR, hc⟩ := HWS.out.at hx
     injection e with e _ e3
     subst e; subst e3
     have hbk := HW6.out.bel.block bb hPb
     have HR0 := Lib.hid (hR.kept (Lo.kept HW6.out.bel))
     obtain ⟨v1, u1, y0, y1, y2, rfl, hnums, hcaps2, hwant⟩ := hR
     obtain ⟨k1, q1, m1, -, ew⟩ := hwant.form
     injection ew with ew0 ew
     injection ew with ew1 ew
     injection ew with ew2
     subst ew0; subst ew1; subst ew2
     obtain ⟨nq, nc, rfl, -⟩ := nums_shape hnums
     obtain ⟨uq, uc, rfl, -⟩ := UsP.shape hcaps2
     have y0 : w6.cell? ⟨bb, o + j * 10, none⟩ = some (.bool x.opn) := cell_block hbk (hc 0 _ rfl)
     have y1 : w6.cell? ⟨bb, o + j * 10 + 1, none⟩ = some (.string x.word) := cell_block hbk (hc 1 _ rfl)
     have y2 : w6.cell? ⟨bb, o + j * 10 + 2, none⟩ = some (.string x.sub) := cell_block hbk (hc 2 _ rfl)
     have y3 : w6.cell? ⟨bb, o + j * 10 + 3, none⟩ = some (.slice nq x.nums.length nc) := cell_block hbk (hc 3 _ rfl)
     have y4 : w6.cell? ⟨bb, o + j * 10 + 4, none⟩ = some (.slice uq x.caps.length uc) := cell_block hbk (hc 4 _ rfl)
     have y5 : w6.cell? ⟨bb, o + j * 10 + 5, none⟩ = some (.bool x.when_) := cell_block hbk (hc 5 _ rfl)
     have y6 : w6.cell? ⟨bb, o + j * 10 + 6, none⟩ = some (.int .i64 x.want.op) := cell_block hbk (hc 6 _ rfl)
     have y7 : w6.cell? ⟨bb, o + j * 10 + 7, none⟩ = some (.int .i64 x.want.num) := cell_block hbk (hc 7 _ rfl)
     have y8 : w6.cell? ⟨bb, o + j * 10 + 8, none⟩ = some (.slice q1 x.want.l.length m1) := cell_block hbk (hc 8 _ rfl)
     have y9 : w6.cell? ⟨bb, o + j * 10 + 9, none⟩ = some (.int .i64 x.pos) := cell_block hbk (hc 9 _ rfl)
     obtain ⟨R, hRR⟩ : ∃ R, w6.heap.size = R := ⟨_, rfl⟩
     obtain ⟨w7, hw7⟩ : ∃ w7, w6.alloc (.cells #[.bool x.opn, .string x.word, .string x.sub, .slice nq x.nums.length nc, .slice uq x.caps.length uc, .bool x.when_, .int .i64 x.want.op, .int .i64 x.want.num, .slice q1 x.want.l.length m1, .int .i64 x.pos] 90) = w7 := ⟨_, rfl⟩
     have HR7 := Lib.hid (aRow_ hw7 hRR)
     have hb7 : Below w6.heap.size w6 w7 := by rw [← hw7]; exact (Below.refl _ w6).alloc (Nat.le_refl _) _
     have HX7 := Lib.hid ((hb7.block X (Array.getElem?_eq_some_iff.1 HX6.out).1).trans HX6.out)
     have HB7 : Hid (Bd T base b w7 v6 (l ++ [104, 97, 110, 100, 108, 101, 114, 32] ++ bs d.name ++ [32, 61] ++ ocl ++ ((d.wraps.take j).map wrapW).flatten)) := HB6.out.below hb7
     have hbb6 := HB6.out.lt
     have hbo6 := HB6.out.lo
     have lbR : b < R := by omega
     have HW7 : Hid (Wro base b W w7) := HW6.out.below hb7 (by omega)
     have HRk := Lib.hid (HR0.out.kept (Lo.kept (hb7.mono (show base ≤ w6.heap.size by omega))))
     have HRR := Lib.hid hRR
     have Hw7 := Lib.hid hw7
     have h1 := flat_step (f := wrapW) hx
     have h2 := flat_take_le wrapW d.wraps (j + 1)
     have H1 := Lib.hid h1
     have hl1 := congrArg List.length h1
     rw [length_append] at hl1
     have hz := HSZ.out
     simp only [length_append] at hz
     have hsx : (l ++ [104, 97, 110, 100, 108, 101, 114, 32] ++ bs d.name ++ [32, 61] ++ ocl ++ ((d.wraps.take j).map wrapW).flatten).length + (wrapW x).length ≤ 140737488355328 := by simp only [length_append]; omega
     have g0 : (j : Int) < ((d.wraps.length : Nat) : Int) := by omega
     have g00 : (0 : Int) ≤ (j : Int) := by omega
     have HXM := Lib.hid (List.mem_of_getElem? hx)
     clear hx hPb hbl2 hc hbk hnums hcaps2 hwant h1 h2 hl1 hz hRR hw7 hb7
     go_upto_region 8 with fail
     rw [HRR.out, Hw7.out]
     clear y0 y1 y2 y3 y4 y5 y6 y7 y8 y9
     obtain ⟨y0, y1, y2, y3, y4, y5, y6, y7, y8, y9⟩ := row10_ HR7.out
     have yl : R < w7.heap.size := (Array.getElem?_eq_some_iff.1 HR7.out).1
     have C8 := Lib.hid (wwrap_any HT.out HB7.out x k (HP.out.below HW7.out.bel) HRk.out (HNM.out.2.2.1 x HXM.out) (HWR.out x HXM.out) hsx)
     go_wp2_with (go_at_call 136; refine C8.out.mono ?_)
     rintro e8 w8 ⟨rfl, ⟨v8, hB8⟩, hW8x⟩
     have hW8 : Wro base b w7 w8 := hW8x
     have HB8 : Hid (Bd T base b w8 v8 (l ++ [104, 97, 110, 100, 108, 101, 114, 32] ++ bs d.name ++ [32, 61] ++ ocl ++ ((d.wraps.take j).map wrapW).flatten ++ wrapW x)) := by have h := hB8; show Bd _ _ _ _ _ _; (try simp only [List.append_assoc, List.map_take] at h); (try simp only [List.append_assoc, List.map_take]); exact h
     have HW8 : Hid (Wro base b W w8) := HW7.out.trans hW8
     have HX8 := Lib.hid (hW8.box HX7.out (by decide) (by omega))
     clear hB8 hW8x hW8 C8
     go_wp2_with fail
     go_roundw
     case rel => exact ⟨j + 1, v8, by go_num, by omega, by show Bd _ _ _ _ _ _; rw [H1.out, ← List.append_assoc]; exact HB8.out, HW8.out, HX8.out⟩
     case measure => simp [intOf]; omega
    ·obtain rfl : j = d.wraps.length := by omega
     have hjj : ¬ ((d.wraps.length : Nat) : Int) < ((d.wraps.length : Nat) : Int) := by omega
     go_wp2_with fail
     go_meet
     exact ⟨v6, by have h := HB6.out; rw [List.take_length] at h; exact h, HW6.out, HX6.out⟩
  case rest =>
   clear z0 z1 z2 z3 z4 z5 z6 z7 z8 z9 z10 z11 z12 z13 z14 z15 zl
   clear HB4 HW4 HX4
   obtain ⟨v9, HB9, HW9, HX9⟩ := hcut
   rename World => w9
   obtain ⟨z0, z1, z2, z3, z4, z5, z6, z7, z8, z9, z10, z11, z12, z13, z14, z15⟩ := row16_ HX9.out
   have zl : X < w9.heap.size := (Array.getElem?_eq_some_iff.1 HX9.out).1
   obtain ⟨bo, hbo⟩ : ∃ bo, d.room = bo := ⟨_, rfl⟩
   rw [hbo] at z10
   have HBO := Lib.hid hbo
   clear hbo
   go_upto_if 40 with fail
   go_cut [] (fun wx => ∃ vx : Value, Hid (Bd T base b wx vx (l ++ [104, 97, 110, 100, 108, 101, 114, 32] ++ bs d.name ++ [32, 61] ++ ocl ++ (d.wraps.map wrapW).flatten ++ rml)) ∧ Hid (Wro base b W wx) ∧ Hid (wx.heap[X]? = some (.cells #[.string d.name, .string d.of_.name, .int .i64 d.of_.pos, .string d.core.word, .bool d.core.has, .bool d.core.minus, .int .u64 d.core.num, .slice cq d.core.caps.length cc, .int .i64 d.core.pos, .slice vq d.wraps.length vk, .bool d.room, .int .u64 d.inbox, .string d.drop.name, .int .i64 d.drop.pos, .slice aq d.after.length ac, .int .i64 d.pos] 81 (0, 0))))
   case first =>
    cases bo with
    | false =>
     have hrm : rml = [] := by rw [← HRM.out]; unfold roomW; rw [HBO.out, if_neg (by decide)]
     have HR0 := Lib.hid hrm
     clear hrm
     go_wp2_with fail
     go_meet
     exact ⟨v9, by show Bd _ _ _ _ _ _; rw [HR0.out, List.append_nil]; exact HB9.out, HW9.out, HX9.out⟩
    | true =>
     rw [HNU.out] at z11
     obtain ⟨db, hdb⟩ : ∃ db, d.drop.name = db := ⟨_, rfl⟩
     have HDB := Lib.hid hdb
     clear hdb
     by_cases hs0 : db.size = 0
     ·skip
      have hrm : rml = spsB [[105, 110, 98, 111, 120], digW (nu : Nat)] := by rw [← HRM.out]; unfold roomW; rw [HBO.out, if_pos rfl, HDB.out, HNU.out, if_pos hs0, List.append_nil]
      have HR0 := Lib.hid hrm
      have HSZ : Hid (l.length + ([104, 97, 110, 100, 108, 101, 114, 32] ++ (bs d.name ++ ([32, 61] ++ (ocl ++ ((d.wraps.map wrapW).flatten ++ ((spsB [[105, 110, 98, 111, 120], digW (nu : Nat)]) ++ (afterW d.after ++ [59, 10]))))))).length ≤ 140737488355328) := by have h := HSZ.out; rw [hrm] at h; exact h
      have hse := empty_is hs0
      have HS0 := Lib.hid hs0
      clear hs0 hrm
      have C10 := Lib.hid ((show Calls Tryz.prog 137 #[.int .u64 (nu : Nat)] w9 (PatPost w9 (.string (ba (Lib.itoa (nu : Nat))))) from digits_any nu hnl w9 (HP.out.below HW9.out.bel).pow))
      go_wp2_with (go_at_call 137; refine C10.out.mono ?_)
      rintro e10 w10 ⟨rfl, hb10⟩
      have hW10 : Wro base b w9 w10 := .of hb10 (by have := HB9.out.lt; have := HB9.out.lo; omega)
      have HB10 := Lib.hid (HB9.out.below hb10)
      have HW10 : Hid (Wro base b W w10) := HW9.out.trans hW10
      have HX10 := Lib.hid (hW10.box HX9.out (by decide) (by omega))
      clear hb10 hW10 C10
      have C11 : Hid (Calls Tryz.prog 134 #[.pointer (some ⟨b, 0, none⟩), .slice (some ⟨w10.heap.size, 0, none⟩) 2 2] (w10.alloc (.cells #[Value.string ⟨#[105, 110, 98, 111, 120]⟩, Value.string (ba (Lib.itoa (nu : Nat)))] 9)) (WrPost T base b (w10.alloc (.cells #[Value.string ⟨#[105, 110, 98, 111, 120]⟩, Value.string (ba (Lib.itoa (nu : Nat)))] 9)) ((l ++ [104, 97, 110, 100, 108, 101, 114, 32] ++ bs d.name ++ [32, 61] ++ ocl ++ (d.wraps.map wrapW).flatten) ++ spsB [[105, 110, 98, 111, 120], digW (nu : Nat)]))) := words_any HT.out w10.heap.size [⟨#[105, 110, 98, 111, 120]⟩, ba (Lib.itoa (nu : Nat))] (HB10.out.below ((Below.refl _ w10).alloc (Nat.le_refl _) _)) (heap_alloc_new w10 _) (by have := HB10.out.lt; omega) (Nat.le_of_ble_eq_true rfl) (show (l ++ [104, 97, 110, 100, 108, 101, 114, 32] ++ bs d.name ++ [32, 61] ++ ocl ++ (d.wraps.map wrapW).flatten).length + (spsB [[105, 110, 98, 111, 120], digW (nu : Nat)]).length ≤ 140737488355328 by have h := HSZ.out; (try simp only [length_append] at h); (try simp only [length_append]); omega)
      go_wp2_with (go_at_call 134; refine C11.out.mono ?_)
      rintro e11 w11 ⟨rfl, ⟨v11, hB11⟩, hW11x⟩
      have hW11 : Wro base b w10 w11 := (Wro.of ((Below.refl _ w10).alloc (Nat.le_refl _) _) (by have := HB10.out.lt; have := HB10.out.lo; omega)).trans hW11x
      have HB11 : Hid (Bd T base b w11 v11 (l ++ [104, 97, 110, 100, 108, 101, 114, 32] ++ bs d.name ++ [32, 61] ++ ocl ++ (d.wraps.map wrapW).flatten ++ spsB [[105, 110, 98, 111, 120], digW (nu : Nat)])) := by have h := hB11; show Bd _ _ _ _ _ _; (try simp only [List.append_assoc, List.map_take] at h); (try simp only [List.append_assoc, List.map_take]); exact h
      have HW11 : Hid (Wro base b W w11) := HW10.out.trans hW11
      have HX11 := Lib.hid (hW11.box HX10.out (by decide) (by omega))
      clear hB11 hW11x hW11 C11
      clear z0 z1 z2 z3 z4 z5 z6 z7 z8 z9 z10 z11 z12 z13 z14 z15 zl
      obtain ⟨z0, z1, z2, z3, z4, z5, z6, z7, z8, z9, z10, z11, z12, z13, z14, z15⟩ := row16_ HX11.out
      have zl : X < w11.heap.size := (Array.getElem?_eq_some_iff.1 HX11.out).1
      rw [HDB.out] at z12
      rw [hse] at z12
      clear hse
      go_wp2_with fail
      go_meet
      exact ⟨v11, by show Bd _ _ _ _ _ _; rw [HR0.out]; exact HB11.out, HW11.out, HX11.out⟩
     ·skip
      have hrm : rml = spsB [[105, 110, 98, 111, 120], digW (nu : Nat)] ++ spsB [[100, 114, 111, 112], bs db] := by rw [← HRM.out]; unfold roomW; rw [HBO.out, if_pos rfl, HDB.out, HNU.out, if_neg hs0]
      have HR0 := Lib.hid hrm
      have HSZ : Hid (l.length + ([104, 97, 110, 100, 108, 101, 114, 32] ++ (bs d.name ++ ([32, 61] ++ (ocl ++ ((d.wraps.map wrapW).flatten ++ ((spsB [[105, 110, 98, 111, 120], digW (nu : Nat)] ++ spsB [[100, 114, 111, 112], bs db]) ++ (afterW d.after ++ [59, 10]))))))).length ≤ 140737488355328) := by have h := HSZ.out; rw [hrm] at h; exact h
      obtain ⟨n1, n2, n3, n4⟩ := empty_ne hs0
      have HS0 := Lib.hid hs0
      clear hs0 hrm
      have C10 := Lib.hid ((show Calls Tryz.prog 137 #[.int .u64 (nu : Nat)] w9 (PatPost w9 (.string (ba (Lib.itoa (nu : Nat))))) from digits_any nu hnl w9 (HP.out.below HW9.out.bel).pow))
      go_wp2_with (go_at_call 137; refine C10.out.mono ?_)
      rintro e10 w10 ⟨rfl, hb10⟩
      have hW10 : Wro base b w9 w10 := .of hb10 (by have := HB9.out.lt; have := HB9.out.lo; omega)
      have HB10 := Lib.hid (HB9.out.below hb10)
      have HW10 : Hid (Wro base b W w10) := HW9.out.trans hW10
      have HX10 := Lib.hid (hW10.box HX9.out (by decide) (by omega))
      clear hb10 hW10 C10
      have C11 : Hid (Calls Tryz.prog 134 #[.pointer (some ⟨b, 0, none⟩), .slice (some ⟨w10.heap.size, 0, none⟩) 2 2] (w10.alloc (.cells #[Value.string ⟨#[105, 110, 98, 111, 120]⟩, Value.string (ba (Lib.itoa (nu : Nat)))] 9)) (WrPost T base b (w10.alloc (.cells #[Value.string ⟨#[105, 110, 98, 111, 120]⟩, Value.string (ba (Lib.itoa (nu : Nat)))] 9)) ((l ++ [104, 97, 110, 100, 108, 101, 114, 32] ++ bs d.name ++ [32, 61] ++ ocl ++ (d.wraps.map wrapW).flatten) ++ spsB [[105, 110, 98, 111, 120], digW (nu : Nat)]))) := words_any HT.out w10.heap.size [⟨#[105, 110, 98, 111, 120]⟩, ba (Lib.itoa (nu : Nat))] (HB10.out.below ((Below.refl _ w10).alloc (Nat.le_refl _) _)) (heap_alloc_new w10 _) (by have := HB10.out.lt; omega) (Nat.le_of_ble_eq_true rfl) (show (l ++ [104, 97, 110, 100, 108, 101, 114, 32] ++ bs d.name ++ [32, 61] ++ ocl ++ (d.wraps.map wrapW).flatten).length + (spsB [[105, 110, 98, 111, 120], digW (nu : Nat)]).length ≤ 140737488355328 by have h := HSZ.out; (try simp only [length_append] at h); (try simp only [length_append]); omega)
      go_wp2_with (go_at_call 134; refine C11.out.mono ?_)
      rintro e11 w11 ⟨rfl, ⟨v11, hB11⟩, hW11x⟩
      have hW11 : Wro base b w10 w11 := (Wro.of ((Below.refl _ w10).alloc (Nat.le_refl _) _) (by have := HB10.out.lt; have := HB10.out.lo; omega)).trans hW11x
      have HB11 : Hid (Bd T base b w11 v11 (l ++ [104, 97, 110, 100, 108, 101, 114, 32] ++ bs d.name ++ [32, 61] ++ ocl ++ (d.wraps.map wrapW).flatten ++ spsB [[105, 110, 98, 111, 120], digW (nu : Nat)])) := by have h := hB11; show Bd _ _ _ _ _ _; (try simp only [List.append_assoc, List.map_take] at h); (try simp only [List.append_assoc, List.map_take]); exact h
      have HW11 : Hid (Wro base b W w11) := HW10.out.trans hW11
      have HX11 := Lib.hid (hW11.box HX10.out (by decide) (by omega))
      clear hB11 hW11x hW11 C11
      clear z0 z1 z2 z3 z4 z5 z6 z7 z8 z9 z10 z11 z12 z13 z14 z15 zl
      obtain ⟨z0, z1, z2, z3, z4, z5, z6, z7, z8, z9, z10, z11, z12, z13, z14, z15⟩ := row16_ HX11.out
      have zl : X < w11.heap.size := (Array.getElem?_eq_some_iff.1 HX11.out).1
      rw [HDB.out] at z12
      have C12 : Hid (Calls Tryz.prog 134 #[.pointer (some ⟨b, 0, none⟩), .slice (some ⟨w11.heap.size, 0, none⟩) 2 2] (w11.alloc (.cells #[Value.string ⟨#[100, 114, 111, 112]⟩, Value.string (db)] 9)) (WrPost T base b (w11.alloc (.cells #[Value.string ⟨#[100, 114, 111, 112]⟩, Value.string (db)] 9)) ((l ++ [104, 97, 110, 100, 108, 101, 114, 32] ++ bs d.name ++ [32, 61] ++ ocl ++ (d.wraps.map wrapW).flatten ++ spsB [[105, 110, 98, 111, 120], digW (nu : Nat)]) ++ spsB [[100, 114, 111, 112], bs db]))) := words_any HT.out w11.heap.size [⟨#[100, 114, 111, 112]⟩, db] (HB11.out.below ((Below.refl _ w11).alloc (Nat.le_refl _) _)) (heap_alloc_new w11 _) (by have := HB11.out.lt; omega) (Nat.le_of_ble_eq_true rfl) (show (l ++ [104, 97, 110, 100, 108, 101, 114, 32] ++ bs d.name ++ [32, 61] ++ ocl ++ (d.wraps.map wrapW).flatten ++ spsB [[105, 110, 98, 111, 120], digW (nu : Nat)]).length + (spsB [[100, 114, 111, 112], bs db]).length ≤ 140737488355328 by have h := HSZ.out; (try simp only [length_append] at h); (try simp only [length_append]); omega)
      go_wp2_with (go_at_call 134; refine C12.out.mono ?_)
      rintro e12 w12 ⟨rfl, ⟨v12, hB12⟩, hW12x⟩
      have hW12 : Wro base b w11 w12 := (Wro.of ((Below.refl _ w11).alloc (Nat.le_refl _) _) (by have := HB11.out.lt; have := HB11.out.lo; omega)).trans hW12x
      have HB12 : Hid (Bd T base b w12 v12 (l ++ [104, 97, 110, 100, 108, 101, 114, 32] ++ bs d.name ++ [32, 61] ++ ocl ++ (d.wraps.map wrapW).flatten ++ spsB [[105, 110, 98, 111, 120], digW (nu : Nat)] ++ spsB [[100, 114, 111, 112], bs db])) := by have h := hB12; show Bd _ _ _ _ _ _; (try simp only [List.append_assoc, List.map_take] at h); (try simp only [List.append_assoc, List.map_take]); exact h
      have HW12 : Hid (Wro base b W w12) := HW11.out.trans hW12
      have HX12 := Lib.hid (hW12.box HX11.out (by decide) (by omega))
      clear hB12 hW12x hW12 C12
      go_wp2_with fail
      go_meet
      exact ⟨v12, by show Bd _ _ _ _ _ _; rw [HR0.out, ← List.append_assoc]; exact HB12.out, HW12.out, HX12.out⟩
   case rest =>
    clear z0 z1 z2 z3 z4 z5 z6 z7 z8 z9 z10 z11 z12 z13 z14 z15 zl
    clear HB9 HW9 HX9 HBO
    obtain ⟨v13, HB13, HW13, HX13⟩ := hcut
    rename World => w13
    obtain ⟨z0, z1, z2, z3, z4, z5, z6, z7, z8, z9, z10, z11, z12, z13, z14, z15⟩ := row16_ HX13.out
    have zl : X < w13.heap.size := (Array.getElem?_eq_some_iff.1 HX13.out).1
    by_cases ha0 : d.after.length = 0
    ·have h0i : ¬ (0 : Int) < ((d.after.length : Nat) : Int) := by omega
     have haf : afterW d.after = [] := by unfold afterW; rw [if_pos ha0]
     have HAW := Lib.hid haf
     clear ha0 haf
     have C16 : Hid (Calls Tryz.prog 133 #[.pointer (some ⟨b, 0, none⟩), .string ⟨#[59, 10]⟩] w13 (WsPost T base b w13 ⟨#[59, 10]⟩ (l ++ [104, 97, 110, 100, 108, 101, 114, 32] ++ bs d.name ++ [32, 61] ++ ocl ++ (d.wraps.map wrapW).flatten ++ rml ++ [59, 10]))) := write_any HT.out HB13.out ⟨#[59, 10]⟩ (show (l ++ [104, 97, 110, 100, 108, 101, 114, 32] ++ bs d.name ++ [32, 61] ++ ocl ++ (d.wraps.map wrapW).flatten ++ rml).length + ([59, 10] : List UInt8).length ≤ 140737488355328 from by have h := HSZ.out; (try simp only [length_append] at h); (try simp only [length_append]); omega)
     go_wp2_with (go_at_call 133; refine C16.out.mono ?_)
     rintro e16 w16 ⟨rfl, ⟨v16, hB16⟩, hW16x⟩
     have hW16 : Wro base b w13 w16 := hW16x
     have HB16 : Hid (Bd T base b w16 v16 (l ++ [104, 97, 110, 100, 108, 101, 114, 32] ++ bs d.name ++ [32, 61] ++ ocl ++ (d.wraps.map wrapW).flatten ++ rml ++ [59, 10])) := by have h := hB16; show Bd _ _ _ _ _ _; (try simp only [List.append_assoc, List.map_take] at h); (try simp only [List.append_assoc, List.map_take]); exact h
     have HW16 : Hid (Wro base b W w16) := HW13.out.trans hW16
     have HX16 := Lib.hid (hW16.box HX13.out (by decide) (by omega))
     clear hB16 hW16x hW16 C16
     go_wp2_with fail
     go_end0
     rw [← HPP.out]
     exact ⟨rfl, ⟨_, by rw [HEV.out, HAW.out, List.nil_append]; simp only [← List.append_assoc]; exact HB16.out⟩, HW16.out⟩
    ·have h0i : (0 : Int) < ((d.after.length : Nat) : Int) := by omega
     have haf : afterW d.after = spsB [[97, 102, 116, 101, 114], usesB d.after] := by unfold afterW; rw [if_neg ha0]
     have HAW := Lib.hid haf
     have HSZ : Hid (l.length + ([104, 97, 110, 100, 108, 101, 114, 32] ++ (bs d.name ++ ([32, 61] ++ (ocl ++ ((d.wraps.map wrapW).flatten ++ (rml ++ (spsB [[97, 102, 116, 101, 114], usesB d.after] ++ [59, 10]))))))).length ≤ 140737488355328) := by have h := HSZ.out; rw [haf] at h; exact h
     have hul : (usesB d.after).length ≤ 140737488355328 := by
      have h5 : (spsB [[97, 102, 116, 101, 114], usesB d.after]).length = 6 + (1 + (usesB d.after).length) := by simp [spsB, spB]; omega
      have h := HSZ.out
      simp only [length_append] at h
      omega
     clear ha0 haf
     have C14 := Lib.hid (uses_any (W := w13) (FlP.kept HAF.out (Lo.all HW13.out.bel)) HNM.out.2.2.2.2 hul)
     go_wp2_with (go_at_call 138; refine C14.out.mono ?_)
     rintro e14 w14 ⟨rfl, hb14⟩
     have hW14 : Wro base b w13 w14 := .of hb14 (by have := HB13.out.lt; have := HB13.out.lo; omega)
     have HB14 := Lib.hid (HB13.out.below hb14)
     have HW14 : Hid (Wro base b W w14) := HW13.out.trans hW14
     have HX14 := Lib.hid (hW14.box HX13.out (by decide) (by omega))
     clear hb14 hW14 C14
     have C15 : Hid (Calls Tryz.prog 134 #[.pointer (some ⟨b, 0, none⟩), .slice (some ⟨w14.heap.size, 0, none⟩) 2 2] (w14.alloc (.cells #[Value.string ⟨#[97, 102, 116, 101, 114]⟩, Value.string (ba (usesB d.after))] 9)) (WrPost T base b (w14.alloc (.cells #[Value.string ⟨#[97, 102, 116, 101, 114]⟩, Value.string (ba (usesB d.after))] 9)) ((l ++ [104, 97, 110, 100, 108, 101, 114, 32] ++ bs d.name ++ [32, 61] ++ ocl ++ (d.wraps.map wrapW).flatten ++ rml) ++ spsB [[97, 102, 116, 101, 114], usesB d.after]))) := words_any HT.out w14.heap.size [⟨#[97, 102, 116, 101, 114]⟩, ba (usesB d.after)] (HB14.out.below ((Below.refl _ w14).alloc (Nat.le_refl _) _)) (heap_alloc_new w14 _) (by have := HB14.out.lt; omega) (Nat.le_of_ble_eq_true rfl) (show (l ++ [104, 97, 110, 100, 108, 101, 114, 32] ++ bs d.name ++ [32, 61] ++ ocl ++ (d.wraps.map wrapW).flatten ++ rml).length + (spsB [[97, 102, 116, 101, 114], usesB d.after]).length ≤ 140737488355328 by have h := HSZ.out; (try simp only [length_append] at h); (try simp only [length_append]); omega)
     go_wp2_with (go_at_call 134; refine C15.out.mono ?_)
     rintro e15 w15 ⟨rfl, ⟨v15, hB15⟩, hW15x⟩
     have hW15 : Wro base b w14 w15 := (Wro.of ((Below.refl _ w14).alloc (Nat.le_refl _) _) (by have := HB14.out.lt; have := HB14.out.lo; omega)).trans hW15x
     have HB15 : Hid (Bd T base b w15 v15 (l ++ [104, 97, 110, 100, 108, 101, 114, 32] ++ bs d.name ++ [32, 61] ++ ocl ++ (d.wraps.map wrapW).flatten ++ rml ++ spsB [[97, 102, 116, 101, 114], usesB d.after])) := by have h := hB15; show Bd _ _ _ _ _ _; (try simp only [List.append_assoc, List.map_take] at h); (try simp only [List.append_assoc, List.map_take]); exact h
     have HW15 : Hid (Wro base b W w15) := HW14.out.trans hW15
     have HX15 := Lib.hid (hW15.box HX14.out (by decide) (by omega))
     clear hB15 hW15x hW15 C15
     have C16 : Hid (Calls Tryz.prog 133 #[.pointer (some ⟨b, 0, none⟩), .string ⟨#[59, 10]⟩] w15 (WsPost T base b w15 ⟨#[59, 10]⟩ (l ++ [104, 97, 110, 100, 108, 101, 114, 32] ++ bs d.name ++ [32, 61] ++ ocl ++ (d.wraps.map wrapW).flatten ++ rml ++ spsB [[97, 102, 116, 101, 114], usesB d.after] ++ [59, 10]))) := write_any HT.out HB15.out ⟨#[59, 10]⟩ (show (l ++ [104, 97, 110, 100, 108, 101, 114, 32] ++ bs d.name ++ [32, 61] ++ ocl ++ (d.wraps.map wrapW).flatten ++ rml ++ spsB [[97, 102, 116, 101, 114], usesB d.after]).length + ([59, 10] : List UInt8).length ≤ 140737488355328 from by have h := HSZ.out; (try simp only [length_append] at h); (try simp only [length_append]); omega)
     go_wp2_with (go_at_call 133; refine C16.out.mono ?_)
     rintro e16 w16 ⟨rfl, ⟨v16, hB16⟩, hW16x⟩
     have hW16 : Wro base b w15 w16 := hW16x
     have HB16 : Hid (Bd T base b w16 v16 (l ++ [104, 97, 110, 100, 108, 101, 114, 32] ++ bs d.name ++ [32, 61] ++ ocl ++ (d.wraps.map wrapW).flatten ++ rml ++ spsB [[97, 102, 116, 101, 114], usesB d.after] ++ [59, 10])) := by have h := hB16; show Bd _ _ _ _ _ _; (try simp only [List.append_assoc, List.map_take] at h); (try simp only [List.append_assoc, List.map_take]); exact h
     have HW16 : Hid (Wro base b W w16) := HW15.out.trans hW16
     have HX16 := Lib.hid (hW16.box HX15.out (by decide) (by omega))
     clear hB16 hW16x hW16 C16
     go_wp2_with fail
     go_end0
     rw [← HPP.out]
     exact ⟨rfl, ⟨_, by rw [HEV.out, HAW.out]; simp only [← List.append_assoc]; exact HB16.out⟩, HW16.out⟩
end Go.Proofs.YtbdllefnghddcaaGreatDoor
