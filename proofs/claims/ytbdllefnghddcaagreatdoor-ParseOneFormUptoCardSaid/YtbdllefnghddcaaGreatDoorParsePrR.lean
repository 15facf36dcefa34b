/- PARSE: routes and trees, written; Print (the program's). -/
import Derived.Deep.RegionHeld3
import Derived.Test.YtbdllefnghddcaaGreatDoorParsePrH
import Derived.Test.YtbdllefnghddcaaGreatDoorParseFitT
import Derived.Test.YtbdllefnghddcaaGreatDoorScanQuote
import Derived.Test.YtbdllefnghddcaaGreatDoorPMem
namespace Go.Proofs.YtbdllefnghddcaaGreatDoor
open List (length_append)
open Go Go.RowKit
attribute [local go_sem ↓] Go.wp_at_zero Go.wp_at_succ

theorem fit_wraps {d : HandT} (h : handB d = true) : ∀ x ∈ d.wraps, x.when_ = true → rightB x.want = true := fun x hx hw => by
 unfold handB at h
 simp only [Bool.and_eq_true] at h
 have h2 := (List.all_eq_true.1 h.2.2) x hx
 unfold wrapB at h2
 simp only [Bool.and_eq_true] at h2
 have h3 := h2.2.2.2.2
 unfold whenB at h3
 rwa [if_pos hw] at h3
theorem fit_route {r : RouteT} (h : routeB r = true) (hw : r.when_ = true) : rightB r.want = true := by
 unfold routeB at h
 simp only [Bool.and_eq_true] at h
 have h3 := h.2.2.2
 unfold whenB at h3
 rwa [if_pos hw] at h3
theorem handW_ne (d : HandT) : handW d ≠ [] := by unfold handW; simp
theorem routeW_ne (r : RouteT) : routeW r ≠ [] := by unfold routeW; simp

set_option maxRecDepth 100000 in
set_option maxHeartbeats 8000000 in
set_option linter.unusedSimpArgs false in
theorem wroute_any {T : TypeId} (hT : IsBT T) {base b : Nat} {W : World} {v : Value} {l : List UInt8} (hB : Bd T base b W v l) (r : RouteT) (k : Nat) {cs : List Value} (hP : Pv base W) (hR : RouteP (Lo base) W k cs r) (hN : SmR r) (hW : r.when_ = true → rightB r.want = true) (hsz : l.length + (routeW r).length ≤ 140737488355328) :
  Calls Tryz.prog 93 #[.pointer (some ⟨b, 0, none⟩), .agg cs.toArray] W (WrPost T base b W (l ++ routeW r)) := by
 obtain ⟨PP, hPP⟩ : ∃ PP, WrPost T base b W (l ++ routeW r) = PP := ⟨_, rfl⟩
 rw [hPP]
 have HPP := Lib.hid hPP
 obtain ⟨y0, y1, y2, rfl, hwant⟩ := hR
 obtain ⟨k1, q1, m1, -, ew⟩ := hwant.form
 injection ew with ew0 ew
 injection ew with ew1 ew
 injection ew with ew2
 subst ew0; subst ew1; subst ew2
 obtain ⟨w0, hw0⟩ : ∃ w0, W.alloc (.cells #[.string r.filter.name, .int .i64 r.filter.pos, .bool r.when_, .int .i64 r.want.op, .int .i64 r.want.num, .slice q1 r.want.l.length m1, .bool r.els, .string r.to.name, .int .i64 r.to.pos, .int .i64 r.pos] 84) = w0 := ⟨_, rfl⟩
 obtain ⟨X, hX⟩ : ∃ X, W.heap.size = X := ⟨_, rfl⟩
 have hb0 : Below W.heap.size W w0 := by rw [← hw0]; exact (Below.refl _ W).alloc (Nat.le_refl _) _
 have HX0 := Lib.hid (aRow_ hw0 hX)
 have hbl := hB.lt
 have hblo := hB.lo
 have lbX : b < X := by omega
 have HB0 := Lib.hid (hB.below hb0)
 have HW0 : Hid (Wro base b W w0) := .of hb0 (by omega)
 have HX := Lib.hid hX
 have Hw0 := Lib.hid hw0
 have HT : Hid (IsBT T) := hT
 clear hX hw0 hb0 hB
 obtain ⟨ell, hell⟩ : ∃ ell : List UInt8, (if r.els = true then spsB [[101, 108, 115, 101]] else []) = ell := ⟨_, rfl⟩
 have hev : routeW r = routeW r := rfl
 conv at hev => (rhs; unfold routeW)
 rw [hell] at hev
 rw [hev] at hsz
 have HSZ := Lib.hid hsz
 have HEV : Hid (routeW r = [114, 111, 117, 116, 101, 32] ++ (quoteS (bs r.filter.name) ++ (whenW r.when_ r.want ++ (ell ++ (spsB [[45, 62], bs r.to.name] ++ [59, 10]))))) := hev
 have HEL := Lib.hid hell
 have HP := Lib.hid hP
 have HWN := Lib.hid hwant
 have HNM := Lib.hid hN
 have HWR := Lib.hid hW
 have hz := hsz
 simp only [length_append] at hz
 have hq1 : ¬ 9223372036854775807 < 6 + (ba (quoteS r.filter.name.data.toList)).size := by rw [ba_size]; have hq : (quoteS r.filter.name.data.toList).length = (quoteS (bs r.filter.name)).length := rfl; omega
 have hc1 : (⟨#[114, 111, 117, 116, 101, 32]⟩ : ByteArray) ++ ba (quoteS r.filter.name.data.toList) = ba (114 :: 111 :: 117 :: 116 :: 101 :: 32 :: quoteS (bs r.filter.name)) := cat_ba [114, 111, 117, 116, 101, 32] (quoteS (bs r.filter.name))
 have hll : l.length + (ba (114 :: 111 :: 117 :: 116 :: 101 :: 32 :: quoteS (bs r.filter.name))).size ≤ 140737488355328 := by rw [ba_size]; simp only [List.length_cons, List.length_nil] at hz ⊢; omega
 have HLL := Lib.hid hll
 have HXd : Hid (w0.drew.heap[X]? = some (.cells #[.string r.filter.name, .int .i64 r.filter.pos, .bool r.when_, .int .i64 r.want.op, .int .i64 r.want.num, .slice q1 r.want.l.length m1, .bool r.els, .string r.to.name, .int .i64 r.to.pos, .int .i64 r.pos] 84 (0, 0))) := HX0.out
 have HBd : Hid (Bd T base b w0.drew v l) := HB0.out.below (Below.refl _ _).drew
 have HWd : Hid (Wro base b W w0.drew) := HW0.out.drew (by omega)
 have zd : w0.drew.cell? ⟨X, 0, none⟩ = some (.string r.filter.name) := by rw [cell_of_row _ _ _ _ _ _ HXd.out]; rfl
 have lxd : X < w0.drew.heap.size := (Array.getElem?_eq_some_iff.1 HXd.out).1
 have CQ := Lib.hid (quote_any r.filter.name w0.drew HNM.out.2)
 clear hPP hP hwant hN hW hsz hev hell hz hll
 go_enter Tryz.func93, Tryz.ntmps93
 go_upto_region 1 with fail
 rw [HX.out, Hw0.out]
 go_region_held3 (fun W' => W'.cell? ⟨X, 0, none⟩ = some (.string r.filter.name)) (first | exact zd | with_reducible assumption | exact HZ5.out | exact HZ6.out) (first
  | (go_at_call 139; ((refine CQ.out.mono ?_); rintro e5 w5 ⟨rfl, hb5⟩; have HB5 := Lib.hid (HBd.out.below hb5); have HW5 := Lib.hid (HWd.out.below hb5 (by omega)); have HX5 : Hid (w5.heap[X]? = some (.cells #[.string r.filter.name, .int .i64 r.filter.pos, .bool r.when_, .int .i64 r.want.op, .int .i64 r.want.num, .slice q1 r.want.l.length m1, .bool r.els, .string r.to.name, .int .i64 r.to.pos, .int .i64 r.pos] 84 (0, 0))) := (hb5.block X lxd).trans HXd.out; have HZ5 : Hid (w5.cell? ⟨X, 0, none⟩ = some (.string r.filter.name)) := (by show _ = _; rw [cell_of_row _ _ _ _ _ _ HX5.out]; rfl); clear hb5))
  | (go_at_call 133; ((refine (write_any HT.out HB5.out _ HLL.out).mono ?_); rintro e6 w6 ⟨rfl, ⟨v6, hB6⟩, hW6⟩; have HB6 : Hid (Bd T base b w6 v6 (l ++ [114, 111, 117, 116, 101, 32] ++ quoteS (bs r.filter.name))) := (by rw [bs_ba] at hB6; show Bd _ _ _ _ _ _; rw [List.append_assoc]; exact hB6); have HX6 : Hid (w6.heap[X]? = some (.cells #[.string r.filter.name, .int .i64 r.filter.pos, .bool r.when_, .int .i64 r.want.op, .int .i64 r.want.num, .slice q1 r.want.l.length m1, .bool r.els, .string r.to.name, .int .i64 r.to.pos, .int .i64 r.pos] 84 (0, 0))) := hW6.box HX5.out (by decide) (by omega); have HW6 := Lib.hid (HW5.out.trans hW6); have HZ6 : Hid (w6.cell? ⟨X, 0, none⟩ = some (.string r.filter.name)) := (by show _ = _; rw [cell_of_row _ _ _ _ _ _ HX6.out]; rfl); clear hB6 hW6)))
 all_goals
  go_simp
  clear zd lxd hq1 hc1 HXd HBd HWd CQ HX0 HB0 HW0
  obtain ⟨z0, z1, z2, z3, z4, z5, z6, z7, z8, z9⟩ := row10_ HX6.out
  have zl : X < w6.heap.size := (Array.getElem?_eq_some_iff.1 HX6.out).1
  obtain ⟨bo, hbo⟩ : ∃ bo, r.els = bo := ⟨_, rfl⟩
  have HBO := Lib.hid hbo
  clear hbo
  have C7 := Lib.hid (when_any HT.out HB6.out r.when_ _ r.want _ _ _ _ _ (HP.out.below HW6.out.bel) (HWN.out.kept (Lo.kept HW6.out.bel)) HWR.out (by have h := HSZ.out; (try simp only [length_append] at h); (try simp only [length_append]); omega))
  go_wp2_with (go_at_call 140; refine C7.out.mono ?_)
  rintro e7 w7 ⟨rfl, ⟨v7, hB7⟩, hW7x⟩
  have hW7 : Wro base b w6 w7 := hW7x
  have HB7 : Hid (Bd T base b w7 v7 (l ++ [114, 111, 117, 116, 101, 32] ++ quoteS (bs r.filter.name) ++ whenW r.when_ r.want)) := by have h := hB7; show Bd _ _ _ _ _ _; (try simp only [List.append_assoc, List.map_take] at h); (try simp only [List.append_assoc, List.map_take]); exact h
  have HW7 : Hid (Wro base b W w7) := HW6.out.trans hW7
  have HX7 := Lib.hid (hW7.box HX6.out (by decide) (by omega))
  clear hB7 hW7x hW7 C7
  clear z0 z1 z2 z3 z4 z5 z6 z7 z8 z9 zl
  obtain ⟨z0, z1, z2, z3, z4, z5, z6, z7, z8, z9⟩ := row10_ HX7.out
  have zl : X < w7.heap.size := (Array.getElem?_eq_some_iff.1 HX7.out).1
  rw [HBO.out] at z6
  cases bo with
  | false =>
   have hel : ell = [] := by rw [← HEL.out, HBO.out, if_neg (by decide)]
   have HEE := Lib.hid hel
   have hel2 := congrArg List.length hel
   clear hel
   have C9 : Hid (Calls Tryz.prog 134 #[.pointer (some ⟨b, 0, none⟩), .slice (some ⟨w7.heap.size, 0, none⟩) 2 2] (w7.alloc (.cells #[Value.string ⟨#[45, 62]⟩, Value.string (r.to.name)] 9)) (WrPost T base b (w7.alloc (.cells #[Value.string ⟨#[45, 62]⟩, Value.string (r.to.name)] 9)) ((l ++ [114, 111, 117, 116, 101, 32] ++ quoteS (bs r.filter.name) ++ whenW r.when_ r.want) ++ spsB [[45, 62], bs r.to.name]))) := words_any HT.out w7.heap.size [⟨#[45, 62]⟩, r.to.name] (HB7.out.below ((Below.refl _ w7).alloc (Nat.le_refl _) _)) (heap_alloc_new w7 _) (by have := HB7.out.lt; omega) (Nat.le_of_ble_eq_true rfl) (show (l ++ [114, 111, 117, 116, 101, 32] ++ quoteS (bs r.filter.name) ++ whenW r.when_ r.want).length + (spsB [[45, 62], bs r.to.name]).length ≤ 140737488355328 by have h := HSZ.out; (try simp only [length_append] at h); (try simp only [length_append]); omega)
   go_wp2_with (go_at_call 134; refine C9.out.mono ?_)
   rintro e9 w9 ⟨rfl, ⟨v9, hB9⟩, hW9x⟩
   have hW9 : Wro base b w7 w9 := (Wro.of ((Below.refl _ w7).alloc (Nat.le_refl _) _) (by have := HB7.out.lt; have := HB7.out.lo; omega)).trans hW9x
   have HB9 : Hid (Bd T base b w9 v9 (l ++ [114, 111, 117, 116, 101, 32] ++ quoteS (bs r.filter.name) ++ whenW r.when_ r.want ++ spsB [[45, 62], bs r.to.name])) := by have h := hB9; show Bd _ _ _ _ _ _; (try simp only [List.append_assoc, List.map_take] at h); (try simp only [List.append_assoc, List.map_take]); exact h
   have HW9 : Hid (Wro base b W w9) := HW7.out.trans hW9
   have HX9 := Lib.hid (hW9.box HX7.out (by decide) (by omega))
   clear hB9 hW9x hW9 C9
   have C16 : Hid (Calls Tryz.prog 133 #[.pointer (some ⟨b, 0, none⟩), .string ⟨#[59, 10]⟩] w9 (WsPost T base b w9 ⟨#[59, 10]⟩ (l ++ [114, 111, 117, 116, 101, 32] ++ quoteS (bs r.filter.name) ++ whenW r.when_ r.want ++ spsB [[45, 62], bs r.to.name] ++ [59, 10]))) := write_any HT.out HB9.out ⟨#[59, 10]⟩ (show (l ++ [114, 111, 117, 116, 101, 32] ++ quoteS (bs r.filter.name) ++ whenW r.when_ r.want ++ spsB [[45, 62], bs r.to.name]).length + ([59, 10] : List UInt8).length ≤ 140737488355328 from by have h := HSZ.out; (try simp only [length_append] at h); (try simp only [length_append]); omega)
   go_wp2_with (go_at_call 133; refine C16.out.mono ?_)
   rintro e16 w16 ⟨rfl, ⟨v16, hB16⟩, hW16x⟩
   have hW16 : Wro base b w9 w16 := hW16x
   have HB16 : Hid (Bd T base b w16 v16 (l ++ [114, 111, 117, 116, 101, 32] ++ quoteS (bs r.filter.name) ++ whenW r.when_ r.want ++ spsB [[45, 62], bs r.to.name] ++ [59, 10])) := by have h := hB16; show Bd _ _ _ _ _ _; (try simp only [List.append_assoc, List.map_take] at h); (try simp only [List.append_assoc, List.map_take]); exact h
   have HW16 : Hid (Wro base b W w16) := HW9.out.trans hW16
   have HX16 := Lib.hid (hW16.box HX9.out (by decide) (by omega))
   clear hB16 hW16x hW16 C16
   go_wp2_with fail
   go_end0
   rw [← HPP.out]
   exact ⟨rfl, ⟨_, by rw [HEV.out, HEE.out, List.nil_append]; simp only [← List.append_assoc]; exact HB16.out⟩, HW16.out⟩
  | true =>
   have hel : ell = spsB [[101, 108, 115, 101]] := by rw [← HEL.out, HBO.out, if_pos rfl]
   have HEE := Lib.hid hel
   have HSZ : Hid (l.length + ([114, 111, 117, 116, 101, 32] ++ (quoteS (bs r.filter.name) ++ (whenW r.when_ r.want ++ (spsB [[101, 108, 115, 101]] ++ (spsB [[45, 62], bs r.to.name] ++ [59, 10]))))).length ≤ 140737488355328) := by have h := HSZ.out; rw [hel] at h; exact h
   clear hel
   have C8 : Hid (Calls Tryz.prog 134 #[.pointer (some ⟨b, 0, none⟩), .slice (some ⟨w7.heap.size, 0, none⟩) 1 1] (w7.alloc (.cells #[Value.string ⟨#[101, 108, 115, 101]⟩] 9)) (WrPost T base b (w7.alloc (.cells #[Value.string ⟨#[101, 108, 115, 101]⟩] 9)) ((l ++ [114, 111, 117, 116, 101, 32] ++ quoteS (bs r.filter.name) ++ whenW r.when_ r.want) ++ spsB [[101, 108, 115, 101]]))) := words_any HT.out w7.heap.size [⟨#[101, 108, 115, 101]⟩] (HB7.out.below ((Below.refl _ w7).alloc (Nat.le_refl _) _)) (heap_alloc_new w7 _) (by have := HB7.out.lt; omega) (Nat.le_of_ble_eq_true rfl) (show (l ++ [114, 111, 117, 116, 101, 32] ++ quoteS (bs r.filter.name) ++ whenW r.when_ r.want).length + (spsB [[101, 108, 115, 101]]).length ≤ 140737488355328 by have h := HSZ.out; (try simp only [length_append] at h); (try simp only [length_append]); omega)
   go_wp2_with (go_at_call 134; refine C8.out.mono ?_)
   rintro e8 w8 ⟨rfl, ⟨v8, hB8⟩, hW8x⟩
   have hW8 : Wro base b w7 w8 := (Wro.of ((Below.refl _ w7).alloc (Nat.le_refl _) _) (by have := HB7.out.lt; have := HB7.out.lo; omega)).trans hW8x
   have HB8 : Hid (Bd T base b w8 v8 (l ++ [114, 111, 117, 116, 101, 32] ++ quoteS (bs r.filter.name) ++ whenW r.when_ r.want ++ spsB [[101, 108, 115, 101]])) := by have h := hB8; show Bd _ _ _ _ _ _; (try simp only [List.append_assoc, List.map_take] at h); (try simp only [List.append_assoc, List.map_take]); exact h
   have HW8 : Hid (Wro base b W w8) := HW7.out.trans hW8
   have HX8 := Lib.hid (hW8.box HX7.out (by decide) (by omega))
   clear hB8 hW8x hW8 C8
   clear z0 z1 z2 z3 z4 z5 z6 z7 z8 z9 zl
   obtain ⟨z0, z1, z2, z3, z4, z5, z6, z7, z8, z9⟩ := row10_ HX8.out
   have zl : X < w8.heap.size := (Array.getElem?_eq_some_iff.1 HX8.out).1
   have C9 : Hid (Calls Tryz.prog 134 #[.pointer (some ⟨b, 0, none⟩), .slice (some ⟨w8.heap.size, 0, none⟩) 2 2] (w8.alloc (.cells #[Value.string ⟨#[45, 62]⟩, Value.string (r.to.name)] 9)) (WrPost T base b (w8.alloc (.cells #[Value.string ⟨#[45, 62]⟩, Value.string (r.to.name)] 9)) ((l ++ [114, 111, 117, 116, 101, 32] ++ quoteS (bs r.filter.name) ++ whenW r.when_ r.want ++ spsB [[101, 108, 115, 101]]) ++ spsB [[45, 62], bs r.to.name]))) := words_any HT.out w8.heap.size [⟨#[45, 62]⟩, r.to.name] (HB8.out.below ((Below.refl _ w8).alloc (Nat.le_refl _) _)) (heap_alloc_new w8 _) (by have := HB8.out.lt; omega) (Nat.le_of_ble_eq_true rfl) (show (l ++ [114, 111, 117, 116, 101, 32] ++ quoteS (bs r.filter.name) ++ whenW r.when_ r.want ++ spsB [[101, 108, 115, 101]]).length + (spsB [[45, 62], bs r.to.name]).length ≤ 140737488355328 by have h := HSZ.out; (try simp only [length_append] at h); (try simp only [length_append]); omega)
   go_wp2_with (go_at_call 134; refine C9.out.mono ?_)
   rintro e9 w9 ⟨rfl, ⟨v9, hB9⟩, hW9x⟩
   have hW9 : Wro base b w8 w9 := (Wro.of ((Below.refl _ w8).alloc (Nat.le_refl _) _) (by have := HB8.out.lt; have := HB8.out.lo; omega)).trans hW9x
   have HB9 : Hid (Bd T base b w9 v9 (l ++ [114, 111, 117, 116, 101, 32] ++ quoteS (bs r.filter.name) ++ whenW r.when_ r.want ++ spsB [[101, 108, 115, 101]] ++ spsB [[45, 62], bs r.to.name])) := by have h := hB9; show Bd _ _ _ _ _ _; (try simp only [List.append_assoc, List.map_take] at h); (try simp only [List.append_assoc, List.map_take]); exact h
   have HW9 : Hid (Wro base b W w9) := HW8.out.trans hW9
   have HX9 := Lib.hid (hW9.box HX8.out (by decide) (by omega))
   clear hB9 hW9x hW9 C9
   have C16 : Hid (Calls Tryz.prog 133 #[.pointer (some ⟨b, 0, none⟩), .string ⟨#[59, 10]⟩] w9 (WsPost T base b w9 ⟨#[59, 10]⟩ (l ++ [114, 111, 117, 116, 101, 32] ++ quoteS (bs r.filter.name) ++ whenW r.when_ r.want ++ spsB [[101, 108, 115, 101]] ++ spsB [[45, 62], bs r.to.name] ++ [59, 10]))) := write_any HT.out HB9.out ⟨#[59, 10]⟩ (show (l ++ [114, 111, 117, 116, 101, 32] ++ quoteS (bs r.filter.name) ++ whenW r.when_ r.want ++ spsB [[101, 108, 115, 101]] ++ spsB [[45, 62], bs r.to.name]).length + ([59, 10] : List UInt8).length ≤ 140737488355328 from by have h := HSZ.out; (try simp only [length_append] at h); (try simp only [length_append]); omega)
   go_wp2_with (go_at_call 133; refine C16.out.mono ?_)
   rintro e16 w16 ⟨rfl, ⟨v16, hB16⟩, hW16x⟩
   have hW16 : Wro base b w9 w16 := hW16x
   have HB16 : Hid (Bd T base b w16 v16 (l ++ [114, 111, 117, 116, 101, 32] ++ quoteS (bs r.filter.name) ++ whenW r.when_ r.want ++ spsB [[101, 108, 115, 101]] ++ spsB [[45, 62], bs r.to.name] ++ [59, 10])) := by have h := hB16; show Bd _ _ _ _ _ _; (try simp only [List.append_assoc, List.map_take] at h); (try simp only [List.append_assoc, List.map_take]); exact h
   have HW16 : Hid (Wro base b W w16) := HW9.out.trans hW16
   have HX16 := Lib.hid (hW16.box HX9.out (by decide) (by omega))
   clear hB16 hW16x hW16 C16
   go_wp2_with fail
   go_end0
   rw [← HPP.out]
   exact ⟨rfl, ⟨_, by rw [HEV.out, HEE.out]; simp only [← List.append_assoc]; exact HB16.out⟩, HW16.out⟩
end Go.Proofs.YtbdllefnghddcaaGreatDoor
