/- PARSE: Print (the program's). -/
import Derived.Test.YtbdllefnghddcaaGreatDoorParsePrR
import Derived.Test.YtbdllefnghddcaaGreatDoorPMem
namespace Go.Proofs.YtbdllefnghddcaaGreatDoor
open List (length_append)
set_option linter.unusedSimpArgs false
set_option maxHeartbeats 8000000
set_option maxRecDepth 100000
open Go Go.RowKit
attribute [local go_sem ↓] Go.wp_at_zero Go.wp_at_succ


theorem printed_any (t : TreeT) (W : World) (k : Nat) (vh vr : Value) (hP : Pv W.heap.size W) (hS : SmT t) (hN : NmT t) (hF : fitT t = true) (hR : TreeP All W k vh vr t) (hsz : (printW t).length ≤ 140737488355328) :
  Calls Tryz.prog 45 #[.agg #[vh, vr]] W (PatPost W (.string (ba (printW t)))) := by
 obtain ⟨PP, hPP⟩ : ∃ PP, PatPost W (.string (ba (printW t))) = PP := ⟨_, rfl⟩
 rw [hPP]
 have HPP := Lib.hid hPP
 obtain ⟨hH, hRo⟩ := hR
 obtain ⟨hq, hk, rfl, hn1⟩ := hH.shape
 obtain ⟨rq, rk, rfl, hn2⟩ := hRo.shape
 obtain ⟨WA, hWA⟩ : ∃ WA, W.alloc (.cells #[.slice hq t.hands.length hk, .slice rq t.routes.length rk] 26) = WA := ⟨_, rfl⟩
 obtain ⟨X, hX⟩ : ∃ X, W.heap.size = X := ⟨_, rfl⟩
 have hbA : Below W.heap.size W WA := by rw [← hWA]; exact (Below.refl _ W).alloc (Nat.le_refl _) _
 have hza := aRow_ hWA hX
 have hsa : WA.heap.size = X + 1 := by rw [← hWA, ← hX]; simp
 obtain ⟨w0, hw0⟩ : ∃ w0, WA.alloc (.cells #[.pointer none, .slice none 0 0] 138) = w0 := ⟨_, rfl⟩
 obtain ⟨b, hb⟩ : ∃ b, X + 1 = b := ⟨_, rfl⟩
 have hb0 : Below WA.heap.size WA w0 := by rw [← hw0]; exact (Below.refl _ WA).alloc (Nat.le_refl _) _
 have HB0 : Hid (Bd 138 X b w0 (.slice none 0 0) []) := by have := Bd.new 138 X WA (by omega); rw [hw0, hsa, hb] at this; exact this
 have hb00 : Below X W w0 := by rw [← hX]; exact hbA.trans (hb0.mono hbA.size)
 have HW0 : Hid (Wro X b w0 w0) := Wro.refl _ _ _
 have HX0 : Hid (w0.heap[X]? = some (.cells #[.slice hq t.hands.length hk, .slice rq t.routes.length rk] 26 (0, 0))) := (hb0.block X (by omega)).trans hza
 have HP : Hid (Pv X w0) := by rw [hX] at hP; exact hP.below hb00
 have HH : Hid (ListP (Lo X) w0 16 (HandP (Lo X) w0 k) (.slice hq t.hands.length hk) t.hands) := by
  have hl : ∀ c, All c → c < W.heap.size → w0.heap[c]? = W.heap[c]? ∧ Lo X c := fun c _ h => ⟨hb00.block c (by omega), by show c < X; omega⟩
  exact hH.kept hl fun cs x h => h.kept hl
 have HRo : Hid (ListP (Lo X) w0 10 (RouteP (Lo X) w0 k) (.slice rq t.routes.length rk) t.routes) := by
  have hl : ∀ c, All c → c < W.heap.size → w0.heap[c]? = W.heap[c]? ∧ Lo X c := fun c _ h => ⟨hb00.block c (by omega), by show c < X; omega⟩
  exact hRo.kept hl fun cs x h => h.kept hl
 have HS := Lib.hid hS
 have HN := Lib.hid hN
 have hfh := hF
 unfold fitT at hfh
 rw [Bool.and_eq_true] at hfh
 have HFH := Lib.hid hfh
 have hsz2 : ((t.hands.map handW).flatten).length + ((t.routes.map routeW).flatten).length ≤ 140737488355328 := by unfold printW at hsz; rw [length_append] at hsz; exact hsz
 have HSZ := Lib.hid hsz2
 have hsw : w0.heap.size = X + 2 := by rw [← hw0]; simp [hsa]
 have lbX : X < b := by omega
 have lxa : X < WA.heap.size := by omega
 obtain ⟨z0, z1⟩ := row2_ hza
 have zl : X < WA.heap.size := (Array.getElem?_eq_some_iff.1 hza).1
 have HX := Lib.hid hX
 have HWA := Lib.hid hWA
 have Hw0 := Lib.hid hw0
 have HSA : Hid (WA.heap.size = b) := by show _ = _; omega
 have HB00 : Hid (Below W.heap.size W w0) := hbA.trans (hb0.mono hbA.size)
 clear hPP hP hS hN hF hH hRo hsz hX hWA hbA hza hsa hw0 hb hb0 hb00 hfh hsz2
 go_enter Tryz.func45, Tryz.ntmps45
 go_upto_region 1 with fail
 rw [HX.out, HWA.out]
 go_upto_region 2 with fail
 rw [HSA.out, Hw0.out]
 clear z0 z1 zl
 obtain ⟨z0, z1⟩ := row2_ HX0.out
 have zl : X < w0.heap.size := (Array.getElem?_eq_some_iff.1 HX0.out).1
 go_wp2_with fail
 go_loopw [5, 13] (fun sa sb w6 => ∃ (j : Nat) (v6 : Value), sb = .int .i64 (j : Nat) ∧ j ≤ t.hands.length ∧ Hid (Bd 138 X b w6 v6 (((t.hands.take j).map handW).flatten)) ∧ Hid (Wro X b w0 w6) ∧ Hid (w6.heap[X]? = some (.cells #[.slice hq t.hands.length hk, .slice rq t.routes.length rk] 26 (0, 0))) ∧ Hid (((t.hands.take j).map handW).flatten ≠ [] ∨ v6 = .slice none 0 0)) (fun _ i _ => t.hands.length - (intOf i).toNat)
 case atStart => exact ⟨0, .slice none 0 0, rfl, Nat.zero_le _, by show Bd _ _ _ _ _ _; rw [List.take_zero, List.map_nil, List.flatten_nil]; exact HB0.out, HW0.out, HX0.out, by skip; exact .inr rfl⟩
 case round =>
  rename World => w6
  obtain ⟨j, v6, rfl, hj, HB6, HW6, HX6, HNE6⟩ := hrel
  by_cases hlt : j < t.hands.length
  ·obtain ⟨x, hx⟩ : ∃ x, t.hands[j]? = some x := ⟨_, List.getElem?_eq_getElem hlt⟩
   obtain ⟨bb, o, cap2, cs, e, hPb, hbl2, -, hR, hc⟩ := HH.out.at hx
   injection e with e _ e3
   subst e; subst e3
   have hbk := HW6.out.bel.block bb hPb
   have HR0 := Lib.hid (hR.kept (Lo.kept HW6.out.bel))
   obtain ⟨c0, c1, c2, c3, c4, c5, v, u, rfl, hcore, hws, haf⟩ := hR
   obtain ⟨cv, ec, hcaps⟩ := hcore
   simp only [List.cons.injEq, and_true] at ec
   obtain ⟨rfl, rfl, rfl, rfl, rfl, rfl⟩ := ec
   obtain ⟨cq, cc, rfl, -⟩ := UsP.shape hcaps
   obtain ⟨vq, vk, rfl, -⟩ := hws.shape
   obtain ⟨aq, ac, rfl, -⟩ := UsP.shape haf
   have y0 : w6.cell? ⟨bb, o + j * 16, none⟩ = some (.string x.name) := cell_block hbk (hc 0 _ rfl)
   have y1 : w6.cell? ⟨bb, o + j * 16 + 1, none⟩ = some (.string x.of_.name) := cell_block hbk (hc 1 _ rfl)
   have y2 : w6.cell? ⟨bb, o + j * 16 + 2, none⟩ = some (.int .i64 x.of_.pos) := cell_block hbk (hc 2 _ rfl)
   have y3 : w6.cell? ⟨bb, o + j * 16 + 3, none⟩ = some (.string x.core.word) := cell_block hbk (hc 3 _ rfl)
   have y4 : w6.cell? ⟨bb, o + j * 16 + 4, none⟩ = some (.bool x.core.has) := cell_block hbk (hc 4 _ rfl)
   have y5 : w6.cell? ⟨bb, o + j * 16 + 5, none⟩ = some (.bool x.core.minus) := cell_block hbk (hc 5 _ rfl)
   have y6 : w6.cell? ⟨bb, o + j * 16 + 6, none⟩ = some (.int .u64 x.core.num) := cell_block hbk (hc 6 _ rfl)
   have y7 : w6.cell? ⟨bb, o + j * 16 + 7, none⟩ = some (.slice cq x.core.caps.length cc) := cell_block hbk (hc 7 _ rfl)
   have y8 : w6.cell? ⟨bb, o + j * 16 + 8, none⟩ = some (.int .i64 x.core.pos) := cell_block hbk (hc 8 _ rfl)
   have y9 : w6.cell? ⟨bb, o + j * 16 + 9, none⟩ = some (.slice vq x.wraps.length vk) := cell_block hbk (hc 9 _ rfl)
   have y10 : w6.cell? ⟨bb, o + j * 16 + 10, none⟩ = some (.bool x.room) := cell_block hbk (hc 10 _ rfl)
   have y11 : w6.cell? ⟨bb, o + j * 16 + 11, none⟩ = some (.int .u64 x.inbox) := cell_block hbk (hc 11 _ rfl)
   have y12 : w6.cell? ⟨bb, o + j * 16 + 12, none⟩ = some (.string x.drop.name) := cell_block hbk (hc 12 _ rfl)
   have y13 : w6.cell? ⟨bb, o + j * 16 + 13, none⟩ = some (.int .i64 x.drop.pos) := cell_block hbk (hc 13 _ rfl)
   have y14 : w6.cell? ⟨bb, o + j * 16 + 14, none⟩ = some (.slice aq x.after.length ac) := cell_block hbk (hc 14 _ rfl)
   have y15 : w6.cell? ⟨bb, o + j * 16 + 15, none⟩ = some (.int .i64 x.pos) := cell_block hbk (hc 15 _ rfl)
   obtain ⟨R, hRR⟩ : ∃ R, w6.heap.size = R := ⟨_, rfl⟩
   obtain ⟨w7, hw7⟩ : ∃ w7, w6.alloc (.cells #[.string x.name, .string x.of_.name, .int .i64 x.of_.pos, .string x.core.word, .bool x.core.has, .bool x.core.minus, .int .u64 x.core.num, .slice cq x.core.caps.length cc, .int .i64 x.core.pos, .slice vq x.wraps.length vk, .bool x.room, .int .u64 x.inbox, .string x.drop.name, .int .i64 x.drop.pos, .slice aq x.after.length ac, .int .i64 x.pos] 81) = w7 := ⟨_, rfl⟩
   have HR7 := Lib.hid (aRow_ hw7 hRR)
   have hb7 : Below w6.heap.size w6 w7 := by rw [← hw7]; exact (Below.refl _ w6).alloc (Nat.le_refl _) _
   have HX7 := Lib.hid ((hb7.block X (Array.getElem?_eq_some_iff.1 HX6.out).1).trans HX6.out)
   have HB7 : Hid (Bd 138 X b w7 v6 (((t.hands.take j).map handW).flatten)) := HB6.out.below hb7
   have hbb6 := HB6.out.lt
   have hbo6 := HB6.out.lo
   have HW7 : Hid (Wro X b w0 w7) := HW6.out.below hb7 (by omega)
   have HRk := Lib.hid (HR0.out.kept (Lo.kept (hb7.mono (show X ≤ w6.heap.size by omega))))
   have HRR := Lib.hid hRR
   have Hw7 := Lib.hid hw7
   have h1 := flat_step (f := handW) hx
   have h2 := flat_take_le handW t.hands (j + 1)
   have H1 := Lib.hid h1
   have hl1 := congrArg List.length h1
   rw [length_append] at hl1
   have hz := HSZ.out
   have hsx : (((t.hands.take j).map handW).flatten).length + (handW x).length ≤ 140737488355328 := by omega
   have g0 : (j : Int) < ((t.hands.length : Nat) : Int) := by omega
   have g00 : (0 : Int) ≤ (j : Int) := by omega
   have HXM := Lib.hid (List.mem_of_getElem? hx)
   have HSX := Lib.hid hsx
   clear hx hPb hbl2 hc hbk h1 h2 hl1 hz hRR hw7 hb7 hsx
   go_upto_region 5 with fail
   rw [HRR.out, Hw7.out]
   clear y0 y1 y2 y3 y4 y5 y6 y7 y8 y9 y10 y11 y12 y13 y14 y15
   obtain ⟨y0, y1, y2, y3, y4, y5, y6, y7, y8, y9, y10, y11, y12, y13, y14, y15⟩ := row16_ HR7.out
   have yl : R < w7.heap.size := (Array.getElem?_eq_some_iff.1 HR7.out).1
   have C8 := Lib.hid (whand_any (.inr rfl) HB7.out x k (HP.out.below HW7.out.bel) HRk.out (HN.out x HXM.out) (fit_wraps ((List.all_eq_true.1 HFH.out.1) x HXM.out)) HSX.out)
   go_wp2_with (go_at_call 92; refine C8.out.mono ?_)
   rintro e8 w8 ⟨rfl, ⟨v8, hB8⟩, hW8⟩
   have HB8 : Hid (Bd 138 X b w8 v8 (((t.hands.take j).map handW).flatten ++ handW x)) := by have h := hB8; show Bd _ _ _ _ _ _; (try simp only [List.append_assoc, List.map_take] at h); (try simp only [List.append_assoc, List.map_take]); exact h
   have HX8 := Lib.hid (hW8.box HX7.out (by decide) (by omega))
   have HW8 := Lib.hid (HW7.out.trans hW8)
   clear hB8 hW8 C8
   go_wp2_with fail
   go_roundw
   case rel => exact ⟨j + 1, v8, by go_num, by omega, by show Bd _ _ _ _ _ _; rw [H1.out]; exact HB8.out, HW8.out, HX8.out, .inl (by rw [H1.out]; intro e; exact handW_ne x (List.append_eq_nil_iff.1 e).2)⟩
   case measure => simp [intOf]; omega
  ·obtain rfl : j = t.hands.length := by omega
   have hjj : ¬ ((t.hands.length : Nat) : Int) < ((t.hands.length : Nat) : Int) := by omega
   have HBe : Hid (Bd 138 X b w6 v6 ((t.hands.map handW).flatten)) := by have h := HB6.out; rw [List.take_length] at h; exact h
   have HNE : Hid ((t.hands.map handW).flatten ≠ [] ∨ v6 = .slice none 0 0) := by have h := HNE6.out; rw [List.take_length] at h; exact h
   obtain ⟨x0, x1⟩ := row2_ HX6.out
   have xl : X < w6.heap.size := (Array.getElem?_eq_some_iff.1 HX6.out).1
   clear HB6 HNE6
   have HBq := HBe
   have HWq := HW6
   have HXq := HX6
   clear HBe HW6 HX6
   obtain ⟨vq0, hvq⟩ : ∃ vq0, v6 = vq0 := ⟨_, rfl⟩
   rw [hvq] at HBq HNE
   clear hvq
   go_wp2_with fail
   go_loopw [7, 24] (fun sa sb w6 => ∃ (j : Nat) (v6 : Value), sb = .int .i64 (j : Nat) ∧ j ≤ t.routes.length ∧ Hid (Bd 138 X b w6 v6 ((t.hands.map handW).flatten ++ ((t.routes.take j).map routeW).flatten)) ∧ Hid (Wro X b w0 w6) ∧ Hid (w6.heap[X]? = some (.cells #[.slice hq t.hands.length hk, .slice rq t.routes.length rk] 26 (0, 0))) ∧ Hid ((t.hands.map handW).flatten ++ ((t.routes.take j).map routeW).flatten ≠ [] ∨ v6 = .slice none 0 0)) (fun _ i _ => t.routes.length - (intOf i).toNat)
   case atStart => exact ⟨0, vq0, rfl, Nat.zero_le _, by show Bd _ _ _ _ _ _; rw [List.take_zero, List.map_nil, List.flatten_nil, List.append_nil]; exact HBq.out, HWq.out, HXq.out, by rw [List.take_zero, List.map_nil, List.flatten_nil, List.append_nil]; exact HNE.out⟩
   case round =>
    rename World => w6
    obtain ⟨j, v6, rfl, hj, HB6, HW6, HX6, HNE6⟩ := hrel
    by_cases hlt : j < t.routes.length
    ·obtain ⟨x, hx⟩ : ∃ x, t.routes[j]? = some x := ⟨_, List.getElem?_eq_getElem hlt⟩
     obtain ⟨bb, o, cap2, cs, e, hPb, hbl2, -, hR, hc⟩ := HRo.out.at hx
     injection e with e _ e3
     subst e; subst e3
     have hbk := HW6.out.bel.block bb hPb
     have HR0 := Lib.hid (hR.kept (Lo.kept HW6.out.bel))
     obtain ⟨y0, y1, y2, rfl, hwant⟩ := hR
     obtain ⟨k1, q1, m1, -, ew⟩ := hwant.form
     injection ew with ew0 ew
     injection ew with ew1 ew
     injection ew with ew2
     subst ew0; subst ew1; subst ew2
     have y0 : w6.cell? ⟨bb, o + j * 10, none⟩ = some (.string x.filter.name) := cell_block hbk (hc 0 _ rfl)
     have y1 : w6.cell? ⟨bb, o + j * 10 + 1, none⟩ = some (.int .i64 x.filter.pos) := cell_block hbk (hc 1 _ rfl)
     have y2 : w6.cell? ⟨bb, o + j * 10 + 2, none⟩ = some (.bool x.when_) := cell_block hbk (hc 2 _ rfl)
     have y3 : w6.cell? ⟨bb, o + j * 10 + 3, none⟩ = some (.int .i64 x.want.op) := cell_block hbk (hc 3 _ rfl)
     have y4 : w6.cell? ⟨bb, o + j * 10 + 4, none⟩ = some (.int .i64 x.want.num) := cell_block hbk (hc 4 _ rfl)
     have y5 : w6.cell? ⟨bb, o + j * 10 + 5, none⟩ = some (.slice q1 x.want.l.length m1) := cell_block hbk (hc 5 _ rfl)
     have y6 : w6.cell? ⟨bb, o + j * 10 + 6, none⟩ = some (.bool x.els) := cell_block hbk (hc 6 _ rfl)
     have y7 : w6.cell? ⟨bb, o + j * 10 + 7, none⟩ = some (.string x.to.name) := cell_block hbk (hc 7 _ rfl)
     have y8 : w6.cell? ⟨bb, o + j * 10 + 8, none⟩ = some (.int .i64 x.to.pos) := cell_block hbk (hc 8 _ rfl)
     have y9 : w6.cell? ⟨bb, o + j * 10 + 9, none⟩ = some (.int .i64 x.pos) := cell_block hbk (hc 9 _ rfl)
     obtain ⟨R, hRR⟩ : ∃ R, w6.heap.size = R := ⟨_, rfl⟩
     obtain ⟨w7, hw7⟩ : ∃ w7, w6.alloc (.cells #[.string x.filter.name, .int .i64 x.filter.pos, .bool x.when_, .int .i64 x.want.op, .int .i64 x.want.num, .slice q1 x.want.l.length m1, .bool x.els, .string x.to.name, .int .i64 x.to.pos, .int .i64 x.pos] 84) = w7 := ⟨_, rfl⟩
     have HR7 := Lib.hid (aRow_ hw7 hRR)
     have hb7 : Below w6.heap.size w6 w7 := by rw [← hw7]; exact (Below.refl _ w6).alloc (Nat.le_refl _) _
     have HX7 := Lib.hid ((hb7.block X (Array.getElem?_eq_some_iff.1 HX6.out).1).trans HX6.out)
     have HB7 : Hid (Bd 138 X b w7 v6 ((t.hands.map handW).flatten ++ ((t.routes.take j).map routeW).flatten)) := HB6.out.below hb7
     have hbb6 := HB6.out.lt
     have hbo6 := HB6.out.lo
     have HW7 : Hid (Wro X b w0 w7) := HW6.out.below hb7 (by omega)
     have HRk := Lib.hid (HR0.out.kept (Lo.kept (hb7.mono (show X ≤ w6.heap.size by omega))))
     have HRR := Lib.hid hRR
     have Hw7 := Lib.hid hw7
     have h1 := flat_step (f := routeW) hx
     have h2 := flat_take_le routeW t.routes (j + 1)
     have H1 := Lib.hid h1
     have hl1 := congrArg List.length h1
     rw [length_append] at hl1
     have hz := HSZ.out
     have hsx : ((t.hands.map handW).flatten ++ ((t.routes.take j).map routeW).flatten).length + (routeW x).length ≤ 140737488355328 := by rw [length_append]; omega
     have g0 : (j : Int) < ((t.routes.length : Nat) : Int) := by omega
     have g00 : (0 : Int) ≤ (j : Int) := by omega
     have HXM := Lib.hid (List.mem_of_getElem? hx)
     have HSX := Lib.hid hsx
     clear hx hPb hbl2 hc hbk h1 h2 hl1 hz hRR hw7 hb7 hsx
     go_upto_region 10 with fail
     rw [HRR.out, Hw7.out]
     clear y0 y1 y2 y3 y4 y5 y6 y7 y8 y9
     obtain ⟨y0, y1, y2, y3, y4, y5, y6, y7, y8, y9⟩ := row10_ HR7.out
     have yl : R < w7.heap.size := (Array.getElem?_eq_some_iff.1 HR7.out).1
     have C8 := Lib.hid (wroute_any (.inr rfl) HB7.out x k (HP.out.below HW7.out.bel) HRk.out (HS.out.2 x HXM.out) (fit_route ((List.all_eq_true.1 HFH.out.2) x HXM.out)) HSX.out)
     go_wp2_with (go_at_call 93; refine C8.out.mono ?_)
     rintro e8 w8 ⟨rfl, ⟨v8, hB8⟩, hW8⟩
     have HB8 : Hid (Bd 138 X b w8 v8 ((t.hands.map handW).flatten ++ ((t.routes.take j).map routeW).flatten ++ routeW x)) := by have h := hB8; show Bd _ _ _ _ _ _; (try simp only [List.append_assoc, List.map_take] at h); (try simp only [List.append_assoc, List.map_take]); exact h
     have HX8 := Lib.hid (hW8.box HX7.out (by decide) (by omega))
     have HW8 := Lib.hid (HW7.out.trans hW8)
     clear hB8 hW8 C8
     go_wp2_with fail
     go_roundw
     case rel => exact ⟨j + 1, v8, by go_num, by omega, by show Bd _ _ _ _ _ _; rw [H1.out, ← List.append_assoc]; exact HB8.out, HW8.out, HX8.out, .inl (by rw [H1.out]; intro e; rw [← List.append_assoc] at e; exact routeW_ne x (List.append_eq_nil_iff.1 e).2)⟩
     case measure => simp [intOf]; omega
    ·obtain rfl : j = t.routes.length := by omega
     have hjj : ¬ ((t.routes.length : Nat) : Int) < ((t.routes.length : Nat) : Int) := by omega
     have CS := Lib.hid (string_any (by have h := HB6.out; rw [List.take_length] at h; exact h) (by have h := HNE6.out; rw [List.take_length] at h; exact h))
     have HSE := HW6
     go_wp2_with (go_at_call 94; refine CS.out.mono ?_; rintro e9 w9 ⟨rfl, hb9⟩)
     rw [← HPP.out]
     exact ⟨rfl, HB00.out.trans (by rw [HX.out]; exact HSE.out.bel.trans hb9)⟩
theorem print_any (t : TreeT) (W : World) (k : Nat) (vh vr : Value) (hE : Env W) (hP : Pv W.heap.size W) (hS : SmT t) (hN : NmT t) (hR : TreeP All W k vh vr t) (hsz : (printW t).length ≤ 140737488355328) :
  Calls Tryz.prog 16 #[.agg #[vh, vr]] W (PatPost W (.string (ba (printT t)))) := by
 obtain ⟨PP, hPP⟩ : ∃ PP, PatPost W (.string (ba (printT t))) = PP := ⟨_, rfl⟩
 rw [hPP]
 have HPP := Lib.hid hPP
 have hR0 := hR
 obtain ⟨hH, hRo⟩ := hR0
 obtain ⟨hq, hk, rfl, -⟩ := hH.shape
 obtain ⟨rq, rk, rfl, -⟩ := hRo.shape
 obtain ⟨WA, hWA⟩ : ∃ WA, W.alloc (.cells #[.slice hq t.hands.length hk, .slice rq t.routes.length rk] 26) = WA := ⟨_, rfl⟩
 obtain ⟨X, hX⟩ : ∃ X, W.heap.size = X := ⟨_, rfl⟩
 have HBA : Hid (Below W.heap.size W WA) := by rw [← hWA]; exact (Below.refl _ W).alloc (Nat.le_refl _) _
 have hza := aRow_ hWA hX
 have hsa : WA.heap.size = X + 1 := by rw [← hWA, ← hX]; simp
 have lxa : X < WA.heap.size := by omega
 obtain ⟨z0, z1⟩ := row2_ hza
 have zl : X < WA.heap.size := (Array.getElem?_eq_some_iff.1 hza).1
 have C1 := Lib.hid (fit_any t WA k _ _ (hE.below HBA.out) hS (hR.kept (All.kept HBA.out)))
 have HZA := Lib.hid hza
 have HX := Lib.hid hX
 have HWA := Lib.hid hWA
 have HP := Lib.hid hP
 have HS := Lib.hid hS
 have HN := Lib.hid hN
 have HR := Lib.hid hR
 have HSZ := Lib.hid hsz
 clear hPP hE hP hS hN hR hH hRo hsz hza hX hWA hsa
 cases hf : fitT t with
 | false =>
  have HF := Lib.hid hf
  rw [hf] at C1
  clear hf
  go_enter Tryz.func16, Tryz.ntmps16
  go_upto_region 1 with fail
  rw [HX.out, HWA.out]
  go_wp2_with (go_at_call 14; refine C1.out.mono ?_)
  rintro e1 w1 ⟨rfl, hb1⟩
  have hz1 : w1.heap[X]? = some (.cells #[.slice hq t.hands.length hk, .slice rq t.routes.length rk] 26 (0, 0)) := (hb1.block X lxa).trans HZA.out
  obtain ⟨c0, c1⟩ := row2_ hz1
  have cl : X < w1.heap.size := (Array.getElem?_eq_some_iff.1 hz1).1
  go_wp2_with fail
  rw [← HPP.out]
  exact ⟨by unfold printT; rw [HF.out]; rfl, HBA.out.trans (hb1.mono HBA.out.size)⟩
 | true =>
  have HF := Lib.hid hf
  rw [hf] at C1
  clear hf
  go_enter Tryz.func16, Tryz.ntmps16
  go_upto_region 1 with fail
  rw [HX.out, HWA.out]
  go_wp2_with (go_at_call 14; refine C1.out.mono ?_)
  rintro e1 w1 ⟨rfl, hb1⟩
  have hz1 : w1.heap[X]? = some (.cells #[.slice hq t.hands.length hk, .slice rq t.routes.length rk] 26 (0, 0)) := (hb1.block X lxa).trans HZA.out
  obtain ⟨c0, c1⟩ := row2_ hz1
  have cl : X < w1.heap.size := (Array.getElem?_eq_some_iff.1 hz1).1
  have hbw : Below W.heap.size W w1 := HBA.out.trans (hb1.mono HBA.out.size)
  have C2 := Lib.hid (printed_any t w1 k _ _ ((HP.out.below hbw).up hbw.size) HS.out HN.out HF.out (HR.out.kept (All.kept hbw)) HSZ.out)
  have HBW := Lib.hid hbw
  clear hb1 hz1 hbw
  go_wp2_with (go_at_call 45; refine C2.out.mono ?_; rintro e2 w2 ⟨rfl, hb2⟩)
  rw [← HPP.out]
  exact ⟨by unfold printT; rw [HF.out]; rfl, HBW.out.trans (hb2.mono HBW.out.size)⟩
end Go.Proofs.YtbdllefnghddcaaGreatDoor
