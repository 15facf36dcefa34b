/- PARSE: the reference's Print. -/
import Derived.Test.YtbdllefnghddcaaGreatDoorPRPr
import Derived.Test.YtbdllefnghddcaaGreatDoorParseRFitT
import Derived.Test.YtbdllefnghddcaaGreatDoorParsePrR
import Derived.Test.YtbdllefnghddcaaGreatDoorPMem
namespace Go.Proofs.YtbdllefnghddcaaGreatDoor
open List (length_append)
open Go Go.RowKit
attribute [local go_sem ↓] Go.wp_at_zero Go.wp_at_succ

set_option maxRecDepth 100000 in
set_option maxHeartbeats 8000000 in
set_option linter.unusedSimpArgs false in
theorem rprint_any (t : TreeT) (W : World) (k : Nat) (vh vr : Value) (hP : Pw W) (hS : SmT t) (hN : NmT t) (hR : TreeP All W k vh vr t) (hsz : (printW t).length ≤ 140737488355328) :
  Calls Tryz.prog 17 #[.agg #[vh, vr]] W (TxPost W (printT t)) := by
 obtain ⟨PP, hPP⟩ : ∃ PP, TxPost W (printT t) = PP := ⟨_, rfl⟩
 rw [hPP]
 have HPP := Lib.hid hPP
 have hR0 := hR
 obtain ⟨hH, hRo⟩ := hR0
 obtain ⟨hq, hk, rfl, hn1⟩ := hH.shape
 obtain ⟨rq, rk, rfl, hn2⟩ := hRo.shape
 obtain ⟨WA, hWA⟩ : ∃ WA, W.alloc (.cells #[.slice hq t.hands.length hk, .slice rq t.routes.length rk] 26) = WA := ⟨_, rfl⟩
 obtain ⟨X, hX⟩ : ∃ X, W.heap.size = X := ⟨_, rfl⟩
 have HBA : Hid (Below W.heap.size W WA) := by rw [← hWA]; exact (Below.refl _ W).alloc (Nat.le_refl _) _
 have hza := aRow_ hWA hX
 have hsa : WA.heap.size = X + 1 := by rw [← hWA, ← hX]; simp
 have lxa : X < WA.heap.size := by omega
 obtain ⟨z0, z1⟩ := row2_ hza
 have HZA := Lib.hid hza
 have HX := Lib.hid hX
 have HWA := Lib.hid hWA
 clear hza hX hWA hsa
 have HX0 := HZA
 have HB0 := HBA
 have CF := Lib.hid (rfit_any t WA k _ _ hS (hR.kept (All.kept HBA.out)))
 have HP := Lib.hid hP
 have HS := Lib.hid hS
 have HN := Lib.hid hN
 have HH := Lib.hid hH
 have HRo := Lib.hid hRo
 have HZ := Lib.hid hsz
 clear hPP hP hS hN hH hRo hR hsz z0 z1 lxa
 obtain ⟨cX0, cX1⟩ := row2_ HX0.out
 have ltX : X < WA.heap.size := (Array.getElem?_eq_some_iff.1 HX0.out).1
 cases hf : fitT t with
 | false =>
  have HF := Lib.hid hf
  rw [hf] at CF
  clear hf
  go_enter Tryz.func17, Tryz.ntmps17
  go_upto_region 1 with fail
  rw [HX.out, HWA.out]
  go_wp2_with (go_at_call 15; refine CF.out.mono ?_)
  clear cX0 cX1 ltX
  rintro e1 w1 ⟨rfl, hb1⟩
  have HB1 := Lib.hid (HB0.out.trans (hb1.mono HB0.out.size))
  have HX1 := Lib.hid ((hb1.block X (Array.getElem?_eq_some_iff.1 HX0.out).1).trans HX0.out)
  clear hb1 CF
  go_wp2_with fail
  rw [← HPP.out]
  exact ⟨_, rfl, by unfold printT; rw [HF.out]; rfl, HB1.out⟩
 | true =>
  have HF := Lib.hid hf
  rw [hf] at CF
  clear hf
  go_enter Tryz.func17, Tryz.ntmps17
  go_upto_region 1 with fail
  rw [HX.out, HWA.out]
  go_wp2_with (go_at_call 15; refine CF.out.mono ?_)
  clear cX0 cX1 ltX
  rintro e1 w1 ⟨rfl, hb1⟩
  have HB1 := Lib.hid (HB0.out.trans (hb1.mono HB0.out.size))
  have HX1 := Lib.hid ((hb1.block X (Array.getElem?_eq_some_iff.1 HX0.out).1).trans HX0.out)
  clear hb1 CF
  obtain ⟨cX0, cX1⟩ := row2_ HX1.out
  have ltX : X < w1.heap.size := (Array.getElem?_eq_some_iff.1 HX1.out).1
  have hh9 : t.hands.length ≤ 9223372036854775807 := hn1
  go_wp2_with fail
  go_loopw [3, 5, 7, 16] (fun s3 s5 s7 s16 wr => ∃ (j : Nat) (s : ByteArray), s3 = .string s ∧ s16 = .int .i64 (j : Nat) ∧ j ≤ t.hands.length ∧ Hid (St s (((t.hands.take j).map handW).flatten)) ∧ Hid (Below W.heap.size W wr) ∧ Hid (wr.heap[X]? = some (.cells #[.slice hq t.hands.length hk, .slice rq t.routes.length rk] 26 (0, 0)))) (fun _ _ _ i _ => t.hands.length - (intOf i).toNat)
  case atStart => exact ⟨0, _, rfl, rfl, Nat.zero_le _, rfl, HB1.out, HX1.out⟩
  case round =>
   obtain ⟨j, s, rfl, rfl, hj, HSj, HBr, HXTr⟩ := hrel
   clear cX0 cX1 ltX
   by_cases hlt : j < t.hands.length
   ·obtain ⟨d, hxd⟩ : ∃ d, t.hands[j]? = some d := ⟨_, List.getElem?_eq_getElem hlt⟩
    obtain ⟨bd, od, capd, cs, e, -, hbld, -, hR, hc⟩ := HH.out.at hxd
    injection e with e _ e3
    subst e; subst e3
    have hR9 := hR
    obtain ⟨c0, c1, c2, c3, c4, c5, v, u, rfl, hcore, hws, haf⟩ := hR9
    have hcore2 := hcore
    obtain ⟨cv, ec, hcaps⟩ := hcore
    simp only [List.cons.injEq, and_true] at ec
    obtain ⟨rfl, rfl, rfl, rfl, rfl, rfl⟩ := ec
    obtain ⟨cq, cc, rfl, -⟩ := UsP.shape hcaps
    obtain ⟨vq, vk, rfl, hn8⟩ := hws.shape
    obtain ⟨aq, ac, rfl, -⟩ := UsP.shape haf
    have HRd := Lib.hid hR
    have y0 : wr.cell? ⟨bd, od + j * 16, none⟩ = some (.string d.name) := (HBr.out.cell (p := ⟨bd, _, none⟩) hbld).trans (hc 0 _ rfl)
    have y1 : wr.cell? ⟨bd, od + j * 16 + 1, none⟩ = some (.string d.of_.name) := (HBr.out.cell (p := ⟨bd, _, none⟩) hbld).trans (hc 1 _ rfl)
    have y2 : wr.cell? ⟨bd, od + j * 16 + 2, none⟩ = some (.int .i64 d.of_.pos) := (HBr.out.cell (p := ⟨bd, _, none⟩) hbld).trans (hc 2 _ rfl)
    have y3 : wr.cell? ⟨bd, od + j * 16 + 3, none⟩ = some (.string d.core.word) := (HBr.out.cell (p := ⟨bd, _, none⟩) hbld).trans (hc 3 _ rfl)
    have y4 : wr.cell? ⟨bd, od + j * 16 + 4, none⟩ = some (.bool d.core.has) := (HBr.out.cell (p := ⟨bd, _, none⟩) hbld).trans (hc 4 _ rfl)
    have y5 : wr.cell? ⟨bd, od + j * 16 + 5, none⟩ = some (.bool d.core.minus) := (HBr.out.cell (p := ⟨bd, _, none⟩) hbld).trans (hc 5 _ rfl)
    have y6 : wr.cell? ⟨bd, od + j * 16 + 6, none⟩ = some (.int .u64 d.core.num) := (HBr.out.cell (p := ⟨bd, _, none⟩) hbld).trans (hc 6 _ rfl)
    have y7 : wr.cell? ⟨bd, od + j * 16 + 7, none⟩ = some (.slice cq d.core.caps.length cc) := (HBr.out.cell (p := ⟨bd, _, none⟩) hbld).trans (hc 7 _ rfl)
    have y8 : wr.cell? ⟨bd, od + j * 16 + 8, none⟩ = some (.int .i64 d.core.pos) := (HBr.out.cell (p := ⟨bd, _, none⟩) hbld).trans (hc 8 _ rfl)
    have y9 : wr.cell? ⟨bd, od + j * 16 + 9, none⟩ = some (.slice vq d.wraps.length vk) := (HBr.out.cell (p := ⟨bd, _, none⟩) hbld).trans (hc 9 _ rfl)
    have y10 : wr.cell? ⟨bd, od + j * 16 + 10, none⟩ = some (.bool d.room) := (HBr.out.cell (p := ⟨bd, _, none⟩) hbld).trans (hc 10 _ rfl)
    have y11 : wr.cell? ⟨bd, od + j * 16 + 11, none⟩ = some (.int .u64 d.inbox) := (HBr.out.cell (p := ⟨bd, _, none⟩) hbld).trans (hc 11 _ rfl)
    have y12 : wr.cell? ⟨bd, od + j * 16 + 12, none⟩ = some (.string d.drop.name) := (HBr.out.cell (p := ⟨bd, _, none⟩) hbld).trans (hc 12 _ rfl)
    have y13 : wr.cell? ⟨bd, od + j * 16 + 13, none⟩ = some (.int .i64 d.drop.pos) := (HBr.out.cell (p := ⟨bd, _, none⟩) hbld).trans (hc 13 _ rfl)
    have y14 : wr.cell? ⟨bd, od + j * 16 + 14, none⟩ = some (.slice aq d.after.length ac) := (HBr.out.cell (p := ⟨bd, _, none⟩) hbld).trans (hc 14 _ rfl)
    have y15 : wr.cell? ⟨bd, od + j * 16 + 15, none⟩ = some (.int .i64 d.pos) := (HBr.out.cell (p := ⟨bd, _, none⟩) hbld).trans (hc 15 _ rfl)
    obtain ⟨Q, hQ⟩ : ∃ Q, wr.heap.size = Q := ⟨_, rfl⟩
    obtain ⟨wd, hwd⟩ : ∃ wd, wr.alloc (.cells #[.string d.name, .string d.of_.name, .int .i64 d.of_.pos, .string d.core.word, .bool d.core.has, .bool d.core.minus, .int .u64 d.core.num, .slice cq d.core.caps.length cc, .int .i64 d.core.pos, .slice vq d.wraps.length vk, .bool d.room, .int .u64 d.inbox, .string d.drop.name, .int .i64 d.drop.pos, .slice aq d.after.length ac, .int .i64 d.pos] 81) = wd := ⟨_, rfl⟩
    have HQd := Lib.hid (aRow_ hwd hQ)
    have hbd : Below wr.heap.size wr wd := by rw [← hwd]; exact (Below.refl _ wr).alloc (Nat.le_refl _) _
    have HBd := Lib.hid (HBr.out.trans (hbd.mono HBr.out.size))
    have HQe := Lib.hid hQ
    have Hwde := Lib.hid hwd
    have g0d : (j : Int) < ((t.hands.length : Nat) : Int) := by omega
    have g00d : (0 : Int) ≤ (j : Int) := by omega
    have HXJd := Lib.hid hxd
    clear hQ hwd hc hxd hbld hR
    have HXTd := Lib.hid ((hbd.block X (Array.getElem?_eq_some_iff.1 HXTr.out).1).trans HXTr.out)
    have HCO := Lib.hid hcore2
    have HWS := Lib.hid hws
    have HAF := Lib.hid haf
    have HDM : Hid (d ∈ t.hands) := List.mem_of_getElem? HXJd.out
    have HNM : Hid (NmH d) := HN.out d HDM.out
    have HSM : Hid (SmH d) := HS.out.1 d HDM.out
    have HHB : Hid (handB d = true) := by have h := HF.out; unfold fitT at h; rw [Bool.and_eq_true] at h; exact (List.all_eq_true.1 h.1) d HDM.out
    have H1 := Lib.hid (flat_step (f := handW) HXJd.out)
    obtain ⟨pl, hpl⟩ : ∃ pl, (((t.hands.take j).map handW).flatten).length = pl := ⟨_, rfl⟩
    have HPL := Lib.hid hpl
    clear hpl
    have HZh : Hid (pl + (handW d).length ≤ 140737488355328) := by show _ ≤ _; rw [← HPL.out]; have h2 := flat_take_le handW t.hands (j + 1); have hz := HZ.out; unfold printW at hz; rw [H1.out] at h2; rw [length_append] at h2 hz; omega
    clear hcore2 hcaps hws haf hbd
    go_upto_region 7 with fail
    rw [HQe.out, Hwde.out]
    clear y0 y1 y2 y3 y4 y5 y6 y7 y8 y9 y10 y11 y12 y13 y14 y15
    obtain ⟨cQ0, cQ1, cQ2, cQ3, cQ4, cQ5, cQ6, cQ7, cQ8, cQ9, cQ10, cQ11, cQ12, cQ13, cQ14, cQ15⟩ := row16_ HQd.out
    have ltQ : Q < wd.heap.size := (Array.getElem?_eq_some_iff.1 HQd.out).1
    have q1 : ¬ 9223372036854775807 < s.size + 8 := by have h0 := HSj.out.size; (try simp only [spN_] at h0); have hpl := HPL.out; have hz := HZh.out; unfold handW roomW afterW at hz; (simp only [coreW_R, if_true, if_false, spN_, Bool.false_eq_true] at hz); omega
    obtain ⟨s1, k1⟩ : ∃ s1, s ++ (⟨#[104, 97, 110, 100, 108, 101, 114, 32]⟩ : ByteArray) = s1 := ⟨_, rfl⟩
    have S1 : Hid (St s1 (((t.hands.take j).map handW).flatten ++ [104, 97, 110, 100, 108, 101, 114, 32])) := St.cat HSj.out (St.lit [104, 97, 110, 100, 108, 101, 114, 32]) k1
    have V2 : Hid (St (d.name) (bs d.name)) := St.bs _
    have q2 : ¬ 9223372036854775807 < s1.size + (d.name).size := by have h0 := S1.out.size; (try simp only [spN_] at h0); have h1 := V2.out.size; (try simp only [spN_] at h1); have hpl := HPL.out; have hz := HZh.out; unfold handW roomW afterW at hz; (simp only [coreW_R, if_true, if_false, spN_, Bool.false_eq_true] at hz); omega
    obtain ⟨s2, k2⟩ : ∃ s2, s1 ++ d.name = s2 := ⟨_, rfl⟩
    have S2 := Lib.hid (St.cat S1.out (V2.out) k2)
    have q3 : ¬ 9223372036854775807 < s2.size + 3 := by have h0 := S2.out.size; (try simp only [spN_] at h0); have hpl := HPL.out; have hz := HZh.out; unfold handW roomW afterW at hz; (simp only [coreW_R, if_true, if_false, spN_, Bool.false_eq_true] at hz); omega
    obtain ⟨s3, k3⟩ : ∃ s3, s2 ++ (⟨#[32, 61, 32]⟩ : ByteArray) = s3 := ⟨_, rfl⟩
    have S3 : Hid (St s3 (((t.hands.take j).map handW).flatten ++ [104, 97, 110, 100, 108, 101, 114, 32] ++ (bs d.name) ++ [32, 61, 32])) := St.cat S2.out (St.lit [32, 61, 32]) k3
    by_cases ho : d.of_.name.size = 0
    ·have hoe := noname ho
     have HOF := Lib.hid ho
     rw [hoe] at cQ1
     clear ho hoe
     have C5 := Lib.hid (rcore_any d.core wd (HP.out.up HBd.out) HNM.out.1 (HCO.out.kept (All.kept HBd.out)) (by have hpl := HPL.out; have hz := HZh.out; unfold handW roomW afterW at hz; (simp only [HOF.out, coreW_R, if_true, if_false, spN_, Bool.false_eq_true] at hz); omega))
     go_wp2_with (go_at_call 46; refine C5.out.mono ?_)
     clear cQ0 cQ1 cQ2 cQ3 cQ4 cQ5 cQ6 cQ7 cQ8 cQ9 cQ10 cQ11 cQ12 cQ13 cQ14 cQ15 ltQ
     clear q1 k1 q2 k2 q3 k3
     rintro e5 w5 ⟨x5, rfl, hx5, hb5⟩
     have HX_5 : Hid (St x5 (coreR d.core)) := hx5
     clear hx5
     have HB5 := Lib.hid (HBd.out.trans (hb5.mono HBd.out.size))
     have hQ5 := (hb5.block Q (Array.getElem?_eq_some_iff.1 HQd.out).1).trans HQd.out
     obtain ⟨cQ0, cQ1, cQ2, cQ3, cQ4, cQ5, cQ6, cQ7, cQ8, cQ9, cQ10, cQ11, cQ12, cQ13, cQ14, cQ15⟩ := row16_ hQ5
     have ltQ : Q < w5.heap.size := (Array.getElem?_eq_some_iff.1 hQ5).1
     have HQ5 := Lib.hid hQ5
     clear hQ5
     have HXT5 := Lib.hid ((hb5.block X (Array.getElem?_eq_some_iff.1 HXTd.out).1).trans HXTd.out)
     clear hb5 C5
     have q4 : ¬ 9223372036854775807 < s3.size + (x5).size := by have h0 := S3.out.size; (try simp only [spN_] at h0); have h1 := HX_5.out.size; (try simp only [spN_] at h1); have hpl := HPL.out; have hz := HZh.out; unfold handW roomW afterW at hz; (simp only [HOF.out, coreW_R, if_true, if_false, spN_, Bool.false_eq_true] at hz); omega
     obtain ⟨s4, k4⟩ : ∃ s4, s3 ++ x5 = s4 := ⟨_, rfl⟩
     have S4 := Lib.hid (St.cat S3.out (HX_5.out) k4)
     have HS0 : Hid (St s4 (((t.hands.take j).map handW).flatten ++ [104, 97, 110, 100, 108, 101, 114, 32] ++ (bs d.name) ++ [32, 61, 32] ++ (coreR d.core))) := S4
     have HB_0 := HB5
     have HQ_0 := HQ5
     have HXT_0 := HXT5
     go_wp2_with fail
     go_loopw [3, 7, 44] (fun s3 s7 s44 wv => ∃ (i : Nat) (s2 : ByteArray), s3 = .string s2 ∧ s44 = .int .i64 (i : Nat) ∧ i ≤ d.wraps.length ∧ Hid (St s2 (((t.hands.take j).map handW).flatten ++ [104, 97, 110, 100, 108, 101, 114, 32] ++ (bs d.name) ++ [32, 61, 32] ++ (coreR d.core) ++ ((d.wraps.take i).map wrapW).flatten)) ∧ Hid (Below W.heap.size W wv) ∧ Hid (wv.heap[Q]? = some (.cells #[.string d.name, .string d.of_.name, .int .i64 d.of_.pos, .string d.core.word, .bool d.core.has, .bool d.core.minus, .int .u64 d.core.num, .slice cq d.core.caps.length cc, .int .i64 d.core.pos, .slice vq d.wraps.length vk, .bool d.room, .int .u64 d.inbox, .string d.drop.name, .int .i64 d.drop.pos, .slice aq d.after.length ac, .int .i64 d.pos] 81 (0, 0))) ∧ Hid (wv.heap[X]? = wr.heap[X]?)) (fun _ _ i _ => d.wraps.length - (intOf i).toNat)
     case atStart => exact ⟨0, _, rfl, rfl, Nat.zero_le _, by show St _ _; rw [List.take_zero, List.map_nil, List.flatten_nil, List.append_nil]; exact HS0.out, HB_0.out, HQ_0.out, HXT_0.out.trans HXTr.out.symm⟩
     case round =>
      rename World => wv
      obtain ⟨i, s2, rfl, rfl, hi, HSi, HBv, HQv, HXv⟩ := hrel
      clear cQ0 cQ1 cQ2 cQ3 cQ4 cQ5 cQ6 cQ7 cQ8 cQ9 cQ10 cQ11 cQ12 cQ13 cQ14 cQ15 ltQ
      clear q4 k4
      by_cases hlt2 : i < d.wraps.length
      ·obtain ⟨x, hxx⟩ : ∃ x, d.wraps[i]? = some x := ⟨_, List.getElem?_eq_getElem hlt2⟩
       obtain ⟨bx, ox, capx, cs, e, -, hblx, -, hR, hc⟩ := HWS.out.at hxx
       injection e with e _ e3
       subst e; subst e3
       have hR0 := hR
       obtain ⟨v1, u1, w0, w1, w2, rfl, hnums, hcaps, hwant⟩ := hR0
       obtain ⟨k1, q1, m1, -, ew⟩ := hwant.form
       injection ew with ew0 ew
       injection ew with ew1 ew
       injection ew with ew2
       subst ew0; subst ew1; subst ew2
       obtain ⟨nq, nc, rfl, -⟩ := NumsP.shape hnums
       obtain ⟨uq, uc, rfl, -⟩ := UsP.shape hcaps
       have HRx := Lib.hid hR
       have y0 : wv.cell? ⟨bx, ox + i * 10, none⟩ = some (.bool x.opn) := (HBv.out.cell (p := ⟨bx, _, none⟩) hblx).trans (hc 0 _ rfl)
       have y1 : wv.cell? ⟨bx, ox + i * 10 + 1, none⟩ = some (.string x.word) := (HBv.out.cell (p := ⟨bx, _, none⟩) hblx).trans (hc 1 _ rfl)
       have y2 : wv.cell? ⟨bx, ox + i * 10 + 2, none⟩ = some (.string x.sub) := (HBv.out.cell (p := ⟨bx, _, none⟩) hblx).trans (hc 2 _ rfl)
       have y3 : wv.cell? ⟨bx, ox + i * 10 + 3, none⟩ = some (.slice nq x.nums.length nc) := (HBv.out.cell (p := ⟨bx, _, none⟩) hblx).trans (hc 3 _ rfl)
       have y4 : wv.cell? ⟨bx, ox + i * 10 + 4, none⟩ = some (.slice uq x.caps.length uc) := (HBv.out.cell (p := ⟨bx, _, none⟩) hblx).trans (hc 4 _ rfl)
       have y5 : wv.cell? ⟨bx, ox + i * 10 + 5, none⟩ = some (.bool x.when_) := (HBv.out.cell (p := ⟨bx, _, none⟩) hblx).trans (hc 5 _ rfl)
       have y6 : wv.cell? ⟨bx, ox + i * 10 + 6, none⟩ = some (.int .i64 x.want.op) := (HBv.out.cell (p := ⟨bx, _, none⟩) hblx).trans (hc 6 _ rfl)
       have y7 : wv.cell? ⟨bx, ox + i * 10 + 7, none⟩ = some (.int .i64 x.want.num) := (HBv.out.cell (p := ⟨bx, _, none⟩) hblx).trans (hc 7 _ rfl)
       have y8 : wv.cell? ⟨bx, ox + i * 10 + 8, none⟩ = some (.slice q1 x.want.l.length m1) := (HBv.out.cell (p := ⟨bx, _, none⟩) hblx).trans (hc 8 _ rfl)
       have y9 : wv.cell? ⟨bx, ox + i * 10 + 9, none⟩ = some (.int .i64 x.pos) := (HBv.out.cell (p := ⟨bx, _, none⟩) hblx).trans (hc 9 _ rfl)
       obtain ⟨Y, hY⟩ : ∃ Y, wv.heap.size = Y := ⟨_, rfl⟩
       obtain ⟨wx, hwx⟩ : ∃ wx, wv.alloc (.cells #[.bool x.opn, .string x.word, .string x.sub, .slice nq x.nums.length nc, .slice uq x.caps.length uc, .bool x.when_, .int .i64 x.want.op, .int .i64 x.want.num, .slice q1 x.want.l.length m1, .int .i64 x.pos] 90) = wx := ⟨_, rfl⟩
       have HYx := Lib.hid (aRow_ hwx hY)
       have hbx : Below wv.heap.size wv wx := by rw [← hwx]; exact (Below.refl _ wv).alloc (Nat.le_refl _) _
       have HBx := Lib.hid (HBv.out.trans (hbx.mono HBv.out.size))
       have HYe := Lib.hid hY
       have Hwxe := Lib.hid hwx
       have g0x : (i : Int) < ((d.wraps.length : Nat) : Int) := by omega
       have g00x : (0 : Int) ≤ (i : Int) := by omega
       have HXJx := Lib.hid hxx
       clear hY hwx hc hxx hblx hR
       have HXM : Hid (x ∈ d.wraps) := List.mem_of_getElem? HXJx.out
       have HWW : Hid (x.when_ = true → rightB x.want = true) := fit_wraps HHB.out x HXM.out
       have HNW : Hid (NmW x) := HNM.out.2.2.1 x HXM.out
       have H3 := Lib.hid (flat_step (f := wrapW) HXJx.out)
       have H4 := Lib.hid (flat_take_le wrapW d.wraps (i + 1))
       have HQx := Lib.hid ((hbx.block Q (Array.getElem?_eq_some_iff.1 HQv.out).1).trans HQv.out)
       have HXx := Lib.hid ((hbx.block X (by have := HXv.out; rw [HXTr.out] at this; exact (Array.getElem?_eq_some_iff.1 this).1)).trans HXv.out)
       clear hbx hnums hcaps hwant
       go_upto_region 14 with fail
       rw [HYe.out, Hwxe.out]
       clear y0 y1 y2 y3 y4 y5 y6 y7 y8 y9
       obtain ⟨cY0, cY1, cY2, cY3, cY4, cY5, cY6, cY7, cY8, cY9⟩ := row10_ HYx.out
       have ltY : Y < wx.heap.size := (Array.getElem?_eq_some_iff.1 HYx.out).1
       have C4 := Lib.hid (rwrap_any x wx k (HP.out.up HBx.out) HNW.out HWW.out (HRx.out.kept (All.kept HBx.out)) (by have hpl := HPL.out; have hz := HZh.out; unfold handW roomW afterW at hz; (simp only [HOF.out, coreW_R, if_true, if_false, spN_, Bool.false_eq_true] at hz); have h4 := H4.out; rw [H3.out, length_append] at h4; omega))
       go_wp2_with (go_at_call 47; refine C4.out.mono ?_)
       clear cY0 cY1 cY2 cY3 cY4 cY5 cY6 cY7 cY8 cY9 ltY
       rintro e4 w4 ⟨x4, rfl, hx4, hb4⟩
       have HX_4 : Hid (St x4 (wrapW x)) := hx4
       have HB4 := Lib.hid (HBx.out.trans (hb4.mono HBx.out.size))
       have HQ4 := Lib.hid ((hb4.block Q (Array.getElem?_eq_some_iff.1 HQx.out).1).trans HQx.out)
       have HX4 := Lib.hid ((hb4.block X (by have := HXx.out; rw [HXTr.out] at this; exact (Array.getElem?_eq_some_iff.1 this).1)).trans HXx.out)
       clear hx4 hb4 C4
       have q5 : ¬ 9223372036854775807 < s2.size + (x4).size := by have h0 := HSi.out.size; (try simp only [spN_] at h0); have h1 := HX_4.out.size; (try simp only [spN_] at h1); have hpl := HPL.out; have hz := HZh.out; unfold handW roomW afterW at hz; (simp only [HOF.out, coreW_R, if_true, if_false, spN_, Bool.false_eq_true] at hz); have h4 := H4.out; rw [H3.out, length_append] at h4; omega
       obtain ⟨s5, k5⟩ : ∃ s5, s2 ++ x4 = s5 := ⟨_, rfl⟩
       have S5 := Lib.hid (St.cat HSi.out (HX_4.out) k5)
       go_wp2_with fail
       go_roundw
       case rel => exact ⟨i + 1, s5, rfl, by go_num, by omega, by show St _ _; rw [H3.out, ← List.append_assoc]; exact S5.out, HB4.out, HQ4.out, HX4.out⟩
       case measure => simp [intOf]; omega
      ·obtain rfl : i = d.wraps.length := by omega
       have hii : ¬ ((d.wraps.length : Nat) : Int) < ((d.wraps.length : Nat) : Int) := by omega
       have HSw : Hid (St s2 (((t.hands.take j).map handW).flatten ++ [104, 97, 110, 100, 108, 101, 114, 32] ++ (bs d.name) ++ [32, 61, 32] ++ (coreR d.core) ++ (d.wraps.map wrapW).flatten)) := by have h := HSi.out; rw [List.take_length] at h; exact h
       have HXTv := Lib.hid (HXv.out.trans HXTr.out)
       obtain ⟨cQ0, cQ1, cQ2, cQ3, cQ4, cQ5, cQ6, cQ7, cQ8, cQ9, cQ10, cQ11, cQ12, cQ13, cQ14, cQ15⟩ := row16_ HQv.out
       have ltQ : Q < wv.heap.size := (Array.getElem?_eq_some_iff.1 HQv.out).1
       rcases Bool.eq_false_or_eq_true d.room with hr | hr
       ·rw [hr] at cQ10
        have HRM := Lib.hid hr
        clear hr
        have q6 : ¬ 9223372036854775807 < s2.size + 7 := by have h0 := HSw.out.size; (try simp only [spN_] at h0); have hpl := HPL.out; have hz := HZh.out; unfold handW roomW afterW at hz; (simp only [HOF.out, HRM.out, coreW_R, if_true, if_false, spN_, Bool.false_eq_true] at hz); omega
        obtain ⟨s6, k6⟩ : ∃ s6, s2 ++ (⟨#[32, 105, 110, 98, 111, 120, 32]⟩ : ByteArray) = s6 := ⟨_, rfl⟩
        have S6 : Hid (St s6 (((t.hands.take j).map handW).flatten ++ [104, 97, 110, 100, 108, 101, 114, 32] ++ (bs d.name) ++ [32, 61, 32] ++ (coreR d.core) ++ (d.wraps.map wrapW).flatten ++ [32, 105, 110, 98, 111, 120, 32])) := St.cat HSw.out (St.lit [32, 105, 110, 98, 111, 120, 32]) k6
        have C6 := Lib.hid (rdig_any HNM.out.2.2.2.1 wv (HP.out.up HBv.out))
        go_wp2_with (go_at_call 48; refine C6.out.mono ?_)
        clear cQ0 cQ1 cQ2 cQ3 cQ4 cQ5 cQ6 cQ7 cQ8 cQ9 cQ10 cQ11 cQ12 cQ13 cQ14 cQ15 ltQ
        clear q6 k6
        rintro e6 w6 ⟨x6, rfl, hx6, hb6⟩
        have HX_6 : Hid (St x6 (digW d.inbox)) := hx6
        clear hx6
        have HB6 := Lib.hid (HBv.out.trans (hb6.mono HBv.out.size))
        have hQ6 := (hb6.block Q (Array.getElem?_eq_some_iff.1 HQv.out).1).trans HQv.out
        obtain ⟨cQ0, cQ1, cQ2, cQ3, cQ4, cQ5, cQ6, cQ7, cQ8, cQ9, cQ10, cQ11, cQ12, cQ13, cQ14, cQ15⟩ := row16_ hQ6
        have ltQ : Q < w6.heap.size := (Array.getElem?_eq_some_iff.1 hQ6).1
        have HQ6 := Lib.hid hQ6
        clear hQ6
        have HXT6 := Lib.hid ((hb6.block X (Array.getElem?_eq_some_iff.1 HXTv.out).1).trans HXTv.out)
        clear hb6 C6
        have q7 : ¬ 9223372036854775807 < s6.size + (x6).size := by have h0 := S6.out.size; (try simp only [spN_] at h0); have h1 := HX_6.out.size; (try simp only [spN_] at h1); have hpl := HPL.out; have hz := HZh.out; unfold handW roomW afterW at hz; (simp only [HOF.out, HRM.out, coreW_R, if_true, if_false, spN_, Bool.false_eq_true] at hz); omega
        obtain ⟨s7, k7⟩ : ∃ s7, s6 ++ x6 = s7 := ⟨_, rfl⟩
        have S7 := Lib.hid (St.cat S6.out (HX_6.out) k7)
        by_cases hd : d.drop.name.size = 0
        ·have hde := noname hd
         have HDR := Lib.hid hd
         rw [hde] at cQ12
         clear hd hde
         by_cases hc : d.after.length = 0
         ·rw [hc] at cQ14
          have HAE := Lib.hid hc
          clear hc
          have q8 : ¬ 9223372036854775807 < s7.size + 2 := by have h0 := S7.out.size; (try simp only [spN_] at h0); have hpl := HPL.out; have hz := HZh.out; unfold handW roomW afterW at hz; (simp only [HOF.out, HRM.out, HDR.out, HAE.out, coreW_R, if_true, if_false, spN_, Bool.false_eq_true] at hz); omega
          obtain ⟨s8, k8⟩ : ∃ s8, s7 ++ (⟨#[59, 10]⟩ : ByteArray) = s8 := ⟨_, rfl⟩
          have S8 : Hid (St s8 (((t.hands.take j).map handW).flatten ++ [104, 97, 110, 100, 108, 101, 114, 32] ++ (bs d.name) ++ [32, 61, 32] ++ (coreR d.core) ++ (d.wraps.map wrapW).flatten ++ [32, 105, 110, 98, 111, 120, 32] ++ (digW d.inbox) ++ [59, 10])) := St.cat S7.out (St.lit [59, 10]) k8
          have HL : Hid (((t.hands.take j).map handW).flatten ++ handW d = ((t.hands.take j).map handW).flatten ++ [104, 97, 110, 100, 108, 101, 114, 32] ++ (bs d.name) ++ [32, 61, 32] ++ (coreR d.core) ++ (d.wraps.map wrapW).flatten ++ [32, 105, 110, 98, 111, 120, 32] ++ (digW d.inbox) ++ [59, 10]) := by show _ = _; unfold handW roomW afterW; simp [HOF.out, HRM.out, HDR.out, HAE.out, coreW_R, spsB, spB]
          go_wp2_with fail
          go_roundw
          case rel => exact ⟨j + 1, s8, rfl, by go_num, by omega, by show St _ _; rw [H1.out, HL.out]; exact S8.out, HB6.out, HXT6.out⟩
          case measure => simp [intOf]; omega
         ·have jhc : (0 : Int) < ((d.after.length : Nat) : Int) := by omega
          have HAE := Lib.hid hc
          clear hc
          have q9 : ¬ 9223372036854775807 < s7.size + 7 := by have h0 := S7.out.size; (try simp only [spN_] at h0); have hpl := HPL.out; have hz := HZh.out; unfold handW roomW afterW at hz; (simp only [HOF.out, HRM.out, HDR.out, HAE.out, coreW_R, if_true, if_false, spN_, Bool.false_eq_true] at hz); omega
          obtain ⟨s9, k9⟩ : ∃ s9, s7 ++ (⟨#[32, 97, 102, 116, 101, 114, 32]⟩ : ByteArray) = s9 := ⟨_, rfl⟩
          have S9 : Hid (St s9 (((t.hands.take j).map handW).flatten ++ [104, 97, 110, 100, 108, 101, 114, 32] ++ (bs d.name) ++ [32, 61, 32] ++ (coreR d.core) ++ (d.wraps.map wrapW).flatten ++ [32, 105, 110, 98, 111, 120, 32] ++ (digW d.inbox) ++ [32, 97, 102, 116, 101, 114, 32])) := St.cat S7.out (St.lit [32, 97, 102, 116, 101, 114, 32]) k9
          have C7 := Lib.hid (rlisted_any (FlP.kept HAF.out (All.kept HB6.out)) (by have hpl := HPL.out; have hz := HZh.out; unfold handW roomW afterW at hz; (simp only [HOF.out, HRM.out, HDR.out, HAE.out, coreW_R, if_true, if_false, spN_, Bool.false_eq_true] at hz); omega))
          go_wp2_with (go_at_call 49; refine C7.out.mono ?_)
          clear cQ0 cQ1 cQ2 cQ3 cQ4 cQ5 cQ6 cQ7 cQ8 cQ9 cQ10 cQ11 cQ12 cQ13 cQ14 cQ15 ltQ
          clear q7 k7 q9 k9
          rintro e7 w7 ⟨x7, rfl, hx7, hb7⟩
          have HX_7 : Hid (St x7 (usesB d.after)) := hx7
          clear hx7
          have HB7 := Lib.hid (HB6.out.trans (hb7.mono HB6.out.size))
          have hQ7 := (hb7.block Q (Array.getElem?_eq_some_iff.1 HQ6.out).1).trans HQ6.out
          obtain ⟨cQ0, cQ1, cQ2, cQ3, cQ4, cQ5, cQ6, cQ7, cQ8, cQ9, cQ10, cQ11, cQ12, cQ13, cQ14, cQ15⟩ := row16_ hQ7
          have ltQ : Q < w7.heap.size := (Array.getElem?_eq_some_iff.1 hQ7).1
          have HQ7 := Lib.hid hQ7
          clear hQ7
          have HXT7 := Lib.hid ((hb7.block X (Array.getElem?_eq_some_iff.1 HXT6.out).1).trans HXT6.out)
          clear hb7 C7
          have q10 : ¬ 9223372036854775807 < s9.size + (x7).size := by have h0 := S9.out.size; (try simp only [spN_] at h0); have h1 := HX_7.out.size; (try simp only [spN_] at h1); have hpl := HPL.out; have hz := HZh.out; unfold handW roomW afterW at hz; (simp only [HOF.out, HRM.out, HDR.out, HAE.out, coreW_R, if_true, if_false, spN_, Bool.false_eq_true] at hz); omega
          obtain ⟨s10, k10⟩ : ∃ s10, s9 ++ x7 = s10 := ⟨_, rfl⟩
          have S10 := Lib.hid (St.cat S9.out (HX_7.out) k10)
          have q11 : ¬ 9223372036854775807 < s10.size + 2 := by have h0 := S10.out.size; (try simp only [spN_] at h0); have hpl := HPL.out; have hz := HZh.out; unfold handW roomW afterW at hz; (simp only [HOF.out, HRM.out, HDR.out, HAE.out, coreW_R, if_true, if_false, spN_, Bool.false_eq_true] at hz); omega
          obtain ⟨s11, k11⟩ : ∃ s11, s10 ++ (⟨#[59, 10]⟩ : ByteArray) = s11 := ⟨_, rfl⟩
          have S11 : Hid (St s11 (((t.hands.take j).map handW).flatten ++ [104, 97, 110, 100, 108, 101, 114, 32] ++ (bs d.name) ++ [32, 61, 32] ++ (coreR d.core) ++ (d.wraps.map wrapW).flatten ++ [32, 105, 110, 98, 111, 120, 32] ++ (digW d.inbox) ++ [32, 97, 102, 116, 101, 114, 32] ++ (usesB d.after) ++ [59, 10])) := St.cat S10.out (St.lit [59, 10]) k11
          have HL : Hid (((t.hands.take j).map handW).flatten ++ handW d = ((t.hands.take j).map handW).flatten ++ [104, 97, 110, 100, 108, 101, 114, 32] ++ (bs d.name) ++ [32, 61, 32] ++ (coreR d.core) ++ (d.wraps.map wrapW).flatten ++ [32, 105, 110, 98, 111, 120, 32] ++ (digW d.inbox) ++ [32, 97, 102, 116, 101, 114, 32] ++ (usesB d.after) ++ [59, 10]) := by show _ = _; unfold handW roomW afterW; simp [HOF.out, HRM.out, HDR.out, HAE.out, coreW_R, spsB, spB]
          go_wp2_with fail
          go_roundw
          case rel => exact ⟨j + 1, s11, rfl, by go_num, by omega, by show St _ _; rw [H1.out, HL.out]; exact S11.out, HB7.out, HXT7.out⟩
          case measure => simp [intOf]; omega
        ·obtain ⟨n1hd, n2hd, n3hd, n4hd⟩ := noname_ne hd
         have HDR := Lib.hid hd
         clear hd
         have q12 : ¬ 9223372036854775807 < s7.size + 6 := by have h0 := S7.out.size; (try simp only [spN_] at h0); have hpl := HPL.out; have hz := HZh.out; unfold handW roomW afterW at hz; (simp only [HOF.out, HRM.out, HDR.out, coreW_R, if_true, if_false, spN_, Bool.false_eq_true] at hz); omega
         obtain ⟨s12, k12⟩ : ∃ s12, s7 ++ (⟨#[32, 100, 114, 111, 112, 32]⟩ : ByteArray) = s12 := ⟨_, rfl⟩
         have S12 : Hid (St s12 (((t.hands.take j).map handW).flatten ++ [104, 97, 110, 100, 108, 101, 114, 32] ++ (bs d.name) ++ [32, 61, 32] ++ (coreR d.core) ++ (d.wraps.map wrapW).flatten ++ [32, 105, 110, 98, 111, 120, 32] ++ (digW d.inbox) ++ [32, 100, 114, 111, 112, 32])) := St.cat S7.out (St.lit [32, 100, 114, 111, 112, 32]) k12
         have V13 : Hid (St (d.drop.name) (bs d.drop.name)) := St.bs _
         have q13 : ¬ 9223372036854775807 < s12.size + (d.drop.name).size := by have h0 := S12.out.size; (try simp only [spN_] at h0); have h1 := V13.out.size; (try simp only [spN_] at h1); have hpl := HPL.out; have hz := HZh.out; unfold handW roomW afterW at hz; (simp only [HOF.out, HRM.out, HDR.out, coreW_R, if_true, if_false, spN_, Bool.false_eq_true] at hz); omega
         obtain ⟨s13, k13⟩ : ∃ s13, s12 ++ d.drop.name = s13 := ⟨_, rfl⟩
         have S13 := Lib.hid (St.cat S12.out (V13.out) k13)
         by_cases hc : d.after.length = 0
         ·rw [hc] at cQ14
          have HAE := Lib.hid hc
          clear hc
          have q14 : ¬ 9223372036854775807 < s13.size + 2 := by have h0 := S13.out.size; (try simp only [spN_] at h0); have hpl := HPL.out; have hz := HZh.out; unfold handW roomW afterW at hz; (simp only [HOF.out, HRM.out, HDR.out, HAE.out, coreW_R, if_true, if_false, spN_, Bool.false_eq_true] at hz); omega
          obtain ⟨s14, k14⟩ : ∃ s14, s13 ++ (⟨#[59, 10]⟩ : ByteArray) = s14 := ⟨_, rfl⟩
          have S14 : Hid (St s14 (((t.hands.take j).map handW).flatten ++ [104, 97, 110, 100, 108, 101, 114, 32] ++ (bs d.name) ++ [32, 61, 32] ++ (coreR d.core) ++ (d.wraps.map wrapW).flatten ++ [32, 105, 110, 98, 111, 120, 32] ++ (digW d.inbox) ++ [32, 100, 114, 111, 112, 32] ++ (bs d.drop.name) ++ [59, 10])) := St.cat S13.out (St.lit [59, 10]) k14
          have HL : Hid (((t.hands.take j).map handW).flatten ++ handW d = ((t.hands.take j).map handW).flatten ++ [104, 97, 110, 100, 108, 101, 114, 32] ++ (bs d.name) ++ [32, 61, 32] ++ (coreR d.core) ++ (d.wraps.map wrapW).flatten ++ [32, 105, 110, 98, 111, 120, 32] ++ (digW d.inbox) ++ [32, 100, 114, 111, 112, 32] ++ (bs d.drop.name) ++ [59, 10]) := by show _ = _; unfold handW roomW afterW; simp [HOF.out, HRM.out, HDR.out, HAE.out, coreW_R, spsB, spB]
          go_wp2_with fail
          go_roundw
          case rel => exact ⟨j + 1, s14, rfl, by go_num, by omega, by show St _ _; rw [H1.out, HL.out]; exact S14.out, HB6.out, HXT6.out⟩
          case measure => simp [intOf]; omega
         ·have jhc : (0 : Int) < ((d.after.length : Nat) : Int) := by omega
          have HAE := Lib.hid hc
          clear hc
          have q15 : ¬ 9223372036854775807 < s13.size + 7 := by have h0 := S13.out.size; (try simp only [spN_] at h0); have hpl := HPL.out; have hz := HZh.out; unfold handW roomW afterW at hz; (simp only [HOF.out, HRM.out, HDR.out, HAE.out, coreW_R, if_true, if_false, spN_, Bool.false_eq_true] at hz); omega
          obtain ⟨s15, k15⟩ : ∃ s15, s13 ++ (⟨#[32, 97, 102, 116, 101, 114, 32]⟩ : ByteArray) = s15 := ⟨_, rfl⟩
          have S15 : Hid (St s15 (((t.hands.take j).map handW).flatten ++ [104, 97, 110, 100, 108, 101, 114, 32] ++ (bs d.name) ++ [32, 61, 32] ++ (coreR d.core) ++ (d.wraps.map wrapW).flatten ++ [32, 105, 110, 98, 111, 120, 32] ++ (digW d.inbox) ++ [32, 100, 114, 111, 112, 32] ++ (bs d.drop.name) ++ [32, 97, 102, 116, 101, 114, 32])) := St.cat S13.out (St.lit [32, 97, 102, 116, 101, 114, 32]) k15
          have C7 := Lib.hid (rlisted_any (FlP.kept HAF.out (All.kept HB6.out)) (by have hpl := HPL.out; have hz := HZh.out; unfold handW roomW afterW at hz; (simp only [HOF.out, HRM.out, HDR.out, HAE.out, coreW_R, if_true, if_false, spN_, Bool.false_eq_true] at hz); omega))
          go_wp2_with (go_at_call 49; refine C7.out.mono ?_)
          clear cQ0 cQ1 cQ2 cQ3 cQ4 cQ5 cQ6 cQ7 cQ8 cQ9 cQ10 cQ11 cQ12 cQ13 cQ14 cQ15 ltQ
          clear q7 k7 q12 k12 q13 k13 q15 k15
          rintro e7 w7 ⟨x7, rfl, hx7, hb7⟩
          have HX_7 : Hid (St x7 (usesB d.after)) := hx7
          clear hx7
          have HB7 := Lib.hid (HB6.out.trans (hb7.mono HB6.out.size))
          have hQ7 := (hb7.block Q (Array.getElem?_eq_some_iff.1 HQ6.out).1).trans HQ6.out
          obtain ⟨cQ0, cQ1, cQ2, cQ3, cQ4, cQ5, cQ6, cQ7, cQ8, cQ9, cQ10, cQ11, cQ12, cQ13, cQ14, cQ15⟩ := row16_ hQ7
          have ltQ : Q < w7.heap.size := (Array.getElem?_eq_some_iff.1 hQ7).1
          have HQ7 := Lib.hid hQ7
          clear hQ7
          have HXT7 := Lib.hid ((hb7.block X (Array.getElem?_eq_some_iff.1 HXT6.out).1).trans HXT6.out)
          clear hb7 C7
          have q16 : ¬ 9223372036854775807 < s15.size + (x7).size := by have h0 := S15.out.size; (try simp only [spN_] at h0); have h1 := HX_7.out.size; (try simp only [spN_] at h1); have hpl := HPL.out; have hz := HZh.out; unfold handW roomW afterW at hz; (simp only [HOF.out, HRM.out, HDR.out, HAE.out, coreW_R, if_true, if_false, spN_, Bool.false_eq_true] at hz); omega
          obtain ⟨s16, k16⟩ : ∃ s16, s15 ++ x7 = s16 := ⟨_, rfl⟩
          have S16 := Lib.hid (St.cat S15.out (HX_7.out) k16)
          have q17 : ¬ 9223372036854775807 < s16.size + 2 := by have h0 := S16.out.size; (try simp only [spN_] at h0); have hpl := HPL.out; have hz := HZh.out; unfold handW roomW afterW at hz; (simp only [HOF.out, HRM.out, HDR.out, HAE.out, coreW_R, if_true, if_false, spN_, Bool.false_eq_true] at hz); omega
          obtain ⟨s17, k17⟩ : ∃ s17, s16 ++ (⟨#[59, 10]⟩ : ByteArray) = s17 := ⟨_, rfl⟩
          have S17 : Hid (St s17 (((t.hands.take j).map handW).flatten ++ [104, 97, 110, 100, 108, 101, 114, 32] ++ (bs d.name) ++ [32, 61, 32] ++ (coreR d.core) ++ (d.wraps.map wrapW).flatten ++ [32, 105, 110, 98, 111, 120, 32] ++ (digW d.inbox) ++ [32, 100, 114, 111, 112, 32] ++ (bs d.drop.name) ++ [32, 97, 102, 116, 101, 114, 32] ++ (usesB d.after) ++ [59, 10])) := St.cat S16.out (St.lit [59, 10]) k17
          have HL : Hid (((t.hands.take j).map handW).flatten ++ handW d = ((t.hands.take j).map handW).flatten ++ [104, 97, 110, 100, 108, 101, 114, 32] ++ (bs d.name) ++ [32, 61, 32] ++ (coreR d.core) ++ (d.wraps.map wrapW).flatten ++ [32, 105, 110, 98, 111, 120, 32] ++ (digW d.inbox) ++ [32, 100, 114, 111, 112, 32] ++ (bs d.drop.name) ++ [32, 97, 102, 116, 101, 114, 32] ++ (usesB d.after) ++ [59, 10]) := by show _ = _; unfold handW roomW afterW; simp [HOF.out, HRM.out, HDR.out, HAE.out, coreW_R, spsB, spB]
          go_wp2_with fail
          go_roundw
          case rel => exact ⟨j + 1, s17, rfl, by go_num, by omega, by show St _ _; rw [H1.out, HL.out]; exact S17.out, HB7.out, HXT7.out⟩
          case measure => simp [intOf]; omega
       ·rw [hr] at cQ10
        have HRM := Lib.hid hr
        clear hr
        by_cases hc : d.after.length = 0
        ·rw [hc] at cQ14
         have HAE := Lib.hid hc
         clear hc
         have q18 : ¬ 9223372036854775807 < s2.size + 2 := by have h0 := HSw.out.size; (try simp only [spN_] at h0); have hpl := HPL.out; have hz := HZh.out; unfold handW roomW afterW at hz; (simp only [HOF.out, HRM.out, HAE.out, coreW_R, if_true, if_false, spN_, Bool.false_eq_true] at hz); omega
         obtain ⟨s18, k18⟩ : ∃ s18, s2 ++ (⟨#[59, 10]⟩ : ByteArray) = s18 := ⟨_, rfl⟩
         have S18 : Hid (St s18 (((t.hands.take j).map handW).flatten ++ [104, 97, 110, 100, 108, 101, 114, 32] ++ (bs d.name) ++ [32, 61, 32] ++ (coreR d.core) ++ (d.wraps.map wrapW).flatten ++ [59, 10])) := St.cat HSw.out (St.lit [59, 10]) k18
         have HL : Hid (((t.hands.take j).map handW).flatten ++ handW d = ((t.hands.take j).map handW).flatten ++ [104, 97, 110, 100, 108, 101, 114, 32] ++ (bs d.name) ++ [32, 61, 32] ++ (coreR d.core) ++ (d.wraps.map wrapW).flatten ++ [59, 10]) := by show _ = _; unfold handW roomW afterW; simp [HOF.out, HRM.out, HAE.out, coreW_R, spsB, spB]
         go_wp2_with fail
         go_roundw
         case rel => exact ⟨j + 1, s18, rfl, by go_num, by omega, by show St _ _; rw [H1.out, HL.out]; exact S18.out, HBv.out, HXTv.out⟩
         case measure => simp [intOf]; omega
        ·have jhc : (0 : Int) < ((d.after.length : Nat) : Int) := by omega
         have HAE := Lib.hid hc
         clear hc
         have q19 : ¬ 9223372036854775807 < s2.size + 7 := by have h0 := HSw.out.size; (try simp only [spN_] at h0); have hpl := HPL.out; have hz := HZh.out; unfold handW roomW afterW at hz; (simp only [HOF.out, HRM.out, HAE.out, coreW_R, if_true, if_false, spN_, Bool.false_eq_true] at hz); omega
         obtain ⟨s19, k19⟩ : ∃ s19, s2 ++ (⟨#[32, 97, 102, 116, 101, 114, 32]⟩ : ByteArray) = s19 := ⟨_, rfl⟩
         have S19 : Hid (St s19 (((t.hands.take j).map handW).flatten ++ [104, 97, 110, 100, 108, 101, 114, 32] ++ (bs d.name) ++ [32, 61, 32] ++ (coreR d.core) ++ (d.wraps.map wrapW).flatten ++ [32, 97, 102, 116, 101, 114, 32])) := St.cat HSw.out (St.lit [32, 97, 102, 116, 101, 114, 32]) k19
         have C7 := Lib.hid (rlisted_any (FlP.kept HAF.out (All.kept HBv.out)) (by have hpl := HPL.out; have hz := HZh.out; unfold handW roomW afterW at hz; (simp only [HOF.out, HRM.out, HAE.out, coreW_R, if_true, if_false, spN_, Bool.false_eq_true] at hz); omega))
         go_wp2_with (go_at_call 49; refine C7.out.mono ?_)
         clear cQ0 cQ1 cQ2 cQ3 cQ4 cQ5 cQ6 cQ7 cQ8 cQ9 cQ10 cQ11 cQ12 cQ13 cQ14 cQ15 ltQ
         clear q19 k19
         rintro e7 w7 ⟨x7, rfl, hx7, hb7⟩
         have HX_7 : Hid (St x7 (usesB d.after)) := hx7
         clear hx7
         have HB7 := Lib.hid (HBv.out.trans (hb7.mono HBv.out.size))
         have hQ7 := (hb7.block Q (Array.getElem?_eq_some_iff.1 HQv.out).1).trans HQv.out
         obtain ⟨cQ0, cQ1, cQ2, cQ3, cQ4, cQ5, cQ6, cQ7, cQ8, cQ9, cQ10, cQ11, cQ12, cQ13, cQ14, cQ15⟩ := row16_ hQ7
         have ltQ : Q < w7.heap.size := (Array.getElem?_eq_some_iff.1 hQ7).1
         have HQ7 := Lib.hid hQ7
         clear hQ7
         have HXT7 := Lib.hid ((hb7.block X (Array.getElem?_eq_some_iff.1 HXTv.out).1).trans HXTv.out)
         clear hb7 C7
         have q20 : ¬ 9223372036854775807 < s19.size + (x7).size := by have h0 := S19.out.size; (try simp only [spN_] at h0); have h1 := HX_7.out.size; (try simp only [spN_] at h1); have hpl := HPL.out; have hz := HZh.out; unfold handW roomW afterW at hz; (simp only [HOF.out, HRM.out, HAE.out, coreW_R, if_true, if_false, spN_, Bool.false_eq_true] at hz); omega
         obtain ⟨s20, k20⟩ : ∃ s20, s19 ++ x7 = s20 := ⟨_, rfl⟩
         have S20 := Lib.hid (St.cat S19.out (HX_7.out) k20)
         have q21 : ¬ 9223372036854775807 < s20.size + 2 := by have h0 := S20.out.size; (try simp only [spN_] at h0); have hpl := HPL.out; have hz := HZh.out; unfold handW roomW afterW at hz; (simp only [HOF.out, HRM.out, HAE.out, coreW_R, if_true, if_false, spN_, Bool.false_eq_true] at hz); omega
         obtain ⟨s21, k21⟩ : ∃ s21, s20 ++ (⟨#[59, 10]⟩ : ByteArray) = s21 := ⟨_, rfl⟩
         have S21 : Hid (St s21 (((t.hands.take j).map handW).flatten ++ [104, 97, 110, 100, 108, 101, 114, 32] ++ (bs d.name) ++ [32, 61, 32] ++ (coreR d.core) ++ (d.wraps.map wrapW).flatten ++ [32, 97, 102, 116, 101, 114, 32] ++ (usesB d.after) ++ [59, 10])) := St.cat S20.out (St.lit [59, 10]) k21
         have HL : Hid (((t.hands.take j).map handW).flatten ++ handW d = ((t.hands.take j).map handW).flatten ++ [104, 97, 110, 100, 108, 101, 114, 32] ++ (bs d.name) ++ [32, 61, 32] ++ (coreR d.core) ++ (d.wraps.map wrapW).flatten ++ [32, 97, 102, 116, 101, 114, 32] ++ (usesB d.after) ++ [59, 10]) := by show _ = _; unfold handW roomW afterW; simp [HOF.out, HRM.out, HAE.out, coreW_R, spsB, spB]
         go_wp2_with fail
         go_roundw
         case rel => exact ⟨j + 1, s21, rfl, by go_num, by omega, by show St _ _; rw [H1.out, HL.out]; exact S21.out, HB7.out, HXT7.out⟩
         case measure => simp [intOf]; omega
    ·obtain ⟨n1ho, n2ho, n3ho, n4ho⟩ := noname_ne ho
     have HOF := Lib.hid ho
     clear ho
     have q22 : ¬ 9223372036854775807 < s3.size + 3 := by have h0 := S3.out.size; (try simp only [spN_] at h0); have hpl := HPL.out; have hz := HZh.out; unfold handW roomW afterW at hz; (simp only [HOF.out, coreW_R, if_true, if_false, spN_, Bool.false_eq_true] at hz); omega
     obtain ⟨s22, k22⟩ : ∃ s22, s3 ++ (⟨#[111, 102, 32]⟩ : ByteArray) = s22 := ⟨_, rfl⟩
     have S22 : Hid (St s22 (((t.hands.take j).map handW).flatten ++ [104, 97, 110, 100, 108, 101, 114, 32] ++ (bs d.name) ++ [32, 61, 32] ++ [111, 102, 32])) := St.cat S3.out (St.lit [111, 102, 32]) k22
     have V23 : Hid (St (d.of_.name) (bs d.of_.name)) := St.bs _
     have q23 : ¬ 9223372036854775807 < s22.size + (d.of_.name).size := by have h0 := S22.out.size; (try simp only [spN_] at h0); have h1 := V23.out.size; (try simp only [spN_] at h1); have hpl := HPL.out; have hz := HZh.out; unfold handW roomW afterW at hz; (simp only [HOF.out, coreW_R, if_true, if_false, spN_, Bool.false_eq_true] at hz); omega
     obtain ⟨s23, k23⟩ : ∃ s23, s22 ++ d.of_.name = s23 := ⟨_, rfl⟩
     have S23 := Lib.hid (St.cat S22.out (V23.out) k23)
     have HS0 : Hid (St s23 (((t.hands.take j).map handW).flatten ++ [104, 97, 110, 100, 108, 101, 114, 32] ++ (bs d.name) ++ [32, 61, 32] ++ [111, 102, 32] ++ (bs d.of_.name))) := S23
     have HB_0 := HBd
     have HQ_0 := HQd
     have HXT_0 := HXTd
     go_wp2_with fail
     go_loopw [3, 7, 44] (fun s3 s7 s44 wv => ∃ (i : Nat) (s2 : ByteArray), s3 = .string s2 ∧ s44 = .int .i64 (i : Nat) ∧ i ≤ d.wraps.length ∧ Hid (St s2 (((t.hands.take j).map handW).flatten ++ [104, 97, 110, 100, 108, 101, 114, 32] ++ (bs d.name) ++ [32, 61, 32] ++ [111, 102, 32] ++ (bs d.of_.name) ++ ((d.wraps.take i).map wrapW).flatten)) ∧ Hid (Below W.heap.size W wv) ∧ Hid (wv.heap[Q]? = some (.cells #[.string d.name, .string d.of_.name, .int .i64 d.of_.pos, .string d.core.word, .bool d.core.has, .bool d.core.minus, .int .u64 d.core.num, .slice cq d.core.caps.length cc, .int .i64 d.core.pos, .slice vq d.wraps.length vk, .bool d.room, .int .u64 d.inbox, .string d.drop.name, .int .i64 d.drop.pos, .slice aq d.after.length ac, .int .i64 d.pos] 81 (0, 0))) ∧ Hid (wv.heap[X]? = wr.heap[X]?)) (fun _ _ i _ => d.wraps.length - (intOf i).toNat)
     case atStart => exact ⟨0, _, rfl, rfl, Nat.zero_le _, by show St _ _; rw [List.take_zero, List.map_nil, List.flatten_nil, List.append_nil]; exact HS0.out, HB_0.out, HQ_0.out, HXT_0.out.trans HXTr.out.symm⟩
     case round =>
      rename World => wv
      obtain ⟨i, s2, rfl, rfl, hi, HSi, HBv, HQv, HXv⟩ := hrel
      clear cQ0 cQ1 cQ2 cQ3 cQ4 cQ5 cQ6 cQ7 cQ8 cQ9 cQ10 cQ11 cQ12 cQ13 cQ14 cQ15 ltQ
      clear q1 k1 q2 k2 q3 k3 q22 k22 q23 k23
      by_cases hlt2 : i < d.wraps.length
      ·obtain ⟨x, hxx⟩ : ∃ x, d.wraps[i]? = some x := ⟨_, List.getElem?_eq_getElem hlt2⟩
       obtain ⟨bx, ox, capx, cs, e, -, hblx, -, hR, hc⟩ := HWS.out.at hxx
       injection e with e _ e3
       subst e; subst e3
       have hR0 := hR
       obtain ⟨v1, u1, w0, w1, w2, rfl, hnums, hcaps, hwant⟩ := hR0
       obtain ⟨k1, q1, m1, -, ew⟩ := hwant.form
       injection ew with ew0 ew
       injection ew with ew1 ew
       injection ew with ew2
       subst ew0; subst ew1; subst ew2
       obtain ⟨nq, nc, rfl, -⟩ := NumsP.shape hnums
       obtain ⟨uq, uc, rfl, -⟩ := UsP.shape hcaps
       have HRx := Lib.hid hR
       have y0 : wv.cell? ⟨bx, ox + i * 10, none⟩ = some (.bool x.opn) := (HBv.out.cell (p := ⟨bx, _, none⟩) hblx).trans (hc 0 _ rfl)
       have y1 : wv.cell? ⟨bx, ox + i * 10 + 1, none⟩ = some (.string x.word) := (HBv.out.cell (p := ⟨bx, _, none⟩) hblx).trans (hc 1 _ rfl)
       have y2 : wv.cell? ⟨bx, ox + i * 10 + 2, none⟩ = some (.string x.sub) := (HBv.out.cell (p := ⟨bx, _, none⟩) hblx).trans (hc 2 _ rfl)
       have y3 : wv.cell? ⟨bx, ox + i * 10 + 3, none⟩ = some (.slice nq x.nums.length nc) := (HBv.out.cell (p := ⟨bx, _, none⟩) hblx).trans (hc 3 _ rfl)
       have y4 : wv.cell? ⟨bx, ox + i * 10 + 4, none⟩ = some (.slice uq x.caps.length uc) := (HBv.out.cell (p := ⟨bx, _, none⟩) hblx).trans (hc 4 _ rfl)
       have y5 : wv.cell? ⟨bx, ox + i * 10 + 5, none⟩ = some (.bool x.when_) := (HBv.out.cell (p := ⟨bx, _, none⟩) hblx).trans (hc 5 _ rfl)
       have y6 : wv.cell? ⟨bx, ox + i * 10 + 6, none⟩ = some (.int .i64 x.want.op) := (HBv.out.cell (p := ⟨bx, _, none⟩) hblx).trans (hc 6 _ rfl)
       have y7 : wv.cell? ⟨bx, ox + i * 10 + 7, none⟩ = some (.int .i64 x.want.num) := (HBv.out.cell (p := ⟨bx, _, none⟩) hblx).trans (hc 7 _ rfl)
       have y8 : wv.cell? ⟨bx, ox + i * 10 + 8, none⟩ = some (.slice q1 x.want.l.length m1) := (HBv.out.cell (p := ⟨bx, _, none⟩) hblx).trans (hc 8 _ rfl)
       have y9 : wv.cell? ⟨bx, ox + i * 10 + 9, none⟩ = some (.int .i64 x.pos) := (HBv.out.cell (p := ⟨bx, _, none⟩) hblx).trans (hc 9 _ rfl)
       obtain ⟨Y, hY⟩ : ∃ Y, wv.heap.size = Y := ⟨_, rfl⟩
       obtain ⟨wx, hwx⟩ : ∃ wx, wv.alloc (.cells #[.bool x.opn, .string x.word, .string x.sub, .slice nq x.nums.length nc, .slice uq x.caps.length uc, .bool x.when_, .int .i64 x.want.op, .int .i64 x.want.num, .slice q1 x.want.l.length m1, .int .i64 x.pos] 90) = wx := ⟨_, rfl⟩
       have HYx := Lib.hid (aRow_ hwx hY)
       have hbx : Below wv.heap.size wv wx := by rw [← hwx]; exact (Below.refl _ wv).alloc (Nat.le_refl _) _
       have HBx := Lib.hid (HBv.out.trans (hbx.mono HBv.out.size))
       have HYe := Lib.hid hY
       have Hwxe := Lib.hid hwx
       have g0x : (i : Int) < ((d.wraps.length : Nat) : Int) := by omega
       have g00x : (0 : Int) ≤ (i : Int) := by omega
       have HXJx := Lib.hid hxx
       clear hY hwx hc hxx hblx hR
       have HXM : Hid (x ∈ d.wraps) := List.mem_of_getElem? HXJx.out
       have HWW : Hid (x.when_ = true → rightB x.want = true) := fit_wraps HHB.out x HXM.out
       have HNW : Hid (NmW x) := HNM.out.2.2.1 x HXM.out
       have H3 := Lib.hid (flat_step (f := wrapW) HXJx.out)
       have H4 := Lib.hid (flat_take_le wrapW d.wraps (i + 1))
       have HQx := Lib.hid ((hbx.block Q (Array.getElem?_eq_some_iff.1 HQv.out).1).trans HQv.out)
       have HXx := Lib.hid ((hbx.block X (by have := HXv.out; rw [HXTr.out] at this; exact (Array.getElem?_eq_some_iff.1 this).1)).trans HXv.out)
       clear hbx hnums hcaps hwant
       go_upto_region 14 with fail
       rw [HYe.out, Hwxe.out]
       clear y0 y1 y2 y3 y4 y5 y6 y7 y8 y9
       obtain ⟨cY0, cY1, cY2, cY3, cY4, cY5, cY6, cY7, cY8, cY9⟩ := row10_ HYx.out
       have ltY : Y < wx.heap.size := (Array.getElem?_eq_some_iff.1 HYx.out).1
       have C4 := Lib.hid (rwrap_any x wx k (HP.out.up HBx.out) HNW.out HWW.out (HRx.out.kept (All.kept HBx.out)) (by have hpl := HPL.out; have hz := HZh.out; unfold handW roomW afterW at hz; (simp only [HOF.out, coreW_R, if_true, if_false, spN_, Bool.false_eq_true] at hz); have h4 := H4.out; rw [H3.out, length_append] at h4; omega))
       go_wp2_with (go_at_call 47; refine C4.out.mono ?_)
       clear cY0 cY1 cY2 cY3 cY4 cY5 cY6 cY7 cY8 cY9 ltY
       rintro e4 w4 ⟨x4, rfl, hx4, hb4⟩
       have HX_4 : Hid (St x4 (wrapW x)) := hx4
       have HB4 := Lib.hid (HBx.out.trans (hb4.mono HBx.out.size))
       have HQ4 := Lib.hid ((hb4.block Q (Array.getElem?_eq_some_iff.1 HQx.out).1).trans HQx.out)
       have HX4 := Lib.hid ((hb4.block X (by have := HXx.out; rw [HXTr.out] at this; exact (Array.getElem?_eq_some_iff.1 this).1)).trans HXx.out)
       clear hx4 hb4 C4
       have q24 : ¬ 9223372036854775807 < s2.size + (x4).size := by have h0 := HSi.out.size; (try simp only [spN_] at h0); have h1 := HX_4.out.size; (try simp only [spN_] at h1); have hpl := HPL.out; have hz := HZh.out; unfold handW roomW afterW at hz; (simp only [HOF.out, coreW_R, if_true, if_false, spN_, Bool.false_eq_true] at hz); have h4 := H4.out; rw [H3.out, length_append] at h4; omega
       obtain ⟨s24, k24⟩ : ∃ s24, s2 ++ x4 = s24 := ⟨_, rfl⟩
       have S24 := Lib.hid (St.cat HSi.out (HX_4.out) k24)
       go_wp2_with fail
       go_roundw
       case rel => exact ⟨i + 1, s24, rfl, by go_num, by omega, by show St _ _; rw [H3.out, ← List.append_assoc]; exact S24.out, HB4.out, HQ4.out, HX4.out⟩
       case measure => simp [intOf]; omega
      ·obtain rfl : i = d.wraps.length := by omega
       have hii : ¬ ((d.wraps.length : Nat) : Int) < ((d.wraps.length : Nat) : Int) := by omega
       have HSw : Hid (St s2 (((t.hands.take j).map handW).flatten ++ [104, 97, 110, 100, 108, 101, 114, 32] ++ (bs d.name) ++ [32, 61, 32] ++ [111, 102, 32] ++ (bs d.of_.name) ++ (d.wraps.map wrapW).flatten)) := by have h := HSi.out; rw [List.take_length] at h; exact h
       have HXTv := Lib.hid (HXv.out.trans HXTr.out)
       obtain ⟨cQ0, cQ1, cQ2, cQ3, cQ4, cQ5, cQ6, cQ7, cQ8, cQ9, cQ10, cQ11, cQ12, cQ13, cQ14, cQ15⟩ := row16_ HQv.out
       have ltQ : Q < wv.heap.size := (Array.getElem?_eq_some_iff.1 HQv.out).1
       rcases Bool.eq_false_or_eq_true d.room with hr | hr
       ·rw [hr] at cQ10
        have HRM := Lib.hid hr
        clear hr
        have q25 : ¬ 9223372036854775807 < s2.size + 7 := by have h0 := HSw.out.size; (try simp only [spN_] at h0); have hpl := HPL.out; have hz := HZh.out; unfold handW roomW afterW at hz; (simp only [HOF.out, HRM.out, coreW_R, if_true, if_false, spN_, Bool.false_eq_true] at hz); omega
        obtain ⟨s25, k25⟩ : ∃ s25, s2 ++ (⟨#[32, 105, 110, 98, 111, 120, 32]⟩ : ByteArray) = s25 := ⟨_, rfl⟩
        have S25 : Hid (St s25 (((t.hands.take j).map handW).flatten ++ [104, 97, 110, 100, 108, 101, 114, 32] ++ (bs d.name) ++ [32, 61, 32] ++ [111, 102, 32] ++ (bs d.of_.name) ++ (d.wraps.map wrapW).flatten ++ [32, 105, 110, 98, 111, 120, 32])) := St.cat HSw.out (St.lit [32, 105, 110, 98, 111, 120, 32]) k25
        have C6 := Lib.hid (rdig_any HNM.out.2.2.2.1 wv (HP.out.up HBv.out))
        go_wp2_with (go_at_call 48; refine C6.out.mono ?_)
        clear cQ0 cQ1 cQ2 cQ3 cQ4 cQ5 cQ6 cQ7 cQ8 cQ9 cQ10 cQ11 cQ12 cQ13 cQ14 cQ15 ltQ
        clear q25 k25
        rintro e6 w6 ⟨x6, rfl, hx6, hb6⟩
        have HX_6 : Hid (St x6 (digW d.inbox)) := hx6
        clear hx6
        have HB6 := Lib.hid (HBv.out.trans (hb6.mono HBv.out.size))
        have hQ6 := (hb6.block Q (Array.getElem?_eq_some_iff.1 HQv.out).1).trans HQv.out
        obtain ⟨cQ0, cQ1, cQ2, cQ3, cQ4, cQ5, cQ6, cQ7, cQ8, cQ9, cQ10, cQ11, cQ12, cQ13, cQ14, cQ15⟩ := row16_ hQ6
        have ltQ : Q < w6.heap.size := (Array.getElem?_eq_some_iff.1 hQ6).1
        have HQ6 := Lib.hid hQ6
        clear hQ6
        have HXT6 := Lib.hid ((hb6.block X (Array.getElem?_eq_some_iff.1 HXTv.out).1).trans HXTv.out)
        clear hb6 C6
        have q26 : ¬ 9223372036854775807 < s25.size + (x6).size := by have h0 := S25.out.size; (try simp only [spN_] at h0); have h1 := HX_6.out.size; (try simp only [spN_] at h1); have hpl := HPL.out; have hz := HZh.out; unfold handW roomW afterW at hz; (simp only [HOF.out, HRM.out, coreW_R, if_true, if_false, spN_, Bool.false_eq_true] at hz); omega
        obtain ⟨s26, k26⟩ : ∃ s26, s25 ++ x6 = s26 := ⟨_, rfl⟩
        have S26 := Lib.hid (St.cat S25.out (HX_6.out) k26)
        by_cases hd : d.drop.name.size = 0
        ·have hde := noname hd
         have HDR := Lib.hid hd
         rw [hde] at cQ12
         clear hd hde
         by_cases hc : d.after.length = 0
         ·rw [hc] at cQ14
          have HAE := Lib.hid hc
          clear hc
          have q27 : ¬ 9223372036854775807 < s26.size + 2 := by have h0 := S26.out.size; (try simp only [spN_] at h0); have hpl := HPL.out; have hz := HZh.out; unfold handW roomW afterW at hz; (simp only [HOF.out, HRM.out, HDR.out, HAE.out, coreW_R, if_true, if_false, spN_, Bool.false_eq_true] at hz); omega
          obtain ⟨s27, k27⟩ : ∃ s27, s26 ++ (⟨#[59, 10]⟩ : ByteArray) = s27 := ⟨_, rfl⟩
          have S27 : Hid (St s27 (((t.hands.take j).map handW).flatten ++ [104, 97, 110, 100, 108, 101, 114, 32] ++ (bs d.name) ++ [32, 61, 32] ++ [111, 102, 32] ++ (bs d.of_.name) ++ (d.wraps.map wrapW).flatten ++ [32, 105, 110, 98, 111, 120, 32] ++ (digW d.inbox) ++ [59, 10])) := St.cat S26.out (St.lit [59, 10]) k27
          have HL : Hid (((t.hands.take j).map handW).flatten ++ handW d = ((t.hands.take j).map handW).flatten ++ [104, 97, 110, 100, 108, 101, 114, 32] ++ (bs d.name) ++ [32, 61, 32] ++ [111, 102, 32] ++ (bs d.of_.name) ++ (d.wraps.map wrapW).flatten ++ [32, 105, 110, 98, 111, 120, 32] ++ (digW d.inbox) ++ [59, 10]) := by show _ = _; unfold handW roomW afterW; simp [HOF.out, HRM.out, HDR.out, HAE.out, coreW_R, spsB, spB]
          go_wp2_with fail
          go_roundw
          case rel => exact ⟨j + 1, s27, rfl, by go_num, by omega, by show St _ _; rw [H1.out, HL.out]; exact S27.out, HB6.out, HXT6.out⟩
          case measure => simp [intOf]; omega
         ·have jhc : (0 : Int) < ((d.after.length : Nat) : Int) := by omega
          have HAE := Lib.hid hc
          clear hc
          have q28 : ¬ 9223372036854775807 < s26.size + 7 := by have h0 := S26.out.size; (try simp only [spN_] at h0); have hpl := HPL.out; have hz := HZh.out; unfold handW roomW afterW at hz; (simp only [HOF.out, HRM.out, HDR.out, HAE.out, coreW_R, if_true, if_false, spN_, Bool.false_eq_true] at hz); omega
          obtain ⟨s28, k28⟩ : ∃ s28, s26 ++ (⟨#[32, 97, 102, 116, 101, 114, 32]⟩ : ByteArray) = s28 := ⟨_, rfl⟩
          have S28 : Hid (St s28 (((t.hands.take j).map handW).flatten ++ [104, 97, 110, 100, 108, 101, 114, 32] ++ (bs d.name) ++ [32, 61, 32] ++ [111, 102, 32] ++ (bs d.of_.name) ++ (d.wraps.map wrapW).flatten ++ [32, 105, 110, 98, 111, 120, 32] ++ (digW d.inbox) ++ [32, 97, 102, 116, 101, 114, 32])) := St.cat S26.out (St.lit [32, 97, 102, 116, 101, 114, 32]) k28
          have C7 := Lib.hid (rlisted_any (FlP.kept HAF.out (All.kept HB6.out)) (by have hpl := HPL.out; have hz := HZh.out; unfold handW roomW afterW at hz; (simp only [HOF.out, HRM.out, HDR.out, HAE.out, coreW_R, if_true, if_false, spN_, Bool.false_eq_true] at hz); omega))
          go_wp2_with (go_at_call 49; refine C7.out.mono ?_)
          clear cQ0 cQ1 cQ2 cQ3 cQ4 cQ5 cQ6 cQ7 cQ8 cQ9 cQ10 cQ11 cQ12 cQ13 cQ14 cQ15 ltQ
          clear q26 k26 q28 k28
          rintro e7 w7 ⟨x7, rfl, hx7, hb7⟩
          have HX_7 : Hid (St x7 (usesB d.after)) := hx7
          clear hx7
          have HB7 := Lib.hid (HB6.out.trans (hb7.mono HB6.out.size))
          have hQ7 := (hb7.block Q (Array.getElem?_eq_some_iff.1 HQ6.out).1).trans HQ6.out
          obtain ⟨cQ0, cQ1, cQ2, cQ3, cQ4, cQ5, cQ6, cQ7, cQ8, cQ9, cQ10, cQ11, cQ12, cQ13, cQ14, cQ15⟩ := row16_ hQ7
          have ltQ : Q < w7.heap.size := (Array.getElem?_eq_some_iff.1 hQ7).1
          have HQ7 := Lib.hid hQ7
          clear hQ7
          have HXT7 := Lib.hid ((hb7.block X (Array.getElem?_eq_some_iff.1 HXT6.out).1).trans HXT6.out)
          clear hb7 C7
          have q29 : ¬ 9223372036854775807 < s28.size + (x7).size := by have h0 := S28.out.size; (try simp only [spN_] at h0); have h1 := HX_7.out.size; (try simp only [spN_] at h1); have hpl := HPL.out; have hz := HZh.out; unfold handW roomW afterW at hz; (simp only [HOF.out, HRM.out, HDR.out, HAE.out, coreW_R, if_true, if_false, spN_, Bool.false_eq_true] at hz); omega
          obtain ⟨s29, k29⟩ : ∃ s29, s28 ++ x7 = s29 := ⟨_, rfl⟩
          have S29 := Lib.hid (St.cat S28.out (HX_7.out) k29)
          have q30 : ¬ 9223372036854775807 < s29.size + 2 := by have h0 := S29.out.size; (try simp only [spN_] at h0); have hpl := HPL.out; have hz := HZh.out; unfold handW roomW afterW at hz; (simp only [HOF.out, HRM.out, HDR.out, HAE.out, coreW_R, if_true, if_false, spN_, Bool.false_eq_true] at hz); omega
          obtain ⟨s30, k30⟩ : ∃ s30, s29 ++ (⟨#[59, 10]⟩ : ByteArray) = s30 := ⟨_, rfl⟩
          have S30 : Hid (St s30 (((t.hands.take j).map handW).flatten ++ [104, 97, 110, 100, 108, 101, 114, 32] ++ (bs d.name) ++ [32, 61, 32] ++ [111, 102, 32] ++ (bs d.of_.name) ++ (d.wraps.map wrapW).flatten ++ [32, 105, 110, 98, 111, 120, 32] ++ (digW d.inbox) ++ [32, 97, 102, 116, 101, 114, 32] ++ (usesB d.after) ++ [59, 10])) := St.cat S29.out (St.lit [59, 10]) k30
          have HL : Hid (((t.hands.take j).map handW).flatten ++ handW d = ((t.hands.take j).map handW).flatten ++ [104, 97, 110, 100, 108, 101, 114, 32] ++ (bs d.name) ++ [32, 61, 32] ++ [111, 102, 32] ++ (bs d.of_.name) ++ (d.wraps.map wrapW).flatten ++ [32, 105, 110, 98, 111, 120, 32] ++ (digW d.inbox) ++ [32, 97, 102, 116, 101, 114, 32] ++ (usesB d.after) ++ [59, 10]) := by show _ = _; unfold handW roomW afterW; simp [HOF.out, HRM.out, HDR.out, HAE.out, coreW_R, spsB, spB]
          go_wp2_with fail
          go_roundw
          case rel => exact ⟨j + 1, s30, rfl, by go_num, by omega, by show St _ _; rw [H1.out, HL.out]; exact S30.out, HB7.out, HXT7.out⟩
          case measure => simp [intOf]; omega
        ·obtain ⟨n1hd, n2hd, n3hd, n4hd⟩ := noname_ne hd
         have HDR := Lib.hid hd
         clear hd
         have q31 : ¬ 9223372036854775807 < s26.size + 6 := by have h0 := S26.out.size; (try simp only [spN_] at h0); have hpl := HPL.out; have hz := HZh.out; unfold handW roomW afterW at hz; (simp only [HOF.out, HRM.out, HDR.out, coreW_R, if_true, if_false, spN_, Bool.false_eq_true] at hz); omega
         obtain ⟨s31, k31⟩ : ∃ s31, s26 ++ (⟨#[32, 100, 114, 111, 112, 32]⟩ : ByteArray) = s31 := ⟨_, rfl⟩
         have S31 : Hid (St s31 (((t.hands.take j).map handW).flatten ++ [104, 97, 110, 100, 108, 101, 114, 32] ++ (bs d.name) ++ [32, 61, 32] ++ [111, 102, 32] ++ (bs d.of_.name) ++ (d.wraps.map wrapW).flatten ++ [32, 105, 110, 98, 111, 120, 32] ++ (digW d.inbox) ++ [32, 100, 114, 111, 112, 32])) := St.cat S26.out (St.lit [32, 100, 114, 111, 112, 32]) k31
         have V32 : Hid (St (d.drop.name) (bs d.drop.name)) := St.bs _
         have q32 : ¬ 9223372036854775807 < s31.size + (d.drop.name).size := by have h0 := S31.out.size; (try simp only [spN_] at h0); have h1 := V32.out.size; (try simp only [spN_] at h1); have hpl := HPL.out; have hz := HZh.out; unfold handW roomW afterW at hz; (simp only [HOF.out, HRM.out, HDR.out, coreW_R, if_true, if_false, spN_, Bool.false_eq_true] at hz); omega
         obtain ⟨s32, k32⟩ : ∃ s32, s31 ++ d.drop.name = s32 := ⟨_, rfl⟩
         have S32 := Lib.hid (St.cat S31.out (V32.out) k32)
         by_cases hc : d.after.length = 0
         ·rw [hc] at cQ14
          have HAE := Lib.hid hc
          clear hc
          have q33 : ¬ 9223372036854775807 < s32.size + 2 := by have h0 := S32.out.size; (try simp only [spN_] at h0); have hpl := HPL.out; have hz := HZh.out; unfold handW roomW afterW at hz; (simp only [HOF.out, HRM.out, HDR.out, HAE.out, coreW_R, if_true, if_false, spN_, Bool.false_eq_true] at hz); omega
          obtain ⟨s33, k33⟩ : ∃ s33, s32 ++ (⟨#[59, 10]⟩ : ByteArray) = s33 := ⟨_, rfl⟩
          have S33 : Hid (St s33 (((t.hands.take j).map handW).flatten ++ [104, 97, 110, 100, 108, 101, 114, 32] ++ (bs d.name) ++ [32, 61, 32] ++ [111, 102, 32] ++ (bs d.of_.name) ++ (d.wraps.map wrapW).flatten ++ [32, 105, 110, 98, 111, 120, 32] ++ (digW d.inbox) ++ [32, 100, 114, 111, 112, 32] ++ (bs d.drop.name) ++ [59, 10])) := St.cat S32.out (St.lit [59, 10]) k33
          have HL : Hid (((t.hands.take j).map handW).flatten ++ handW d = ((t.hands.take j).map handW).flatten ++ [104, 97, 110, 100, 108, 101, 114, 32] ++ (bs d.name) ++ [32, 61, 32] ++ [111, 102, 32] ++ (bs d.of_.name) ++ (d.wraps.map wrapW).flatten ++ [32, 105, 110, 98, 111, 120, 32] ++ (digW d.inbox) ++ [32, 100, 114, 111, 112, 32] ++ (bs d.drop.name) ++ [59, 10]) := by show _ = _; unfold handW roomW afterW; simp [HOF.out, HRM.out, HDR.out, HAE.out, coreW_R, spsB, spB]
          go_wp2_with fail
          go_roundw
          case rel => exact ⟨j + 1, s33, rfl, by go_num, by omega, by show St _ _; rw [H1.out, HL.out]; exact S33.out, HB6.out, HXT6.out⟩
          case measure => simp [intOf]; omega
         ·have jhc : (0 : Int) < ((d.after.length : Nat) : Int) := by omega
          have HAE := Lib.hid hc
          clear hc
          have q34 : ¬ 9223372036854775807 < s32.size + 7 := by have h0 := S32.out.size; (try simp only [spN_] at h0); have hpl := HPL.out; have hz := HZh.out; unfold handW roomW afterW at hz; (simp only [HOF.out, HRM.out, HDR.out, HAE.out, coreW_R, if_true, if_false, spN_, Bool.false_eq_true] at hz); omega
          obtain ⟨s34, k34⟩ : ∃ s34, s32 ++ (⟨#[32, 97, 102, 116, 101, 114, 32]⟩ : ByteArray) = s34 := ⟨_, rfl⟩
          have S34 : Hid (St s34 (((t.hands.take j).map handW).flatten ++ [104, 97, 110, 100, 108, 101, 114, 32] ++ (bs d.name) ++ [32, 61, 32] ++ [111, 102, 32] ++ (bs d.of_.name) ++ (d.wraps.map wrapW).flatten ++ [32, 105, 110, 98, 111, 120, 32] ++ (digW d.inbox) ++ [32, 100, 114, 111, 112, 32] ++ (bs d.drop.name) ++ [32, 97, 102, 116, 101, 114, 32])) := St.cat S32.out (St.lit [32, 97, 102, 116, 101, 114, 32]) k34
          have C7 := Lib.hid (rlisted_any (FlP.kept HAF.out (All.kept HB6.out)) (by have hpl := HPL.out; have hz := HZh.out; unfold handW roomW afterW at hz; (simp only [HOF.out, HRM.out, HDR.out, HAE.out, coreW_R, if_true, if_false, spN_, Bool.false_eq_true] at hz); omega))
          go_wp2_with (go_at_call 49; refine C7.out.mono ?_)
          clear cQ0 cQ1 cQ2 cQ3 cQ4 cQ5 cQ6 cQ7 cQ8 cQ9 cQ10 cQ11 cQ12 cQ13 cQ14 cQ15 ltQ
          clear q26 k26 q31 k31 q32 k32 q34 k34
          rintro e7 w7 ⟨x7, rfl, hx7, hb7⟩
          have HX_7 : Hid (St x7 (usesB d.after)) := hx7
          clear hx7
          have HB7 := Lib.hid (HB6.out.trans (hb7.mono HB6.out.size))
          have hQ7 := (hb7.block Q (Array.getElem?_eq_some_iff.1 HQ6.out).1).trans HQ6.out
          obtain ⟨cQ0, cQ1, cQ2, cQ3, cQ4, cQ5, cQ6, cQ7, cQ8, cQ9, cQ10, cQ11, cQ12, cQ13, cQ14, cQ15⟩ := row16_ hQ7
          have ltQ : Q < w7.heap.size := (Array.getElem?_eq_some_iff.1 hQ7).1
          have HQ7 := Lib.hid hQ7
          clear hQ7
          have HXT7 := Lib.hid ((hb7.block X (Array.getElem?_eq_some_iff.1 HXT6.out).1).trans HXT6.out)
          clear hb7 C7
          have q35 : ¬ 9223372036854775807 < s34.size + (x7).size := by have h0 := S34.out.size; (try simp only [spN_] at h0); have h1 := HX_7.out.size; (try simp only [spN_] at h1); have hpl := HPL.out; have hz := HZh.out; unfold handW roomW afterW at hz; (simp only [HOF.out, HRM.out, HDR.out, HAE.out, coreW_R, if_true, if_false, spN_, Bool.false_eq_true] at hz); omega
          obtain ⟨s35, k35⟩ : ∃ s35, s34 ++ x7 = s35 := ⟨_, rfl⟩
          have S35 := Lib.hid (St.cat S34.out (HX_7.out) k35)
          have q36 : ¬ 9223372036854775807 < s35.size + 2 := by have h0 := S35.out.size; (try simp only [spN_] at h0); have hpl := HPL.out; have hz := HZh.out; unfold handW roomW afterW at hz; (simp only [HOF.out, HRM.out, HDR.out, HAE.out, coreW_R, if_true, if_false, spN_, Bool.false_eq_true] at hz); omega
          obtain ⟨s36, k36⟩ : ∃ s36, s35 ++ (⟨#[59, 10]⟩ : ByteArray) = s36 := ⟨_, rfl⟩
          have S36 : Hid (St s36 (((t.hands.take j).map handW).flatten ++ [104, 97, 110, 100, 108, 101, 114, 32] ++ (bs d.name) ++ [32, 61, 32] ++ [111, 102, 32] ++ (bs d.of_.name) ++ (d.wraps.map wrapW).flatten ++ [32, 105, 110, 98, 111, 120, 32] ++ (digW d.inbox) ++ [32, 100, 114, 111, 112, 32] ++ (bs d.drop.name) ++ [32, 97, 102, 116, 101, 114, 32] ++ (usesB d.after) ++ [59, 10])) := St.cat S35.out (St.lit [59, 10]) k36
          have HL : Hid (((t.hands.take j).map handW).flatten ++ handW d = ((t.hands.take j).map handW).flatten ++ [104, 97, 110, 100, 108, 101, 114, 32] ++ (bs d.name) ++ [32, 61, 32] ++ [111, 102, 32] ++ (bs d.of_.name) ++ (d.wraps.map wrapW).flatten ++ [32, 105, 110, 98, 111, 120, 32] ++ (digW d.inbox) ++ [32, 100, 114, 111, 112, 32] ++ (bs d.drop.name) ++ [32, 97, 102, 116, 101, 114, 32] ++ (usesB d.after) ++ [59, 10]) := by show _ = _; unfold handW roomW afterW; simp [HOF.out, HRM.out, HDR.out, HAE.out, coreW_R, spsB, spB]
          go_wp2_with fail
          go_roundw
          case rel => exact ⟨j + 1, s36, rfl, by go_num, by omega, by show St _ _; rw [H1.out, HL.out]; exact S36.out, HB7.out, HXT7.out⟩
          case measure => simp [intOf]; omega
       ·rw [hr] at cQ10
        have HRM := Lib.hid hr
        clear hr
        by_cases hc : d.after.length = 0
        ·rw [hc] at cQ14
         have HAE := Lib.hid hc
         clear hc
         have q37 : ¬ 9223372036854775807 < s2.size + 2 := by have h0 := HSw.out.size; (try simp only [spN_] at h0); have hpl := HPL.out; have hz := HZh.out; unfold handW roomW afterW at hz; (simp only [HOF.out, HRM.out, HAE.out, coreW_R, if_true, if_false, spN_, Bool.false_eq_true] at hz); omega
         obtain ⟨s37, k37⟩ : ∃ s37, s2 ++ (⟨#[59, 10]⟩ : ByteArray) = s37 := ⟨_, rfl⟩
         have S37 : Hid (St s37 (((t.hands.take j).map handW).flatten ++ [104, 97, 110, 100, 108, 101, 114, 32] ++ (bs d.name) ++ [32, 61, 32] ++ [111, 102, 32] ++ (bs d.of_.name) ++ (d.wraps.map wrapW).flatten ++ [59, 10])) := St.cat HSw.out (St.lit [59, 10]) k37
         have HL : Hid (((t.hands.take j).map handW).flatten ++ handW d = ((t.hands.take j).map handW).flatten ++ [104, 97, 110, 100, 108, 101, 114, 32] ++ (bs d.name) ++ [32, 61, 32] ++ [111, 102, 32] ++ (bs d.of_.name) ++ (d.wraps.map wrapW).flatten ++ [59, 10]) := by show _ = _; unfold handW roomW afterW; simp [HOF.out, HRM.out, HAE.out, coreW_R, spsB, spB]
         go_wp2_with fail
         go_roundw
         case rel => exact ⟨j + 1, s37, rfl, by go_num, by omega, by show St _ _; rw [H1.out, HL.out]; exact S37.out, HBv.out, HXTv.out⟩
         case measure => simp [intOf]; omega
        ·have jhc : (0 : Int) < ((d.after.length : Nat) : Int) := by omega
         have HAE := Lib.hid hc
         clear hc
         have q38 : ¬ 9223372036854775807 < s2.size + 7 := by have h0 := HSw.out.size; (try simp only [spN_] at h0); have hpl := HPL.out; have hz := HZh.out; unfold handW roomW afterW at hz; (simp only [HOF.out, HRM.out, HAE.out, coreW_R, if_true, if_false, spN_, Bool.false_eq_true] at hz); omega
         obtain ⟨s38, k38⟩ : ∃ s38, s2 ++ (⟨#[32, 97, 102, 116, 101, 114, 32]⟩ : ByteArray) = s38 := ⟨_, rfl⟩
         have S38 : Hid (St s38 (((t.hands.take j).map handW).flatten ++ [104, 97, 110, 100, 108, 101, 114, 32] ++ (bs d.name) ++ [32, 61, 32] ++ [111, 102, 32] ++ (bs d.of_.name) ++ (d.wraps.map wrapW).flatten ++ [32, 97, 102, 116, 101, 114, 32])) := St.cat HSw.out (St.lit [32, 97, 102, 116, 101, 114, 32]) k38
         have C7 := Lib.hid (rlisted_any (FlP.kept HAF.out (All.kept HBv.out)) (by have hpl := HPL.out; have hz := HZh.out; unfold handW roomW afterW at hz; (simp only [HOF.out, HRM.out, HAE.out, coreW_R, if_true, if_false, spN_, Bool.false_eq_true] at hz); omega))
         go_wp2_with (go_at_call 49; refine C7.out.mono ?_)
         clear cQ0 cQ1 cQ2 cQ3 cQ4 cQ5 cQ6 cQ7 cQ8 cQ9 cQ10 cQ11 cQ12 cQ13 cQ14 cQ15 ltQ
         clear q38 k38
         rintro e7 w7 ⟨x7, rfl, hx7, hb7⟩
         have HX_7 : Hid (St x7 (usesB d.after)) := hx7
         clear hx7
         have HB7 := Lib.hid (HBv.out.trans (hb7.mono HBv.out.size))
         have hQ7 := (hb7.block Q (Array.getElem?_eq_some_iff.1 HQv.out).1).trans HQv.out
         obtain ⟨cQ0, cQ1, cQ2, cQ3, cQ4, cQ5, cQ6, cQ7, cQ8, cQ9, cQ10, cQ11, cQ12, cQ13, cQ14, cQ15⟩ := row16_ hQ7
         have ltQ : Q < w7.heap.size := (Array.getElem?_eq_some_iff.1 hQ7).1
         have HQ7 := Lib.hid hQ7
         clear hQ7
         have HXT7 := Lib.hid ((hb7.block X (Array.getElem?_eq_some_iff.1 HXTv.out).1).trans HXTv.out)
         clear hb7 C7
         have q39 : ¬ 9223372036854775807 < s38.size + (x7).size := by have h0 := S38.out.size; (try simp only [spN_] at h0); have h1 := HX_7.out.size; (try simp only [spN_] at h1); have hpl := HPL.out; have hz := HZh.out; unfold handW roomW afterW at hz; (simp only [HOF.out, HRM.out, HAE.out, coreW_R, if_true, if_false, spN_, Bool.false_eq_true] at hz); omega
         obtain ⟨s39, k39⟩ : ∃ s39, s38 ++ x7 = s39 := ⟨_, rfl⟩
         have S39 := Lib.hid (St.cat S38.out (HX_7.out) k39)
         have q40 : ¬ 9223372036854775807 < s39.size + 2 := by have h0 := S39.out.size; (try simp only [spN_] at h0); have hpl := HPL.out; have hz := HZh.out; unfold handW roomW afterW at hz; (simp only [HOF.out, HRM.out, HAE.out, coreW_R, if_true, if_false, spN_, Bool.false_eq_true] at hz); omega
         obtain ⟨s40, k40⟩ : ∃ s40, s39 ++ (⟨#[59, 10]⟩ : ByteArray) = s40 := ⟨_, rfl⟩
         have S40 : Hid (St s40 (((t.hands.take j).map handW).flatten ++ [104, 97, 110, 100, 108, 101, 114, 32] ++ (bs d.name) ++ [32, 61, 32] ++ [111, 102, 32] ++ (bs d.of_.name) ++ (d.wraps.map wrapW).flatten ++ [32, 97, 102, 116, 101, 114, 32] ++ (usesB d.after) ++ [59, 10])) := St.cat S39.out (St.lit [59, 10]) k40
         have HL : Hid (((t.hands.take j).map handW).flatten ++ handW d = ((t.hands.take j).map handW).flatten ++ [104, 97, 110, 100, 108, 101, 114, 32] ++ (bs d.name) ++ [32, 61, 32] ++ [111, 102, 32] ++ (bs d.of_.name) ++ (d.wraps.map wrapW).flatten ++ [32, 97, 102, 116, 101, 114, 32] ++ (usesB d.after) ++ [59, 10]) := by show _ = _; unfold handW roomW afterW; simp [HOF.out, HRM.out, HAE.out, coreW_R, spsB, spB]
         go_wp2_with fail
         go_roundw
         case rel => exact ⟨j + 1, s40, rfl, by go_num, by omega, by show St _ _; rw [H1.out, HL.out]; exact S40.out, HB7.out, HXT7.out⟩
         case measure => simp [intOf]; omega
   ·obtain rfl : j = t.hands.length := by omega
    have hjj : ¬ ((t.hands.length : Nat) : Int) < ((t.hands.length : Nat) : Int) := by omega
    have HSh : Hid (St s ((t.hands.map handW).flatten)) := by have h := HSj.out; rw [List.take_length] at h; exact h
    have HXr := HXTr
    obtain ⟨cX0, cX1⟩ := row2_ HXr.out
    have ltX : X < wr.heap.size := (Array.getElem?_eq_some_iff.1 HXr.out).1
    have hr9 : t.routes.length ≤ 9223372036854775807 := hn2
    go_wp2_with fail
    go_loopw [3, 9, 87] (fun s3 s9 s87 wp => ∃ (j : Nat) (s2 : ByteArray), s3 = .string s2 ∧ s87 = .int .i64 (j : Nat) ∧ j ≤ t.routes.length ∧ Hid (St s2 ((t.hands.map handW).flatten ++ ((t.routes.take j).map routeW).flatten)) ∧ Hid (Below W.heap.size W wp)) (fun _ _ i _ => t.routes.length - (intOf i).toNat)
    case atStart => exact ⟨0, _, rfl, rfl, Nat.zero_le _, by show St _ _; rw [List.take_zero, List.map_nil, List.flatten_nil, List.append_nil]; exact HSh.out, HBr.out⟩
    case round =>
     rename World => wp
     clear hlt hj
     obtain ⟨j, s2, rfl, rfl, hj, HSp, HBp⟩ := hrel
     clear cX0 cX1 ltX
     by_cases hlt : j < t.routes.length
     ·obtain ⟨r, hxr⟩ : ∃ r, t.routes[j]? = some r := ⟨_, List.getElem?_eq_getElem hlt⟩
      obtain ⟨br, or, capr, cs, e, -, hblr, -, hR, hc⟩ := HRo.out.at hxr
      injection e with e _ e3
      subst e; subst e3
      have hR0 := hR
      obtain ⟨w0, w1, w2, rfl, hwant⟩ := hR0
      obtain ⟨k1, q1, m1, -, ew⟩ := hwant.form
      injection ew with ew0 ew
      injection ew with ew1 ew
      injection ew with ew2
      subst ew0; subst ew1; subst ew2
      have HRr := Lib.hid hR
      have y0 : wp.cell? ⟨br, or + j * 10, none⟩ = some (.string r.filter.name) := (HBp.out.cell (p := ⟨br, _, none⟩) hblr).trans (hc 0 _ rfl)
      have y1 : wp.cell? ⟨br, or + j * 10 + 1, none⟩ = some (.int .i64 r.filter.pos) := (HBp.out.cell (p := ⟨br, _, none⟩) hblr).trans (hc 1 _ rfl)
      have y2 : wp.cell? ⟨br, or + j * 10 + 2, none⟩ = some (.bool r.when_) := (HBp.out.cell (p := ⟨br, _, none⟩) hblr).trans (hc 2 _ rfl)
      have y3 : wp.cell? ⟨br, or + j * 10 + 3, none⟩ = some (.int .i64 r.want.op) := (HBp.out.cell (p := ⟨br, _, none⟩) hblr).trans (hc 3 _ rfl)
      have y4 : wp.cell? ⟨br, or + j * 10 + 4, none⟩ = some (.int .i64 r.want.num) := (HBp.out.cell (p := ⟨br, _, none⟩) hblr).trans (hc 4 _ rfl)
      have y5 : wp.cell? ⟨br, or + j * 10 + 5, none⟩ = some (.slice q1 r.want.l.length m1) := (HBp.out.cell (p := ⟨br, _, none⟩) hblr).trans (hc 5 _ rfl)
      have y6 : wp.cell? ⟨br, or + j * 10 + 6, none⟩ = some (.bool r.els) := (HBp.out.cell (p := ⟨br, _, none⟩) hblr).trans (hc 6 _ rfl)
      have y7 : wp.cell? ⟨br, or + j * 10 + 7, none⟩ = some (.string r.to.name) := (HBp.out.cell (p := ⟨br, _, none⟩) hblr).trans (hc 7 _ rfl)
      have y8 : wp.cell? ⟨br, or + j * 10 + 8, none⟩ = some (.int .i64 r.to.pos) := (HBp.out.cell (p := ⟨br, _, none⟩) hblr).trans (hc 8 _ rfl)
      have y9 : wp.cell? ⟨br, or + j * 10 + 9, none⟩ = some (.int .i64 r.pos) := (HBp.out.cell (p := ⟨br, _, none⟩) hblr).trans (hc 9 _ rfl)
      obtain ⟨Q, hQ⟩ : ∃ Q, wp.heap.size = Q := ⟨_, rfl⟩
      obtain ⟨wd, hwd⟩ : ∃ wd, wp.alloc (.cells #[.string r.filter.name, .int .i64 r.filter.pos, .bool r.when_, .int .i64 r.want.op, .int .i64 r.want.num, .slice q1 r.want.l.length m1, .bool r.els, .string r.to.name, .int .i64 r.to.pos, .int .i64 r.pos] 84) = wd := ⟨_, rfl⟩
      have HQd := Lib.hid (aRow_ hwd hQ)
      have hbd : Below wp.heap.size wp wd := by rw [← hwd]; exact (Below.refl _ wp).alloc (Nat.le_refl _) _
      have HBd := Lib.hid (HBp.out.trans (hbd.mono HBp.out.size))
      have HQe := Lib.hid hQ
      have Hwde := Lib.hid hwd
      have g0r : (j : Int) < ((t.routes.length : Nat) : Int) := by omega
      have g00r : (0 : Int) ≤ (j : Int) := by omega
      have HXJr := Lib.hid hxr
      clear hQ hwd hc hxr hblr hR
      have HWN := Lib.hid hwant
      have HDM : Hid (r ∈ t.routes) := List.mem_of_getElem? HXJr.out
      have HSM : Hid (SmR r) := HS.out.2 r HDM.out
      have HRB : Hid (routeB r = true) := by have h := HF.out; unfold fitT at h; rw [Bool.and_eq_true] at h; exact (List.all_eq_true.1 h.2) r HDM.out
      have H1 := Lib.hid (flat_step (f := routeW) HXJr.out)
      obtain ⟨pl, hpl⟩ : ∃ pl, ((t.hands.map handW).flatten ++ ((t.routes.take j).map routeW).flatten).length = pl := ⟨_, rfl⟩
      have HPL := Lib.hid hpl
      clear hpl
      have HZr : Hid (pl + (routeW r).length ≤ 140737488355328) := by show _ ≤ _; rw [← HPL.out]; have h2 := flat_take_le routeW t.routes (j + 1); have hz := HZ.out; unfold printW at hz; rw [H1.out] at h2; rw [length_append] at h2 hz ⊢; omega
      clear hwant hbd
      go_upto_region 27 with fail
      rw [HQe.out, Hwde.out]
      clear y0 y1 y2 y3 y4 y5 y6 y7 y8 y9
      obtain ⟨cQ0, cQ1, cQ2, cQ3, cQ4, cQ5, cQ6, cQ7, cQ8, cQ9⟩ := row10_ HQd.out
      have ltQ : Q < wd.heap.size := (Array.getElem?_eq_some_iff.1 HQd.out).1
      have q41 : ¬ 9223372036854775807 < s2.size + 6 := by have h0 := HSp.out.size; (try simp only [spN_] at h0); have hpl := HPL.out; (try simp only [length_append] at hpl); have hz := HZr.out; unfold routeW whenW at hz; (simp only [coreW_R, if_true, if_false, spN_, Bool.false_eq_true] at hz); omega
      obtain ⟨s41, k41⟩ : ∃ s41, s2 ++ (⟨#[114, 111, 117, 116, 101, 32]⟩ : ByteArray) = s41 := ⟨_, rfl⟩
      have S41 : Hid (St s41 ((t.hands.map handW).flatten ++ ((t.routes.take j).map routeW).flatten ++ [114, 111, 117, 116, 101, 32])) := St.cat HSp.out (St.lit [114, 111, 117, 116, 101, 32]) k41
      have C5 := Lib.hid (rquoted_any r.filter.name wd HSM.out.2)
      go_wp2_with (go_at_call 50; refine C5.out.mono ?_)
      clear cQ0 cQ1 cQ2 cQ3 cQ4 cQ5 cQ6 cQ7 cQ8 cQ9 ltQ
      clear q41 k41
      rintro e5 w5 ⟨x5, rfl, hx5, hb5⟩
      have HX_5 : Hid (St x5 (quoteS (bs r.filter.name))) := hx5
      clear hx5
      have HB5 := Lib.hid (HBd.out.trans (hb5.mono HBd.out.size))
      have hQ5 := (hb5.block Q (Array.getElem?_eq_some_iff.1 HQd.out).1).trans HQd.out
      obtain ⟨cQ0, cQ1, cQ2, cQ3, cQ4, cQ5, cQ6, cQ7, cQ8, cQ9⟩ := row10_ hQ5
      have ltQ : Q < w5.heap.size := (Array.getElem?_eq_some_iff.1 hQ5).1
      have HQ5 := Lib.hid hQ5
      clear hQ5
      clear hb5 C5
      have q42 : ¬ 9223372036854775807 < s41.size + (x5).size := by have h0 := S41.out.size; (try simp only [spN_] at h0); have h1 := HX_5.out.size; (try simp only [spN_] at h1); have hpl := HPL.out; (try simp only [length_append] at hpl); have hz := HZr.out; unfold routeW whenW at hz; (simp only [coreW_R, if_true, if_false, spN_, Bool.false_eq_true] at hz); omega
      obtain ⟨s42, k42⟩ : ∃ s42, s41 ++ x5 = s42 := ⟨_, rfl⟩
      have S42 := Lib.hid (St.cat S41.out (HX_5.out) k42)
      rcases Bool.eq_false_or_eq_true r.when_ with hw | hw
      ·rw [hw] at cQ2
       have HWH := Lib.hid hw
       clear hw
       have q43 : ¬ 9223372036854775807 < s42.size + 6 := by have h0 := S42.out.size; (try simp only [spN_] at h0); have hpl := HPL.out; (try simp only [length_append] at hpl); have hz := HZr.out; unfold routeW whenW at hz; (simp only [HWH.out, coreW_R, if_true, if_false, spN_, Bool.false_eq_true] at hz); omega
       obtain ⟨s43, k43⟩ : ∃ s43, s42 ++ (⟨#[32, 119, 104, 101, 110, 32]⟩ : ByteArray) = s43 := ⟨_, rfl⟩
       have S43 : Hid (St s43 ((t.hands.map handW).flatten ++ ((t.routes.take j).map routeW).flatten ++ [114, 111, 117, 116, 101, 32] ++ (quoteS (bs r.filter.name)) ++ [32, 119, 104, 101, 110, 32])) := St.cat S42.out (St.lit [32, 119, 104, 101, 110, 32]) k43
       have hrb := fit_route HRB.out HWH.out
       unfold rightB at hrb
       rw [Bool.and_eq_true, decide_eq_true_eq] at hrb
       have HRI := Lib.hid hrb
       clear hrb
       have C6 := Lib.hid (rwritten_any _ r.want w5 _ _ _ _ _ 0 (HWN.out.kept (All.kept HB5.out)) HRI.out.1 (by have := HRI.out.2; omega))
       go_wp2_with (go_at_call 51; refine C6.out.mono ?_)
       clear cQ0 cQ1 cQ2 cQ3 cQ4 cQ5 cQ6 cQ7 cQ8 cQ9 ltQ
       clear q42 k42 q43 k43
       rintro e6 w6 ⟨x6, rfl, hx6, hb6⟩
       have HX_6 : Hid (St x6 (wrW r.want)) := hx6
       clear hx6
       have HB6 := Lib.hid (HB5.out.trans (hb6.mono HB5.out.size))
       have hQ6 := (hb6.block Q (Array.getElem?_eq_some_iff.1 HQ5.out).1).trans HQ5.out
       obtain ⟨cQ0, cQ1, cQ2, cQ3, cQ4, cQ5, cQ6, cQ7, cQ8, cQ9⟩ := row10_ hQ6
       have ltQ : Q < w6.heap.size := (Array.getElem?_eq_some_iff.1 hQ6).1
       have HQ6 := Lib.hid hQ6
       clear hQ6
       clear hb6 C6
       have q44 : ¬ 9223372036854775807 < s43.size + (x6).size := by have h0 := S43.out.size; (try simp only [spN_] at h0); have h1 := HX_6.out.size; (try simp only [spN_] at h1); have hpl := HPL.out; (try simp only [length_append] at hpl); have hz := HZr.out; unfold routeW whenW at hz; (simp only [HWH.out, coreW_R, if_true, if_false, spN_, Bool.false_eq_true] at hz); omega
       obtain ⟨s44, k44⟩ : ∃ s44, s43 ++ x6 = s44 := ⟨_, rfl⟩
       have S44 := Lib.hid (St.cat S43.out (HX_6.out) k44)
       rcases Bool.eq_false_or_eq_true r.els with he | he
       ·rw [he] at cQ6
        have HEL := Lib.hid he
        clear he
        have q45 : ¬ 9223372036854775807 < s44.size + 5 := by have h0 := S44.out.size; (try simp only [spN_] at h0); have hpl := HPL.out; (try simp only [length_append] at hpl); have hz := HZr.out; unfold routeW whenW at hz; (simp only [HWH.out, HEL.out, coreW_R, if_true, if_false, spN_, Bool.false_eq_true] at hz); omega
        obtain ⟨s45, k45⟩ : ∃ s45, s44 ++ (⟨#[32, 101, 108, 115, 101]⟩ : ByteArray) = s45 := ⟨_, rfl⟩
        have S45 : Hid (St s45 ((t.hands.map handW).flatten ++ ((t.routes.take j).map routeW).flatten ++ [114, 111, 117, 116, 101, 32] ++ (quoteS (bs r.filter.name)) ++ [32, 119, 104, 101, 110, 32] ++ (wrW r.want) ++ [32, 101, 108, 115, 101])) := St.cat S44.out (St.lit [32, 101, 108, 115, 101]) k45
        have q46 : ¬ 9223372036854775807 < s45.size + 4 := by have h0 := S45.out.size; (try simp only [spN_] at h0); have hpl := HPL.out; (try simp only [length_append] at hpl); have hz := HZr.out; unfold routeW whenW at hz; (simp only [HWH.out, HEL.out, coreW_R, if_true, if_false, spN_, Bool.false_eq_true] at hz); omega
        obtain ⟨s46, k46⟩ : ∃ s46, s45 ++ (⟨#[32, 45, 62, 32]⟩ : ByteArray) = s46 := ⟨_, rfl⟩
        have S46 : Hid (St s46 ((t.hands.map handW).flatten ++ ((t.routes.take j).map routeW).flatten ++ [114, 111, 117, 116, 101, 32] ++ (quoteS (bs r.filter.name)) ++ [32, 119, 104, 101, 110, 32] ++ (wrW r.want) ++ [32, 101, 108, 115, 101] ++ [32, 45, 62, 32])) := St.cat S45.out (St.lit [32, 45, 62, 32]) k46
        have V47 : Hid (St (r.to.name) (bs r.to.name)) := St.bs _
        have q47 : ¬ 9223372036854775807 < s46.size + (r.to.name).size := by have h0 := S46.out.size; (try simp only [spN_] at h0); have h1 := V47.out.size; (try simp only [spN_] at h1); have hpl := HPL.out; (try simp only [length_append] at hpl); have hz := HZr.out; unfold routeW whenW at hz; (simp only [HWH.out, HEL.out, coreW_R, if_true, if_false, spN_, Bool.false_eq_true] at hz); omega
        obtain ⟨s47, k47⟩ : ∃ s47, s46 ++ r.to.name = s47 := ⟨_, rfl⟩
        have S47 := Lib.hid (St.cat S46.out (V47.out) k47)
        have q48 : ¬ 9223372036854775807 < s47.size + 2 := by have h0 := S47.out.size; (try simp only [spN_] at h0); have hpl := HPL.out; (try simp only [length_append] at hpl); have hz := HZr.out; unfold routeW whenW at hz; (simp only [HWH.out, HEL.out, coreW_R, if_true, if_false, spN_, Bool.false_eq_true] at hz); omega
        obtain ⟨s48, k48⟩ : ∃ s48, s47 ++ (⟨#[59, 10]⟩ : ByteArray) = s48 := ⟨_, rfl⟩
        have S48 : Hid (St s48 ((t.hands.map handW).flatten ++ ((t.routes.take j).map routeW).flatten ++ [114, 111, 117, 116, 101, 32] ++ (quoteS (bs r.filter.name)) ++ [32, 119, 104, 101, 110, 32] ++ (wrW r.want) ++ [32, 101, 108, 115, 101] ++ [32, 45, 62, 32] ++ (bs r.to.name) ++ [59, 10])) := St.cat S47.out (St.lit [59, 10]) k48
        have HL : Hid ((t.hands.map handW).flatten ++ ((t.routes.take j).map routeW).flatten ++ routeW r = (t.hands.map handW).flatten ++ ((t.routes.take j).map routeW).flatten ++ [114, 111, 117, 116, 101, 32] ++ (quoteS (bs r.filter.name)) ++ [32, 119, 104, 101, 110, 32] ++ (wrW r.want) ++ [32, 101, 108, 115, 101] ++ [32, 45, 62, 32] ++ (bs r.to.name) ++ [59, 10]) := by show _ = _; unfold routeW whenW; simp [HWH.out, HEL.out, spsB, spB]
        go_wp2_with fail
        go_roundw
        case rel => exact ⟨j + 1, s48, rfl, by go_num, by omega, by show St _ _; rw [H1.out, ← List.append_assoc, HL.out]; exact S48.out, HB6.out⟩
        case measure => simp [intOf]; omega
       ·rw [he] at cQ6
        have HEL := Lib.hid he
        clear he
        have q49 : ¬ 9223372036854775807 < s44.size + 4 := by have h0 := S44.out.size; (try simp only [spN_] at h0); have hpl := HPL.out; (try simp only [length_append] at hpl); have hz := HZr.out; unfold routeW whenW at hz; (simp only [HWH.out, HEL.out, coreW_R, if_true, if_false, spN_, Bool.false_eq_true] at hz); omega
        obtain ⟨s49, k49⟩ : ∃ s49, s44 ++ (⟨#[32, 45, 62, 32]⟩ : ByteArray) = s49 := ⟨_, rfl⟩
        have S49 : Hid (St s49 ((t.hands.map handW).flatten ++ ((t.routes.take j).map routeW).flatten ++ [114, 111, 117, 116, 101, 32] ++ (quoteS (bs r.filter.name)) ++ [32, 119, 104, 101, 110, 32] ++ (wrW r.want) ++ [32, 45, 62, 32])) := St.cat S44.out (St.lit [32, 45, 62, 32]) k49
        have V50 : Hid (St (r.to.name) (bs r.to.name)) := St.bs _
        have q50 : ¬ 9223372036854775807 < s49.size + (r.to.name).size := by have h0 := S49.out.size; (try simp only [spN_] at h0); have h1 := V50.out.size; (try simp only [spN_] at h1); have hpl := HPL.out; (try simp only [length_append] at hpl); have hz := HZr.out; unfold routeW whenW at hz; (simp only [HWH.out, HEL.out, coreW_R, if_true, if_false, spN_, Bool.false_eq_true] at hz); omega
        obtain ⟨s50, k50⟩ : ∃ s50, s49 ++ r.to.name = s50 := ⟨_, rfl⟩
        have S50 := Lib.hid (St.cat S49.out (V50.out) k50)
        have q51 : ¬ 9223372036854775807 < s50.size + 2 := by have h0 := S50.out.size; (try simp only [spN_] at h0); have hpl := HPL.out; (try simp only [length_append] at hpl); have hz := HZr.out; unfold routeW whenW at hz; (simp only [HWH.out, HEL.out, coreW_R, if_true, if_false, spN_, Bool.false_eq_true] at hz); omega
        obtain ⟨s51, k51⟩ : ∃ s51, s50 ++ (⟨#[59, 10]⟩ : ByteArray) = s51 := ⟨_, rfl⟩
        have S51 : Hid (St s51 ((t.hands.map handW).flatten ++ ((t.routes.take j).map routeW).flatten ++ [114, 111, 117, 116, 101, 32] ++ (quoteS (bs r.filter.name)) ++ [32, 119, 104, 101, 110, 32] ++ (wrW r.want) ++ [32, 45, 62, 32] ++ (bs r.to.name) ++ [59, 10])) := St.cat S50.out (St.lit [59, 10]) k51
        have HL : Hid ((t.hands.map handW).flatten ++ ((t.routes.take j).map routeW).flatten ++ routeW r = (t.hands.map handW).flatten ++ ((t.routes.take j).map routeW).flatten ++ [114, 111, 117, 116, 101, 32] ++ (quoteS (bs r.filter.name)) ++ [32, 119, 104, 101, 110, 32] ++ (wrW r.want) ++ [32, 45, 62, 32] ++ (bs r.to.name) ++ [59, 10]) := by show _ = _; unfold routeW whenW; simp [HWH.out, HEL.out, spsB, spB]
        go_wp2_with fail
        go_roundw
        case rel => exact ⟨j + 1, s51, rfl, by go_num, by omega, by show St _ _; rw [H1.out, ← List.append_assoc, HL.out]; exact S51.out, HB6.out⟩
        case measure => simp [intOf]; omega
      ·rw [hw] at cQ2
       have HWH := Lib.hid hw
       clear hw
       rcases Bool.eq_false_or_eq_true r.els with he | he
       ·rw [he] at cQ6
        have HEL := Lib.hid he
        clear he
        have q52 : ¬ 9223372036854775807 < s42.size + 5 := by have h0 := S42.out.size; (try simp only [spN_] at h0); have hpl := HPL.out; (try simp only [length_append] at hpl); have hz := HZr.out; unfold routeW whenW at hz; (simp only [HWH.out, HEL.out, coreW_R, if_true, if_false, spN_, Bool.false_eq_true] at hz); omega
        obtain ⟨s52, k52⟩ : ∃ s52, s42 ++ (⟨#[32, 101, 108, 115, 101]⟩ : ByteArray) = s52 := ⟨_, rfl⟩
        have S52 : Hid (St s52 ((t.hands.map handW).flatten ++ ((t.routes.take j).map routeW).flatten ++ [114, 111, 117, 116, 101, 32] ++ (quoteS (bs r.filter.name)) ++ [32, 101, 108, 115, 101])) := St.cat S42.out (St.lit [32, 101, 108, 115, 101]) k52
        have q53 : ¬ 9223372036854775807 < s52.size + 4 := by have h0 := S52.out.size; (try simp only [spN_] at h0); have hpl := HPL.out; (try simp only [length_append] at hpl); have hz := HZr.out; unfold routeW whenW at hz; (simp only [HWH.out, HEL.out, coreW_R, if_true, if_false, spN_, Bool.false_eq_true] at hz); omega
        obtain ⟨s53, k53⟩ : ∃ s53, s52 ++ (⟨#[32, 45, 62, 32]⟩ : ByteArray) = s53 := ⟨_, rfl⟩
        have S53 : Hid (St s53 ((t.hands.map handW).flatten ++ ((t.routes.take j).map routeW).flatten ++ [114, 111, 117, 116, 101, 32] ++ (quoteS (bs r.filter.name)) ++ [32, 101, 108, 115, 101] ++ [32, 45, 62, 32])) := St.cat S52.out (St.lit [32, 45, 62, 32]) k53
        have V54 : Hid (St (r.to.name) (bs r.to.name)) := St.bs _
        have q54 : ¬ 9223372036854775807 < s53.size + (r.to.name).size := by have h0 := S53.out.size; (try simp only [spN_] at h0); have h1 := V54.out.size; (try simp only [spN_] at h1); have hpl := HPL.out; (try simp only [length_append] at hpl); have hz := HZr.out; unfold routeW whenW at hz; (simp only [HWH.out, HEL.out, coreW_R, if_true, if_false, spN_, Bool.false_eq_true] at hz); omega
        obtain ⟨s54, k54⟩ : ∃ s54, s53 ++ r.to.name = s54 := ⟨_, rfl⟩
        have S54 := Lib.hid (St.cat S53.out (V54.out) k54)
        have q55 : ¬ 9223372036854775807 < s54.size + 2 := by have h0 := S54.out.size; (try simp only [spN_] at h0); have hpl := HPL.out; (try simp only [length_append] at hpl); have hz := HZr.out; unfold routeW whenW at hz; (simp only [HWH.out, HEL.out, coreW_R, if_true, if_false, spN_, Bool.false_eq_true] at hz); omega
        obtain ⟨s55, k55⟩ : ∃ s55, s54 ++ (⟨#[59, 10]⟩ : ByteArray) = s55 := ⟨_, rfl⟩
        have S55 : Hid (St s55 ((t.hands.map handW).flatten ++ ((t.routes.take j).map routeW).flatten ++ [114, 111, 117, 116, 101, 32] ++ (quoteS (bs r.filter.name)) ++ [32, 101, 108, 115, 101] ++ [32, 45, 62, 32] ++ (bs r.to.name) ++ [59, 10])) := St.cat S54.out (St.lit [59, 10]) k55
        have HL : Hid ((t.hands.map handW).flatten ++ ((t.routes.take j).map routeW).flatten ++ routeW r = (t.hands.map handW).flatten ++ ((t.routes.take j).map routeW).flatten ++ [114, 111, 117, 116, 101, 32] ++ (quoteS (bs r.filter.name)) ++ [32, 101, 108, 115, 101] ++ [32, 45, 62, 32] ++ (bs r.to.name) ++ [59, 10]) := by show _ = _; unfold routeW whenW; simp [HWH.out, HEL.out, spsB, spB]
        go_wp2_with fail
        go_roundw
        case rel => exact ⟨j + 1, s55, rfl, by go_num, by omega, by show St _ _; rw [H1.out, ← List.append_assoc, HL.out]; exact S55.out, HB5.out⟩
        case measure => simp [intOf]; omega
       ·rw [he] at cQ6
        have HEL := Lib.hid he
        clear he
        have q56 : ¬ 9223372036854775807 < s42.size + 4 := by have h0 := S42.out.size; (try simp only [spN_] at h0); have hpl := HPL.out; (try simp only [length_append] at hpl); have hz := HZr.out; unfold routeW whenW at hz; (simp only [HWH.out, HEL.out, coreW_R, if_true, if_false, spN_, Bool.false_eq_true] at hz); omega
        obtain ⟨s56, k56⟩ : ∃ s56, s42 ++ (⟨#[32, 45, 62, 32]⟩ : ByteArray) = s56 := ⟨_, rfl⟩
        have S56 : Hid (St s56 ((t.hands.map handW).flatten ++ ((t.routes.take j).map routeW).flatten ++ [114, 111, 117, 116, 101, 32] ++ (quoteS (bs r.filter.name)) ++ [32, 45, 62, 32])) := St.cat S42.out (St.lit [32, 45, 62, 32]) k56
        have V57 : Hid (St (r.to.name) (bs r.to.name)) := St.bs _
        have q57 : ¬ 9223372036854775807 < s56.size + (r.to.name).size := by have h0 := S56.out.size; (try simp only [spN_] at h0); have h1 := V57.out.size; (try simp only [spN_] at h1); have hpl := HPL.out; (try simp only [length_append] at hpl); have hz := HZr.out; unfold routeW whenW at hz; (simp only [HWH.out, HEL.out, coreW_R, if_true, if_false, spN_, Bool.false_eq_true] at hz); omega
        obtain ⟨s57, k57⟩ : ∃ s57, s56 ++ r.to.name = s57 := ⟨_, rfl⟩
        have S57 := Lib.hid (St.cat S56.out (V57.out) k57)
        have q58 : ¬ 9223372036854775807 < s57.size + 2 := by have h0 := S57.out.size; (try simp only [spN_] at h0); have hpl := HPL.out; (try simp only [length_append] at hpl); have hz := HZr.out; unfold routeW whenW at hz; (simp only [HWH.out, HEL.out, coreW_R, if_true, if_false, spN_, Bool.false_eq_true] at hz); omega
        obtain ⟨s58, k58⟩ : ∃ s58, s57 ++ (⟨#[59, 10]⟩ : ByteArray) = s58 := ⟨_, rfl⟩
        have S58 : Hid (St s58 ((t.hands.map handW).flatten ++ ((t.routes.take j).map routeW).flatten ++ [114, 111, 117, 116, 101, 32] ++ (quoteS (bs r.filter.name)) ++ [32, 45, 62, 32] ++ (bs r.to.name) ++ [59, 10])) := St.cat S57.out (St.lit [59, 10]) k58
        have HL : Hid ((t.hands.map handW).flatten ++ ((t.routes.take j).map routeW).flatten ++ routeW r = (t.hands.map handW).flatten ++ ((t.routes.take j).map routeW).flatten ++ [114, 111, 117, 116, 101, 32] ++ (quoteS (bs r.filter.name)) ++ [32, 45, 62, 32] ++ (bs r.to.name) ++ [59, 10]) := by show _ = _; unfold routeW whenW; simp [HWH.out, HEL.out, spsB, spB]
        go_wp2_with fail
        go_roundw
        case rel => exact ⟨j + 1, s58, rfl, by go_num, by omega, by show St _ _; rw [H1.out, ← List.append_assoc, HL.out]; exact S58.out, HB5.out⟩
        case measure => simp [intOf]; omega
     ·obtain rfl : j = t.routes.length := by omega
      have hjj2 : ¬ ((t.routes.length : Nat) : Int) < ((t.routes.length : Nat) : Int) := by omega
      have HSt : Hid (St s2 (printT t)) := by have h := HSp.out; rw [List.take_length] at h; show St _ _; unfold printT printW; rw [HF.out]; exact h
      go_wp2_with fail
      rw [← HPP.out]
      exact ⟨s2, rfl, HSt.out, HBp.out⟩
end Go.Proofs.YtbdllefnghddcaaGreatDoor
