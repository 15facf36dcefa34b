/- PARSE: the law's own awake. PARSE: the law ParsePrints. -/
import Derived.Test.YtbdllefnghddcaaGreatDoorPPar
import Derived.Test.YtbdllefnghddcaaGreatDoorParsePrT
import Derived.Test.YtbdllefnghddcaaGreatDoorPMem
import Derived.Lib.QuietBelow
import Derived.Test.YtbdllefnghddcaaGreatDoorParseRPrT
namespace Go.Proofs.YtbdllefnghddcaaGreatDoor
section
set_option maxRecDepth 100000
open Go Go.RowKit
attribute [local go_sem ↓] Go.wp_at_zero Go.wp_at_succ

def awT : List UInt8 := [104, 97, 110, 100, 108, 101, 114, 32, 97, 32, 61, 32, 101, 99, 104, 111, 59, 32, 114, 111, 117, 116, 101, 32, 34, 120, 47, 35, 34, 32, 119, 104, 101, 110, 32, 116, 101, 120, 116, 32, 45, 62, 32, 97, 59]
def awS : List UInt8 := [104, 97, 110, 100, 108, 101, 114, 32, 97, 32, 61, 32, 101, 99, 104, 111, 59, 10, 114, 111, 117, 116, 101, 32, 34, 120, 47, 35, 34, 32, 119, 104, 101, 110, 32, 116, 101, 120, 116, 32, 45, 62, 32, 97, 59, 10]
def awTree : TreeT := ⟨[⟨ba [97], usZ, ⟨ba [101, 99, 104, 111], false, false, 0, [], 12⟩, [], false, 0, usZ, [], 0⟩], [⟨⟨ba [120, 47, 35], 24⟩, true, .mk 2 4 [], false, ⟨ba [97], 43⟩, 18⟩]⟩
theorem aw_parse : parseS awT = .tree awTree := by kernel_rfl
theorem aw_print : printT awTree = awS := by kernel_rfl
theorem aw_len : (printW awTree).length ≤ 140737488355328 := by
 have : (printW awTree).length = 46 := by kernel_rfl
 omega
theorem aw_sm : SmT awTree := by
 refine ⟨fun d hd => ?_, fun r hr => ?_⟩
 ·have hd : d ∈ [_] := hd
  rw [List.mem_singleton] at hd
  subst hd
  exact ⟨Nat.le_of_ble_eq_true rfl, Nat.le_of_ble_eq_true rfl, Nat.le_of_ble_eq_true rfl, fun u hu => absurd hu List.not_mem_nil, fun u hu => absurd hu List.not_mem_nil, Nat.le_of_ble_eq_true rfl, fun u hu => absurd hu List.not_mem_nil⟩
 ·have hr : r ∈ [_] := hr
  rw [List.mem_singleton] at hr
  subst hr
  exact ⟨Nat.le_of_ble_eq_true rfl, Nat.le_of_ble_eq_true rfl⟩
theorem aw_nm : NmT awTree := fun d hd => by
 have hd : d ∈ [_] := hd
 rw [List.mem_singleton] at hd
 subst hd
 exact ⟨⟨by decide, by decide⟩, Nat.zero_le _, fun u hu => absurd hu List.not_mem_nil, ⟨by decide, by decide⟩, Nat.zero_le _⟩
theorem Pv.of {W : World} {ad : Addr} (h : Px W ad) (hp : Pow W) : Pv W.heap.size W := by
 have h1 := World.block_lt_of_cell? W _ (h.tk 0 _ rfl)
 have h2 := World.block_lt_of_cell? W _ (h.tf 0 _ rfl)
 refine ⟨⟨h1, h2, h.tk, h.tf⟩, ?_, hp⟩
 rcases Nat.lt_or_ge 5 W.heap.size with h3 | h3
 ·exact h3
 ·exfalso
  have hp2 := hp
  unfold Pow Lib.TabIs World.var? at hp2
  rw [pow_named] at hp2
  simp only [Option.bind_some] at hp2
  rw [Array.getElem?_eq_none h3] at hp2
  cases hp2
set_option maxHeartbeats 8000000 in
theorem awake_any {W : World} {ad : Addr} (hP : Px W ad) (hp : Pow W) : Calls Tryz.prog 13 #[] W (PatPost W (.bool true)) := by
 obtain ⟨PP, hPP⟩ : ∃ PP, PatPost W (.bool true) = PP := ⟨_, rfl⟩
 rw [hPP]
 have HPP := Lib.hid hPP
 obtain ⟨B, hB⟩ : ∃ B, W.heap.size = B := ⟨_, rfl⟩
 obtain ⟨w1, hw1⟩ : ∃ w1, W.alloc (.cells #[.int .u8 104, .int .u8 97, .int .u8 110, .int .u8 100, .int .u8 108, .int .u8 101, .int .u8 114, .int .u8 32, .int .u8 97, .int .u8 32, .int .u8 61, .int .u8 32, .int .u8 101, .int .u8 99, .int .u8 104, .int .u8 111, .int .u8 59, .int .u8 32, .int .u8 114, .int .u8 111, .int .u8 117, .int .u8 116, .int .u8 101, .int .u8 32, .int .u8 34, .int .u8 120, .int .u8 47, .int .u8 35, .int .u8 34, .int .u8 32, .int .u8 119, .int .u8 104, .int .u8 101, .int .u8 110, .int .u8 32, .int .u8 116, .int .u8 101, .int .u8 120, .int .u8 116, .int .u8 32, .int .u8 45, .int .u8 62, .int .u8 32, .int .u8 97, .int .u8 59] 5 (45, 46)) = w1 := ⟨_, rfl⟩
 have hb1 : Below W.heap.size W w1 := by rw [← hw1]; exact (Below.refl _ W).alloc (Nat.le_refl _) _
 have hcl : ∀ j x, awT[j]? = some x → w1.cell? ⟨B, 0 + j, none⟩ = some (.int .u8 (x.toNat : Nat)) := fun j x hj => by
  rw [Nat.zero_add]
  have h : w1.heap[B]? = some (.cells (bc awT).toArray 5 (45, 46)) := by rw [← hw1, ← hB]; exact heap_alloc_new W _
  simp only [World.cell?, h]
  show (bc awT).toArray[j]? = _
  simp [bc, hj]
 have hV : Bs w1 (.slice (some ⟨B, 0, none⟩) 45 45) awT := ⟨_, _, rfl, Nat.le_refl _, by decide, fun _ => ⟨B, 0, rfl, hcl⟩⟩
 have CP := parse_any (hP.below hb1) hV (by decide) (fun ts hs p e hc => absurd aw_parse (by unfold parseS; rw [hs]; simp only []; rw [hc]; intro h; cases h))
 rw [aw_parse] at CP
 have HCP := Lib.hid CP
 have HP := Lib.hid hP
 have Hp : Hid (Pow W) := hp
 have HB := Lib.hid hB
 have Hw1 := Lib.hid hw1
 have HB1 := Lib.hid hb1
 clear hPP CP hP hp hB hw1 hb1 hcl hV
 have cv := fun (C : Array Value) (m c : Nat) => conv_lit0 W C m c
 go_enter Tryz.func13, Tryz.ntmps13
 go_wp2_with fail
 rw [HB.out, Hw1.out]
 refine HCP.out.mono ?_
 rintro e2 w2 ⟨hb2, vh, vr, k, rfl, hTr⟩
 obtain ⟨hq, hk, rfl, -⟩ := hTr.1.shape
 obtain ⟨rq, rk, rfl, -⟩ := hTr.2.shape
 have e1 : awTree.hands.length = 1 := rfl
 have e2 : awTree.routes.length = 1 := rfl
 rw [e1, e2]
 rw [e1, e2] at hTr
 clear e1 e2
 obtain ⟨X, hX⟩ : ∃ X, w2.heap.size = X := ⟨_, rfl⟩
 obtain ⟨w3, hw3⟩ : ∃ w3, (w2.alloc (.cells #[.slice hq 1 hk, .slice rq 1 rk] 26)).alloc (.cells #[.int .i64 0, .int .i64 0] 29) = w3 := ⟨_, rfl⟩
 have hb3 : Below w2.heap.size w2 w3 := by rw [← hw3]; exact ((Below.refl _ w2).alloc (Nat.le_refl _) _).alloc (by simp) _
 have hs1 : (w2.alloc (.cells #[.slice hq 1 hk, .slice rq 1 rk] 26)).heap.size = X + 1 := by rw [World.size_alloc]; omega
 have hG3 : w3.heap[X]? = some (.cells #[.slice hq 1 hk, .slice rq 1 rk] 26 (0, 0)) := by rw [← hw3, Below.heap_alloc _ _ _ (by rw [hs1]; omega), ← hX]; exact heap_alloc_new w2 _
 obtain ⟨F, hF⟩ : ∃ F, X + 1 = F := ⟨_, rfl⟩
 have hF3 : w3.heap[F]? = some (.cells #[.int .i64 0, .int .i64 0] 29 (0, 0)) := by rw [← hw3, ← hF, ← hs1]; exact heap_alloc_new _ _
 obtain ⟨g0, g1⟩ := row2_ hG3
 have f1 : w3.cell? ⟨F, 1, none⟩ = some (.int .i64 0) := by rw [cell_of_row _ _ _ _ _ _ hF3]; rfl
 have lX := (Array.getElem?_eq_some_iff.1 hG3).1
 have lF := (Array.getElem?_eq_some_iff.1 hF3).1
 have hBW : Below W.heap.size W w3 := HB1.out.trans ((hb2.trans (hb3.mono hb2.size)).mono HB1.out.size)
 have hP3 := HP.out.below hBW
 have hV3 : Pv w3.heap.size w3 := ((Pv.of HP.out Hp.out).below hBW).up hBW.size
 have CPR : Hid (Calls Tryz.prog 16 #[.agg #[.slice hq 1 hk, .slice rq 1 rk]] w3 (PatPost w3 (.string ⟨#[104, 97, 110, 100, 108, 101, 114, 32, 97, 32, 61, 32, 101, 99, 104, 111, 59, 10, 114, 111, 117, 116, 101, 32, 34, 120, 47, 35, 34, 32, 119, 104, 101, 110, 32, 116, 101, 120, 116, 32, 45, 62, 32, 97, 59, 10]⟩))) := by
  have h := print_any awTree w3 k _ _ hP3.env hV3 aw_sm aw_nm (hTr.kept (Q := All) (w' := w3) fun c _ hl => ⟨hb3.block c hl, trivial⟩) aw_len
  rw [aw_print] at h
  exact h
 have HX := Lib.hid hX
 have HF := Lib.hid hF
 have Hw3 := Lib.hid hw3
 have HBW := Lib.hid hBW
 clear hTr hX hw3 hb3 hs1 hG3 hF hF3 hBW hP3 hV3 hb2 cv
 go_upto_region 2 with fail
 rw [HX.out, HF.out, Hw3.out]
 go_wp2_with (go_at_call 16; refine CPR.out.mono ?_; rintro e4 w4 ⟨rfl, hb4⟩)
 rw [← HPP.out]
 exact ⟨rfl, HBW.out.trans (hb4.mono HBW.out.size)⟩
end
section
open Go Go.RowKit Go.Shelf Go.Sort
attribute [local go_sem ↓] Go.wp_at_zero Go.wp_at_succ

theorem row_regrown {W : World} {B : Nat} {mv : Array Value} {t : TypeId} (h : W.heap[B]? = some (.cells mv t (0, 0))) (d : Nat) (os : Array Obj) : (grow (redrawn W d) os).heap[B]? = some (.cells mv t (0, 0)) :=
 ((below_regrown W d os).block B (Array.getElem?_eq_some_iff.1 h).1).trans h
theorem pat_regrown {P : Program} {f : FuncId} {args : Array Value} {w : World} {d : Nat} {os : Array Obj} {v : Value} (h : Calls P f args (grow (redrawn w d) os) (PatPost (grow (redrawn w d) os) v)) :
  Calls P f args (grow (redrawn w d) os) fun e w'' => e = .returned v ∧ ∃ p : Regrown, w'' = grow (redrawn w p.d) p.os := Calls.regrown_of h
theorem tx_regrown {P : Program} {f : FuncId} {args : Array Value} {w : World} {d : Nat} {os : Array Obj} {l : List UInt8} (h : Calls P f args (grow (redrawn w d) os) (TxPost (grow (redrawn w d) os) l)) :
  Calls P f args (grow (redrawn w d) os) fun e w'' => e = .returned (.string (ba l)) ∧ ∃ p : Regrown, w'' = grow (redrawn w p.d) p.os :=
 Calls.regrown_of (h.mono fun _ _ ⟨s, he, hs, hb⟩ => ⟨by rw [he]; have hs : s = ba l := hs; rw [hs], hb⟩)
set_option maxRecDepth 100000 in
set_option maxHeartbeats 8000000 in
theorem parsePrints_any (t : TreeT) (W : World) {ad : Addr} (k : Nat) (vh vr : Value) (hP : Px W ad) (hp : Pow W) (hS : SmT t) (hN : NmT t) (hR : TreeP All W k vh vr t) (hsz : (printW t).length ≤ 140737488355328) :
  Calls Tryz.prog 4 #[.agg #[vh, vr]] W (PatPost W (.bool true)) := by
 obtain ⟨PP, hPP⟩ : ∃ PP, PatPost W (.bool true) = PP := ⟨_, rfl⟩
 rw [hPP]
 have HPP := Lib.hid hPP
 have hpl := (Pv.of hP hp).lp
 have CF : Hid (∀ W', Below W.heap.size W W' → Calls Tryz.prog 14 #[.agg #[vh, vr]] W' (PatPost W' (.bool (fitT t)))) := fun W' hb => fit_any t W' k vh vr (hP.env.below hb) hS (hR.kept (All.kept hb))
 have CR : Hid (∀ W', Below W.heap.size W W' → Calls Tryz.prog 15 #[.agg #[vh, vr]] W' (PatPost W' (.bool (fitT t)))) := fun W' hb => rfit_any t W' k vh vr hS (hR.kept (All.kept hb))
 have CP : Hid (∀ W', Below W.heap.size W W' → Calls Tryz.prog 16 #[.agg #[vh, vr]] W' (PatPost W' (.string (ba (printT t))))) := fun W' hb => print_any t W' k vh vr (hP.env.below hb) (Pv.of (hP.below hb) (hp.block (hb.block _ hpl))) hS hN (hR.kept (All.kept hb)) hsz
 have CQ : Hid (∀ W', Below W.heap.size W W' → Calls Tryz.prog 17 #[.agg #[vh, vr]] W' (TxPost W' (printT t))) := fun W' hb => rprint_any t W' k vh vr (Pw.up ⟨hpl, hp⟩ hb) hS hN (hR.kept (All.kept hb)) hsz
 have CA : Hid (∀ W', Below W.heap.size W W' → Calls Tryz.prog 13 #[] W' (PatPost W' (.bool true))) := fun W' hb => awake_any (hP.below hb) (hp.block (hb.block _ hpl))
 have hl : ∃ l, printT t = l := ⟨_, rfl⟩
 obtain ⟨l, hl⟩ := hl
 rw [hl] at CP CQ
 obtain ⟨s, hs⟩ : ∃ s, ba l = s := ⟨_, rfl⟩
 have CQ2 : Hid (∀ (w : World) (d : Nat) (os : Array Obj), Below W.heap.size W (grow (redrawn w d) os) → Calls Tryz.prog 17 #[.agg #[vh, vr]] (grow (redrawn w d) os) fun e w'' => e = .returned (.string s) ∧ ∃ p : Regrown, w'' = grow (redrawn w p.d) p.os) := fun w d os hb => by
  rw [← hs]; exact tx_regrown (CQ.out _ hb)
 rw [hs] at CP
 obtain ⟨fb, hfb⟩ : ∃ fb, fitT t = fb := ⟨_, rfl⟩
 rw [hfb] at CF CR
 obtain ⟨X, hX⟩ : ∃ X, W.heap.size = X := ⟨_, rfl⟩
 obtain ⟨W1, hW1⟩ : ∃ W1, W.alloc (.cells #[vh, vr] 26) = W1 := ⟨_, rfl⟩
 have hr1 := aRow_ hW1 hX
 have hb1 : Below W.heap.size W W1 := by rw [← hW1]; exact (Below.refl _ W).alloc (Nat.le_refl _) _
 have HDN : Hid (∀ d os, Below W.heap.size W (grow (redrawn W1 d) os)) := fun d os => hb1.trans ((below_regrown W1 d os).mono hb1.size)
 have m0 : ∀ d os, (grow (redrawn W1 d) os).cell? ⟨X, 0, none⟩ = some vh := fun d os => cell_of_row _ _ 0 _ _ _ (row_regrown hr1 d os)
 have m1 : ∀ d os, (grow (redrawn W1 d) os).cell? ⟨X, 1, none⟩ = some vr := fun d os => cell_of_row _ _ 1 _ _ _ (row_regrown hr1 d os)
 have HXe := Lib.hid hX
 have HW1e := Lib.hid hW1
 clear hPP hP hp hS hN hR hsz hpl hl hs hfb hr1 hb1 hX hW1 CQ
 go_enter Tryz.func4, Tryz.ntmps4
 go_upto_region 1 with fail
 rw [HXe.out, HW1e.out]
 refine wp_region_quiet_below (by kernel_rfl) (by kernel_rfl) ?_
 repeat (quiet_step (first | (with_reducible exact pat_regrown (CF.out _ (HDN.out _ _))) | (with_reducible exact pat_regrown (CR.out _ (HDN.out _ _))) | (with_reducible exact pat_regrown (CP.out _ (HDN.out _ _))) | (with_reducible exact CQ2.out _ _ _ (HDN.out _ _)) | exact pat_regrown (CA.out _ (HDN.out _ _))))
 refine wpQuiet_nil ?_
 intro _ hw'
 obtain ⟨⟨dq, osq⟩, hw''⟩ := hw'
 subst hw''
 go_wp2_with fail
 rw [← HPP.out]
 exact ⟨rfl, HDN.out _ _⟩
end
end Go.Proofs.YtbdllefnghddcaaGreatDoor
