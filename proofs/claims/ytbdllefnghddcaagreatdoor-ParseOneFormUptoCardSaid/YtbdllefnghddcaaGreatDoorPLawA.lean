/- PARSE: the law's own awake. -/
import Derived.Test.YtbdllefnghddcaaGreatDoorPPar
import Derived.Test.YtbdllefnghddcaaGreatDoorParsePrT
import Derived.Test.YtbdllefnghddcaaGreatDoorPMem
namespace Go.Proofs.YtbdllefnghddcaaGreatDoor
section
set_option maxRecDepth 100000
open Go Go.RowKit
attribute [local go_sem ↓] Go.wp_at_zero Go.wp_at_succ

def awT : List UInt8 := [104, 97, 110, 100, 108, 101, 114, 32, 97, 32, 61, 32, 101, 99, 104, 111, 59, 32, 114, 111, 117, 116, 101, 32, 34, 120, 47, 35, 34, 32, 119, 104, 101, 110, 32, 116, 101, 120, 116, 32, 45, 62, 32, 97, 59]
def awS : List UInt8 := [104, 97, 110, 100, 108, 101, 114, 32, 97, 32, 61, 32, 101, 99, 104, 111, 59, 10, 114, 111, 117, 116, 101, 32, 34, 120, 47, 35, 34, 32, 119, 104, 101, 110, 32, 116, 101, 120, 116, 32, 45, 62, 32, 97, 59, 10]
def awTree : TreeT := ⟨[⟨ba [97], usZ, ⟨ba [101, 99, 104, 111], false, false, 0, [], 12⟩, [], false, 0, usZ, [], 0⟩], [⟨⟨ba [120, 47, 35], 24⟩, true, .mk 2 4 [], false, ⟨ba [97], 43⟩, 18⟩]⟩
theorem aw_parse : parseS awT = .tree awTree := by kernel_rfl
theorem aw_print : printT awTree = awS := by kernel_rfl
theorem aw_len : (printW awTree).length ≤ 140737488355328 := by
 have : (printW awTree).length = 46 := by kernel_rfl
 omega
theorem aw_sm : SmT awTree := by
 refine ⟨fun d hd => ?_, fun r hr => ?_⟩
 ·have hd : d ∈ [_] := hd
  rw [List.mem_singleton] at hd
  subst hd
  exact ⟨Nat.le_of_ble_eq_true rfl, Nat.le_of_ble_eq_true rfl, Nat.le_of_ble_eq_true rfl, fun u hu => absurd hu List.not_mem_nil, fun u hu => absurd hu List.not_mem_nil, Nat.le_of_ble_eq_true rfl, fun u hu => absurd hu List.not_mem_nil⟩
 ·have hr : r ∈ [_] := hr
  rw [List.mem_singleton] at hr
  subst hr
  exact ⟨Nat.le_of_ble_eq_true rfl, Nat.le_of_ble_eq_true rfl⟩
theorem aw_nm : NmT awTree := fun d hd => by
 have hd : d ∈ [_] := hd
 rw [List.mem_singleton] at hd
 subst hd
 exact ⟨⟨by decide, by decide⟩, Nat.zero_le _, fun u hu => absurd hu List.not_mem_nil, ⟨by decide, by decide⟩, Nat.zero_le _⟩
theorem Pv.of {W : World} {ad : Addr} (h : Px W ad) (hp : Pow W) : Pv W.heap.size W := by
 have h1 := World.block_lt_of_cell? W _ (h.tk 0 _ rfl)
 have h2 := World.block_lt_of_cell? W _ (h.tf 0 _ rfl)
 refine ⟨⟨h1, h2, h.tk, h.tf⟩, ?_, hp⟩
 rcases Nat.lt_or_ge 5 W.heap.size with h3 | h3
 ·exact h3
 ·exfalso
  have hp2 := hp
  unfold Pow Lib.TabIs World.var? at hp2
  rw [pow_named] at hp2
  simp only [Option.bind_some] at hp2
  rw [Array.getElem?_eq_none h3] at hp2
  cases hp2
set_option maxHeartbeats 8000000 in
theorem awake_any {W : World} {ad : Addr} (hP : Px W ad) (hp : Pow W) : Calls Tryz.prog 13 #[] W (PatPost W (.bool true)) := by
 obtain ⟨PP, hPP⟩ : ∃ PP, PatPost W (.bool true) = PP := ⟨_, rfl⟩
 rw [hPP]
 have HPP := Lib.hid hPP
 obtain ⟨B, hB⟩ : ∃ B, W.heap.size = B := ⟨_, rfl⟩
 obtain ⟨w1, hw1⟩ : ∃ w1, W.alloc (.cells #[.int .u8 104, .int .u8 97, .int .u8 110, .int .u8 100, .int .u8 108, .int .u8 101, .int .u8 114, .int .u8 32, .int .u8 97, .int .u8 32, .int .u8 61, .int .u8 32, .int .u8 101, .int .u8 99, .int .u8 104, .int .u8 111, .int .u8 59, .int .u8 32, .int .u8 114, .int .u8 111, .int .u8 117, .int .u8 116, .int .u8 101, .int .u8 32, .int .u8 34, .int .u8 120, .int .u8 47, .int .u8 35, .int .u8 34, .int .u8 32, .int .u8 119, .int .u8 104, .int .u8 101, .int .u8 110, .int .u8 32, .int .u8 116, .int .u8 101, .int .u8 120, .int .u8 116, .int .u8 32, .int .u8 45, .int .u8 62, .int .u8 32, .int .u8 97, .int .u8 59] 5 (45, 46)) = w1 := ⟨_, rfl⟩
 have hb1 : Below W.heap.size W w1 := by rw [← hw1]; exact (Below.refl _ W).alloc (Nat.le_refl _) _
 have hcl : ∀ j x, awT[j]? = some x → w1.cell? ⟨B, 0 + j, none⟩ = some (.int .u8 (x.toNat : Nat)) := fun j x hj => by
  rw [Nat.zero_add]
  have h : w1.heap[B]? = some (.cells (bc awT).toArray 5 (45, 46)) := by rw [← hw1, ← hB]; exact heap_alloc_new W _
  simp only [World.cell?, h]
  show (bc awT).toArray[j]? = _
  simp [bc, hj]
 have hV : Bs w1 (.slice (some ⟨B, 0, none⟩) 45 45) awT := ⟨_, _, rfl, Nat.le_refl _, by decide, fun _ => ⟨B, 0, rfl, hcl⟩⟩
 have CP := parse_any (hP.below hb1) hV (fun ts hs p e hc => absurd aw_parse (by unfold parseS; rw [hs]; simp only []; rw [hc]; intro h; cases h))
 rw [aw_parse] at CP
 have HCP := Lib.hid CP
 have HP := Lib.hid hP
 have Hp : Hid (Pow W) := hp
 have HB := Lib.hid hB
 have Hw1 := Lib.hid hw1
 have HB1 := Lib.hid hb1
 clear hPP CP hP hp hB hw1 hb1 hcl hV
 have cv := fun (C : Array Value) (m c : Nat) => conv_lit0 W C m c
 go_enter Tryz.func13, Tryz.ntmps13
 go_wp2_with fail
 rw [HB.out, Hw1.out]
 refine HCP.out.mono ?_
 rintro e2 w2 ⟨hb2, vh, vr, k, rfl, hTr⟩
 obtain ⟨hq, hk, rfl, -⟩ := hTr.1.shape
 obtain ⟨rq, rk, rfl, -⟩ := hTr.2.shape
 have e1 : awTree.hands.length = 1 := rfl
 have e2 : awTree.routes.length = 1 := rfl
 rw [e1, e2]
 rw [e1, e2] at hTr
 clear e1 e2
 obtain ⟨X, hX⟩ : ∃ X, w2.heap.size = X := ⟨_, rfl⟩
 obtain ⟨w3, hw3⟩ : ∃ w3, (w2.alloc (.cells #[.slice hq 1 hk, .slice rq 1 rk] 26)).alloc (.cells #[.int .i64 0, .int .i64 0] 29) = w3 := ⟨_, rfl⟩
 have hb3 : Below w2.heap.size w2 w3 := by rw [← hw3]; exact ((Below.refl _ w2).alloc (Nat.le_refl _) _).alloc (by simp) _
 have hs1 : (w2.alloc (.cells #[.slice hq 1 hk, .slice rq 1 rk] 26)).heap.size = X + 1 := by rw [World.size_alloc]; omega
 have hG3 : w3.heap[X]? = some (.cells #[.slice hq 1 hk, .slice rq 1 rk] 26 (0, 0)) := by rw [← hw3, Below.heap_alloc _ _ _ (by rw [hs1]; omega), ← hX]; exact heap_alloc_new w2 _
 obtain ⟨F, hF⟩ : ∃ F, X + 1 = F := ⟨_, rfl⟩
 have hF3 : w3.heap[F]? = some (.cells #[.int .i64 0, .int .i64 0] 29 (0, 0)) := by rw [← hw3, ← hF, ← hs1]; exact heap_alloc_new _ _
 obtain ⟨g0, g1⟩ := row2_ hG3
 have f1 : w3.cell? ⟨F, 1, none⟩ = some (.int .i64 0) := by rw [cell_of_row _ _ _ _ _ _ hF3]; rfl
 have lX := (Array.getElem?_eq_some_iff.1 hG3).1
 have lF := (Array.getElem?_eq_some_iff.1 hF3).1
 have hBW : Below W.heap.size W w3 := HB1.out.trans ((hb2.trans (hb3.mono hb2.size)).mono HB1.out.size)
 have hP3 := HP.out.below hBW
 have hV3 : Pv w3.heap.size w3 := ((Pv.of HP.out Hp.out).below hBW).up hBW.size
 have CPR : Hid (Calls Tryz.prog 16 #[.agg #[.slice hq 1 hk, .slice rq 1 rk]] w3 (PatPost w3 (.string ⟨#[104, 97, 110, 100, 108, 101, 114, 32, 97, 32, 61, 32, 101, 99, 104, 111, 59, 10, 114, 111, 117, 116, 101, 32, 34, 120, 47, 35, 34, 32, 119, 104, 101, 110, 32, 116, 101, 120, 116, 32, 45, 62, 32, 97, 59, 10]⟩))) := by
  have h := print_any awTree w3 k _ _ hP3.env hV3 aw_sm aw_nm (hTr.kept (Q := All) (w' := w3) fun c _ hl => ⟨hb3.block c hl, trivial⟩) aw_len
  rw [aw_print] at h
  exact h
 have HX := Lib.hid hX
 have HF := Lib.hid hF
 have Hw3 := Lib.hid hw3
 have HBW := Lib.hid hBW
 clear hTr hX hw3 hb3 hs1 hG3 hF hF3 hBW hP3 hV3 hb2 cv
 go_upto_region 2 with fail
 rw [HX.out, HF.out, Hw3.out]
 go_wp2_with (go_at_call 16; refine CPR.out.mono ?_; rintro e4 w4 ⟨rfl, hb4⟩)
 rw [← HPP.out]
 exact ⟨rfl, HBW.out.trans (hb4.mono HBW.out.size)⟩
end
end Go.Proofs.YtbdllefnghddcaaGreatDoor
