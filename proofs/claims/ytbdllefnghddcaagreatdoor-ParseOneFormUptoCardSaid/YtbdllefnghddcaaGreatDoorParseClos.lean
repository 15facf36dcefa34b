/- PARSE: the closures that Parse and Want defer. -/
import Derived.Test.YtbdllefnghddcaaGreatDoorPNew
namespace Go.Proofs.YtbdllefnghddcaaGreatDoor
set_option maxHeartbeats 8000000
set_option maxRecDepth 100000
open Go Go.RowKit
attribute [local go_sem ↓] Go.wp_at_zero Go.wp_at_succ

theorem mixed_on : Tryz.prog.follows .mixedOrders = true := by kernel_rfl
theorem parse1_ret {W : World} {C F G B : Nat} {TF : TypeId} {o0 : Value} (hC : W.cell? ⟨C, 0, none⟩ = some (.pointer (some ⟨B, 0, none⟩))) (hF : W.heap[F]? = some (.cells #[o0, .int .i64 0] TF (0, 0))) :
  CallsD Tryz.prog 30 #[.pointer (some ⟨C, 0, none⟩), .pointer (some ⟨F, 0, none⟩), .pointer (some ⟨G, 0, none⟩)] .returning W fun e u' w' => e = .returned (.tuple #[]) ∧ u' = .returning ∧ w' = W.drew := by
 have hCd : W.drew.cell? ⟨C, 0, none⟩ = some (.pointer (some ⟨B, 0, none⟩)) := hC
 have hFd : W.drew.cell? ⟨F, 1, none⟩ = some (.int .i64 0) := by rw [cell_of_row W.drew F 1 _ _ _ hF]; rfl
 have CN := tcaught_nil W.drew B F
 refine callsD_of_wpS Tryz.func30 rfl fun c₀ cs hu => ?_
 apply wpS_seq
 refine wpS_region_all (L := [[0, 1, 2, 3, 4, 5], [0, 1, 2, 4, 3, 5], [0, 1, 4, 2, 3, 5], [0, 4, 1, 2, 3, 5], [4, 0, 1, 2, 3, 5]]) mixed_on (by kernel_rfl) fun l hl => ?_
 change wpOpsS _ _ _ _ _ _ W.drew
 simp only [List.mem_cons, List.not_mem_nil, or_false] at hl
 rcases hl with rfl | rfl | rfl | rfl | rfl
 all_goals
  simp [wpOpsS, go_sem, recoverD, hu, Tryz.ntmps30, hCd]
  refine CN.mono ?_
  rintro e w' ⟨rfl, rfl⟩
  simp only [Exit.thenS]
  apply wpS_seq
  apply wpS_region
  simp [wpOpsS, go_sem, hFd, Exit.thenS]
  refine wpS_cond (t := false) (by simp [Act.eval, Array.replicate]) ?_
  simp only [Bool.false_eq_true, if_false]
  refine wpS_of_wp (wp_skip ?_)
  cases c₀
  simp_all [bodyPostS, results, Tryz.results30]
set_option linter.unusedSimpArgs false in
theorem parse1_brk {W0 W : World} {C F G B : Nat} {T TF TG : TypeId} {S : Src} {tv nv : Value} {ad : Addr} {pos err : Nat} {o0 o1 g0 g1 : Value} (hg : W0.cell? ⟨0, 0, none⟩ = some (.iface 208 (.pointer (some ad)))) (h : Thrown W0 W B T S tv nv pos err) (he : err ≠ 0)
  (hC : W.cell? ⟨C, 0, none⟩ = some (.pointer (some ⟨B, 0, none⟩))) (hF : W.heap[F]? = some (.cells #[o0, o1] TF (0, 0))) (hG : W.heap[G]? = some (.cells #[g0, g1] TG (0, 0))) (hGF : G ≠ F) (older : List PanicEntry) :
  CallsD Tryz.prog 30 #[.pointer (some ⟨C, 0, none⟩), .pointer (some ⟨F, 0, none⟩), .pointer (some ⟨G, 0, none⟩)] (.panicking ({ v := .iface 208 (.pointer (some ad)), recovered := false } :: older)) W fun e u' w' => e = .returned (.tuple #[]) ∧ u' = .panicking ({ v := .iface 208 (.pointer (some ad)), recovered := true } :: older) ∧ w'.heap[F]? = some (.cells #[.int .i64 (pos : Nat), .int .i64 (err : Nat)] TF (0, 0)) ∧ w'.heap[G]? = some (.cells #[.slice none 0 0, .slice none 0 0] TG (0, 0)) ∧ ∀ base, base ≤ F → base ≤ G → Below base W w' := by
 have hCd : W.drew.cell? ⟨C, 0, none⟩ = some (.pointer (some ⟨B, 0, none⟩)) := hC
 have CN := tcaught_brk (W := W.drew) (G := F) (TG := TF) (o0 := o0) (o1 := o1) hg ⟨h.box, h.bel.trans (Below.refl _ _).drew⟩ hF
 have hfl := (Array.getElem?_eq_some_iff.1 hF).1
 have hgl := (Array.getElem?_eq_some_iff.1 hG).1
 refine callsD_of_wpS Tryz.func30 rfl fun c₀ cs hu => ?_
 apply wpS_seq
 refine wpS_region_all (L := [[0, 1, 2, 3, 4, 5], [0, 1, 2, 4, 3, 5], [0, 1, 4, 2, 3, 5], [0, 4, 1, 2, 3, 5], [4, 0, 1, 2, 3, 5]]) mixed_on (by kernel_rfl) fun l hl => ?_
 change wpOpsS _ _ _ _ _ _ W.drew
 simp only [List.mem_cons, List.not_mem_nil, or_false] at hl
 rcases hl with rfl | rfl | rfl | rfl | rfl
 all_goals
  simp [wpOpsS, go_sem, recoverD, hu, Tryz.ntmps30, hCd]
  refine CN.mono ?_
  rintro e w1 ⟨rfl, hF1, hg1⟩
  simp only [Exit.thenS]
  have hGd : w1.heap[G]? = W.heap[G]? := hg1.block G hgl (fun e => hGF (Option.some.inj e))
  rw [hG] at hGd
  have hFc : w1.cell? ⟨F, 1, none⟩ = some (.int .i64 (err : Nat)) := by rw [cell_of_row _ _ _ _ _ _ hF1]; rfl
  have hG0 : w1.cell? ⟨G, 0, none⟩ = some g0 := by rw [cell_of_row _ _ _ _ _ _ hGd]; rfl
  have fG0 := frozen_of_row w1 G 0 _ _ hGd
  have hG1 : w1.cell? ⟨G, 1, none⟩ = some g1 := by rw [cell_of_row _ _ _ _ _ _ hGd]; rfl
  have fG1 := frozen_of_row w1 G 1 _ _ hGd
  have lG := (Array.getElem?_eq_some_iff.1 hGd).1
  have hne : ((err : Nat) : Int) ≠ 0 := by omega
  have hne2 : (((err : Nat) : Int) != 0) = true := by simp [he]
  apply wpS_seq
  apply wpS_region
  simp [wpOpsS, go_sem, hFc, hne, hne2, Exit.thenS]
  refine wpS_cond (t := true) (by simp [Act.eval, Array.replicate]) ?_
  simp only [if_true]
  apply wpS_region
  simp [wpOpsS, go_sem, hG0, fG0, hG1, fG1, lG]
  have hGx := heap_setCell_same _ G 1 _ _ (.slice none 0 0) (heap_setCell_same w1 G 0 _ _ (.slice none 0 0) hGd)
  refine ⟨rfl, _, rfl, .tuple #[], by simp [results, Tryz.results30], rfl, rfl, ?_, hGx, ?_⟩
  ·rw [heap_setCell_other _ ⟨G, 1, none⟩ F _ (Ne.symm hGF), heap_setCell_other _ ⟨G, 0, none⟩ F _ (Ne.symm hGF)]
   exact hF1
  ·intro base h1 h2
   have hb : Below base W w1 := ⟨hg1.os, hg1.tape, hg1.output, hg1.size, fun c hc => hg1.block c (by show c < W.heap.size; omega) (fun e => by have := Option.some.inj e; omega)⟩
   exact (hb.setCell (p := ⟨G, 0, none⟩) h2 _).setCell (p := ⟨G, 1, none⟩) h2 _
end Go.Proofs.YtbdllefnghddcaaGreatDoor
