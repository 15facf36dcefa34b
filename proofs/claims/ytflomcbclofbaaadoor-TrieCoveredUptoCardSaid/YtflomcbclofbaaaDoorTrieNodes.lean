/- TRIE: New, Len, Nodes. -/
import Derived.Test.YtflomcbclofbaaaDoorTrieWalk
namespace Go.Proofs.YtflomcbclofbaaaDoor
open Go Go.RowKit
attribute [local go_sem ↓] Go.wp_at_zero Go.wp_at_succ

theorem len_any (w : World) (base sz t : Nat) (T : List Nd) (n : Int) (H : Tri w base sz t T n) :
    Calls Tryd.prog 14 #[.pointer (some ⟨t, 0, none⟩)] w fun e w' => e = .returned (.int .i64 n) ∧ w' = w := by
  obtain ⟨PP, hPP⟩ : ∃ PP : Ending → World → Prop, (fun e w' => e = .returned (.int .i64 n) ∧ w' = w) = PP := ⟨_, rfl⟩
  rw [hPP]
  have HPP := Lib.hid hPP
  obtain ⟨r0, hr0, hr1, hrb⟩ := H.root
  have CN : Hid (Calls Tryd.prog 19 #[.pointer (some ⟨t, 0, none⟩)] w fun e w' => e = .returned (.bool false) ∧ w' = w) := no_any _ w false (.inr ⟨t, _, n, rfl, hrb, rfl⟩)
  have c1 : w.cell? ⟨t, 1, none⟩ = some (.int .i64 n) := by rw [cell_of_row w t 1 _ _ _ hrb]; rfl
  have hl := (Array.getElem?_eq_some_iff.1 hrb).1
  clear hPP H hr0 hr1 hrb
  go_enter Tryd.func14, Tryd.ntmps14
  go_wp2_with fail
  refine CN.out.mono ?_
  rintro e w1 ⟨rfl, hw⟩
  subst w1
  go_wp2_with fail
  rw [← HPP.out]
  exact ⟨rfl, rfl⟩

theorem frame_set {F : Nat → Prop} (W : World) (b o : Nat) (v : Value) (h : F b) : Frame F W (W.setCell ⟨b, o, none⟩ v) :=
  ⟨rfl, rfl, rfl, by simp, fun k _ hF => Below.heap_setCell _ _ _ _ (fun e => hF (e ▸ h))⟩
/-- the count in its box -/
def InvN (bb : Nat) (W : World) (o : Option Nat) (V : List Nd) : Prop := o = none ∧ W.heap[bb]? = some (.cells #[.int .i64 (V.length : Nat)] 3 (0, 0))
theorem keepsN (base sz : Nat) (T : List Nd) (B bb : Nat) : Keeps base sz T B bb (InvN bb) :=
  ⟨fun W W' o V h hb => ⟨h.1, (hb bb (.inl rfl)).trans h.2⟩, fun W o V h g hg => by rw [h.1] at hg; cases hg⟩
theorem seeN (base sz : Nat) (T : List Nd) (B bb : Nat) (hT : T.length ≤ 1000000000) : SeeSpecN base sz T B bb (InvN bb) := by
  intro W o V y p l hy hyp hcx hinv hnd hVT
  have hlen : V.length + 1 ≤ T.length := by
    have := nodup_le hnd (fun z hz => by
      rcases List.mem_append.1 hz with h | h
      · exact hVT z h
      · rw [List.mem_singleton] at h; rw [h]; exact hy : ∀ z ∈ V ++ [y], z ∈ T)
    simpa using this
  obtain ⟨PP, hPP⟩ : ∃ PP, Saw bb (InvN bb) o W (V ++ [y]) = PP := ⟨_, rfl⟩
  rw [hPP]
  have HPP := Lib.hid hPP
  have hbx := hinv.2
  have c0 : W.cell? ⟨bb, 0, none⟩ = some (.int .i64 (V.length : Nat)) := by rw [cell_of_row W bb 0 _ _ _ hbx]; rfl
  have hf := frozen_of_row W bb 0 _ _ hbx
  have hl := (Array.getElem?_eq_some_iff.1 hbx).1
  have HB := Lib.hid hbx
  have HO := Lib.hid hinv.1
  clear hPP hcx hinv hnd hVT hbx hyp
  go_enter Tryd.func35, Tryd.ntmps35
  go_wp2_with fail
  refine bodyPost_ret (v := .tuple #[]) (by simp [results, Tryd.results35]) rfl ?_
  rw [← HPP.out]
  refine ⟨rfl, none, ⟨rfl, ?_⟩, ?_, .inl HO.out.symm⟩
  · rw [heap_setCell_same W bb 0 _ _ _ HB.out, List.length_append]
    simp
  · exact frame_set _ _ _ _ (.inl rfl)

def NodesPost (w : World) (T : List Nd) (r : Ending) (w' : World) : Prop :=
  ∃ V : List Nd, r = .returned (.int .i64 (V.length : Nat)) ∧ V.Nodup ∧ (∀ y, y ∈ V ↔ y ∈ T ∧ y.path ≠ []) ∧ Below w.heap.size w w'
theorem und_nil {y : Nd} : Und [] y ↔ y.path ≠ [] := by
  unfold Und
  constructor
  · rintro ⟨r, h, e⟩; rw [e]; exact h
  · intro h; exact ⟨y.path, h, rfl⟩
theorem depth_of (T : List Nd) : ∃ n, ∀ y ∈ T, y.path.length ≤ n := by
  induction T with
  | nil => exact ⟨0, fun y h => by cases h⟩
  | cons x T ih =>
    obtain ⟨n, h⟩ := ih
    refine ⟨max n x.path.length, fun y hy => ?_⟩
    rcases List.mem_cons.1 hy with rfl | hy
    · omega
    · have := h y hy; omega
set_option maxRecDepth 100000 in
set_option maxHeartbeats 4000000 in
theorem nodes_any (w : World) (base sz t : Nat) (T : List Nd) (n : Int) (H : Tri w base sz t T n) (hT : T.length ≤ 1000000000) (hpre : ∀ y ∈ T, (pre y.path).size ≤ 1000000) :
    Calls Tryd.prog 15 #[.pointer (some ⟨t, 0, none⟩)] w (NodesPost w T) := by
  obtain ⟨PP, hPP⟩ : ∃ PP, NodesPost w T = PP := ⟨_, rfl⟩
  rw [hPP]
  have HPP := Lib.hid hPP
  obtain ⟨r0, hr0, hr1, hrb⟩ := H.root
  have CN : Hid (Calls Tryd.prog 19 #[.pointer (some ⟨t, 0, none⟩)] w fun e w' => e = .returned (.bool false) ∧ w' = w) := no_any _ w false (.inr ⟨t, _, n, rfl, hrb, rfl⟩)
  have htl := H.lt
  obtain ⟨A1, hA1⟩ : ∃ A1, w.alloc (.cells #[.int .i64 0] 3) = A1 := ⟨_, rfl⟩
  have hrb2 : A1.heap[t]? = some (.cells #[.pointer (some ⟨r0.a, 0, none⟩), .int .i64 n] 40 (0, 0)) := by rw [← hA1]; exact (Below.heap_alloc _ _ _ htl).trans hrb
  have c0 : A1.cell? ⟨t, 0, none⟩ = some (.pointer (some ⟨r0.a, 0, none⟩)) := by rw [cell_of_row A1 t 0 _ _ _ hrb2]; rfl
  have htl2 := (Array.getElem?_eq_some_iff.1 hrb2).1
  have hbelow : Below w.heap.size w A1 := by rw [← hA1]; exact (Below.refl _ _).alloc (Nat.le_refl _) _
  have hbox : A1.heap[w.heap.size]? = some (.cells #[.int .i64 0] 3 (0, 0)) := by rw [← hA1]; exact heap_alloc_new w _
  have hcx : WCx base sz T w.heap.size w.heap.size A1 none := ⟨H.is.below hbelow, fun b hb => (H.is.lt hb).2, ⟨Nat.le_refl _, (Array.getElem?_eq_some_iff.1 hbox).1⟩, fun g hg => by cases hg⟩
  obtain ⟨d, hd⟩ := depth_of T
  have CW := Lib.hid (walk_anyN base sz T w.heap.size w.heap.size (InvN w.heap.size) (keepsN base sz T _ _) (seeN base sz T _ _ hT) hpre d r0 hr0 (fun y hy => by have := hd y hy; omega) A1 none [] hcx ⟨rfl, hbox⟩ (fun y h => by cases h) List.nodup_nil (fun y h => by cases h))
  rw [hr1] at CW
  have HBL := Lib.hid hbelow
  have HA1 := Lib.hid hA1
  have HR1 := Lib.hid hr1
  clear hPP H hr0 hr1 hrb hrb2 hA1 hbelow hbox hcx hd hpre hT
  go_enter Tryd.func15, Tryd.ntmps15
  go_wp2_with fail
  refine CN.out.mono ?_
  rintro e w1 ⟨rfl, hw⟩
  subst w1
  go_upto_region 4 with fail
  rw [HA1.out]
  go_wp2_with fail
  refine CW.out.mono ?_
  rintro e W2 ⟨rfl, o', V', ⟨ho, hbx⟩, hnd, hmem, hfr, -⟩
  have c3 : W2.cell? ⟨w.heap.size, 0, none⟩ = some (.int .i64 (V'.length : Nat)) := by rw [cell_of_row W2 w.heap.size 0 _ _ _ hbx]; rfl
  have hl3 := (Array.getElem?_eq_some_iff.1 hbx).1
  have HF := Lib.hid hfr
  have HM := Lib.hid hmem
  have HND := Lib.hid hnd
  clear hbx hfr hmem hnd ho
  go_wp2_with fail
  rw [← HPP.out]
  refine ⟨V', rfl, HND.out, fun y => ?_, ?_⟩
  · rw [HM.out, HR1.out, und_nil]
  · have h1 := HBL.out
    have h2 := HF.out
    exact h1.trans ⟨h2.os, h2.tape, h2.output, h2.size, fun b hb => h2.block b (Nat.lt_of_lt_of_le hb h1.size) (by rintro (e | e); omega; cases e)⟩
end Go.Proofs.YtflomcbclofbaaaDoor
