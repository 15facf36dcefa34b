/- awake, of the laws of scan. -/
import Derived.Test.YtmbejmhnoeoohaaDoorScanScanB
namespace Go.Proofs.YtmbejmhnoeoohaaDoor
open Go Go.RowKit

theorem conv_litA (W : World) (o : Obj) (C : Array Value) (m c : Nat) :
    (convert 22 22 (.slice (some ⟨W.heap.size + 1, 0, none⟩) m c)).run Tryd.prog ((W.alloc o).alloc (.cells C 5)) = .ok (.slice (some ⟨W.heap.size + 1, 0, none⟩) m c) ((W.alloc o).alloc (.cells C 5 (C.size, C.size + 1))) :=
  Joins.run_convert_bytes_const_at (W.alloc o) _ _ C m c _ (by rw [World.size_alloc]) Tryd.underlying22 Tryd.underlying5

def aw1 : List UInt8 := [104, 97, 110, 100, 108, 101, 114, 32, 97, 49, 61, 34, 92, 120, 52, 49, 34, 35, 120]
def aw2 : List UInt8 := [120, 32, 47, 42, 32, 121]
theorem aw1_scan : scanS aw1 = .toks [⟨8, 0, 7, 0, []⟩, ⟨1, 8, 10, 0, []⟩, ⟨24, 10, 11, 0, []⟩, ⟨3, 11, 17, 0, [65]⟩] := by kernel_rfl
theorem aw2_scan : scanS aw2 = .bad 2 62 := by kernel_rfl

set_option maxRecDepth 100000 in
set_option maxHeartbeats 4000000 in
theorem awake_any (w : World) (hE : Env w) :
    Calls Tryd.prog 11 #[] w fun e w' => e = .returned (.bool true) ∧ Below w.heap.size w w' := by
  have kc0 := conv_lit0
  have kc1 := conv_litA
  have CS1 : Hid (∀ w v, Env w → Bs w v aw1 → Calls Tryd.prog 9 #[v] w (ScanPost w (.toks [⟨8, 0, 7, 0, []⟩, ⟨1, 8, 10, 0, []⟩, ⟨24, 10, 11, 0, []⟩, ⟨3, 11, 17, 0, [65]⟩]))) := fun w v h1 h2 => by
    have := scan_any v aw1 w h1 h2 (by decide); rwa [aw1_scan] at this
  have CS2 : Hid (∀ w v, Env w → Bs w v aw2 → Calls Tryd.prog 9 #[v] w (ScanPost w (.bad 2 62))) := fun w v h1 h2 => by
    have := scan_any v aw2 w h1 h2 (by decide); rwa [aw2_scan] at this
  have CK : Hid (∀ w, Env w → Calls Tryd.prog 12 #[.string ⟨#[45, 62]⟩] w fun e w' => e = .returned (.int .i64 21) ∧ w = w') := fun w h => kind_any ⟨#[45, 62]⟩ w h.1
  have CT : Hid (∀ w, Env w → Calls Tryd.prog 14 #[.int .i64 14] w fun e w' => e = .returned (.string ⟨#[119, 105, 116, 104]⟩) ∧ w = w') := fun w h => text_any 14 w h.1
  have CQ : Hid (∀ w, Calls Tryd.prog 16 #[.string ⟨#[10]⟩] w fun e w' => e = .returned (.string ⟨#[34, 92, 120, 48, 97, 34]⟩) ∧ Below w.heap.size w w') := fun w => quote_any ⟨#[10]⟩ w (by decide)
  have HE := Lib.hid hE
  clear hE
  have HB0 : Hid (∀ o : Obj, Below w.heap.size w (w.alloc o)) := fun o => (Below.refl _ _).alloc (Nat.le_refl _) _
  go_enter Tryd.func11, Tryd.ntmps11
  go_wp2_with fail
  refine (CS1.out _ _ (by exact HE.out.below (HB0.out _)) (by exact Bs.lit_at aw1 (by decide) (by simp))).mono ?_
  rintro e w1 ⟨hb1, v1, rfl, hT1⟩
  obtain ⟨pv, cap, rfl, hcap, hm, hcl⟩ := hT1
  have hex := hcl (Nat.succ_pos _)
  clear hcl
  obtain ⟨b, o, hpv, hcell⟩ := hex
  subst hpv
  have c1 := hcell 0 _ rfl 0 _ rfl
  have c2 := hcell 3 _ rfl 4 _ rfl
  have c3 := hcell 3 _ rfl 2 _ rfl
  have hbb := World.block_lt_of_cell? w1 _ c1
  have HB1 : Hid (Below w.heap.size w w1) := (HB0.out _).trans (hb1.mono (by simp))
  clear hcell hb1
  have HB2 : Hid (∀ o1 o2, Below w1.heap.size w1 ((w1.alloc o1).alloc o2)) := fun o1 o2 => ((Below.refl _ _).alloc (Nat.le_refl _) _).alloc (by simp) _
  have hz1 : w1.heap.size + 1 < ((w1.alloc (.cells #[.int .i64 0, .int .i64 0] 26)).alloc (.cells (bc aw2).toArray 5 (6, 7))).heap.size := by simp
  have cF0 : ((w1.alloc (.cells #[.int .i64 0, .int .i64 0] 26)).alloc (.cells (bc aw2).toArray 5 (6, 7))).cell? ⟨w1.heap.size, 1, none⟩ = some (.int .i64 0) := by
    rw [World.cell?_alloc_lt _ _ ⟨w1.heap.size, 1, none⟩ (by rw [World.size_alloc]; exact Nat.lt_succ_self _), cell_of_row _ _ _ _ _ _ (heap_alloc_new w1 _)]; rfl
  go_wp2_with fail
  refine (CS2.out _ _ (by exact (HE.out.below HB1.out).below (HB2.out _ _)) (by exact Bs.lit_at aw2 (by decide) (by simp))).mono ?_
  rintro e w3 ⟨hb3, he3⟩
  have he3' : e = .returned (.tuple #[.slice none 0 0, .agg #[.int .i64 2, .int .i64 62]]) := he3
  subst he3'
  have HB3 : Hid (Below w1.heap.size w1 w3) := (HB2.out _ _).trans (hb3.mono (by simp; omega))
  have hz3 := hb3.size
  have cF : w3.cell? ⟨w1.heap.size, 1, none⟩ = some (.int .i64 0) := (hb3.cell (p := ⟨w1.heap.size, 1, none⟩) (Nat.lt_trans (Nat.lt_succ_self _) hz1)).trans cF0
  have d1 : w3.cell? ⟨b, o + (0 * 5 + 0), none⟩ = some (.int .i64 8) := (HB3.out.cell (p := ⟨b, o + (0 * 5 + 0), none⟩) hbb).trans c1
  have d2 : w3.cell? ⟨b, o + (3 * 5 + 4), none⟩ = some (.string ⟨#[65]⟩) := (HB3.out.cell (p := ⟨b, o + (3 * 5 + 4), none⟩) hbb).trans c2
  have d3 : w3.cell? ⟨b, o + (3 * 5 + 2), none⟩ = some (.int .i64 17) := (HB3.out.cell (p := ⟨b, o + (3 * 5 + 2), none⟩) hbb).trans c3
  simp only [Nat.zero_mul, Nat.add_zero, Nat.reduceMul, Nat.reduceAdd] at d1 d2 d3
  have HE3 : Hid (∀ o1, Env (w3.alloc o1)) := fun o1 => ((HE.out.below HB1.out).below HB3.out).below ((Below.refl _ _).alloc (Nat.le_refl _) _)
  have HB4 : Hid (∀ o1, Below w.heap.size w (w3.alloc o1)) := fun o1 => (HB1.out.trans (HB3.out.mono HB1.out.size)).alloc (Nat.le_trans HB1.out.size HB3.out.size) _
  have hz5 : w1.heap.size < w3.heap.size := by simp at hz3; omega
  have hz6 : b < w3.heap.size := by omega
  clear c1 c2 c3 cF0 hz1 hb3 he3 hz3
  go_wp2_with fail
  refine (CK.out _ (HE3.out _)).mono ?_
  rintro e w' ⟨rfl, rfl⟩
  go_wp2_with fail
  refine (CT.out _ (HE3.out _)).mono ?_
  rintro e w' ⟨rfl, rfl⟩
  go_wp2_with fail
  refine (CQ.out _).mono ?_
  rintro e w4 ⟨rfl, hb4⟩
  have HB5 : Hid (Below w.heap.size w w4) := (HB4.out _).trans (hb4.mono (Nat.le_trans (Nat.le_trans HB1.out.size HB3.out.size) (by rw [World.size_alloc]; exact Nat.le_succ _)))
  clear hb4
  go_wp2
  go_ret
  exact ⟨rfl, HB5.out⟩
end Go.Proofs.YtmbejmhnoeoohaaDoor
