/- STATS: awake. -/
import Derived.Test.YtejehjlegfpgbaaStatsSame
namespace Go.Proofs.Ytejehjlegfpgbaa
open Go Go.RowKit Go.Maps

theorem flat_get : ∀ (l : List Ev) (j : Nat) (e : Ev) (i : Nat) (u : Value), l[j]? = some e → (ec e)[i]? = some u → (l.flatMap ec)[j * 15 + i]? = some u := by
  intro l
  induction l with
  | nil => intro j e i u h; cases h
  | cons a l ih =>
    intro j e i u h hi
    rw [List.flatMap_cons]
    cases j with
    | zero =>
      simp at h; subst h
      have := (List.getElem?_eq_some_iff.1 hi).1
      rw [List.getElem?_append_left (by omega), Nat.zero_mul, Nat.zero_add]; exact hi
    | succ j =>
      have h' : l[j]? = some e := by simpa using h
      have hlen : (ec a).length = 15 := rfl
      rw [List.getElem?_append_right (by omega), hlen, show (j + 1) * 15 + i - 15 = j * 15 + i by omega]
      exact ih j e i u h' hi
theorem evs_new (w : World) (l : List Ev) (hl : l.length ≤ 1000000) : Evs (w.alloc (.cells (l.flatMap ec).toArray 50)) (.slice (some ⟨w.heap.size, 0, none⟩) l.length l.length) l := by
  refine ⟨_, _, rfl, Nat.le_refl _, by omega, fun _ => ⟨_, _, rfl, fun j e hj i u hu => ?_⟩⟩
  rw [Nat.zero_add, cell_of_row _ _ _ _ _ _ (heap_alloc_new w _)]
  simpa using flat_get l j e i u hj hu
def ev0 (k a i h er : Int) : Ev := ⟨k, a, i, h, er, fun _ => 0, false, ⟨#[]⟩, none, 0, 0⟩
def evs4 : List Ev := [ev0 1 3 1 (-1) 0, ev0 3 3 1 0 0, ev0 7 5 1 0 0, ev0 7 9 1 0 110]
def awC : Nat → Int := (readS (many 1) evs4).c
theorem aw_c : awC 0 = 1 ∧ awC 1 = 0 ∧ awC 2 = 0 ∧ awC 3 = 0 ∧ awC 4 = 2 ∧ awC 5 = 1 ∧ awC 6 = 1 ∧ awC 7 = 8 ∧ awC 8 = 6 := by
  refine ⟨?_, ?_, ?_, ?_, ?_, ?_, ?_, ?_, ?_⟩ <;> kernel_rfl
theorem aw_w : (readS (many 1) evs4).w 0 = [2, 6] := by kernel_rfl
theorem aw_fit : FitL evs4 := by
  intro e he
  simp only [evs4, List.mem_cons, List.not_mem_nil, or_false] at he
  rcases he with rfl | rfl | rfl | rfl <;> (unfold FitE ev0; dsimp only; omega)
theorem aw_id : ∀ e ∈ evs4, Wf e.i := by
  intro e he
  simp only [evs4, List.mem_cons, List.not_mem_nil, or_false] at he
  rcases he with rfl | rfl | rfl | rfl <;> (unfold Wf ev0; dsimp only; omega)
theorem srt26 : srt [2, 6] = [2, 6] := srt_of (by unfold Up; simp) (.refl _)
theorem il_new (w : World) (l : List Int) (hl : l.length ≤ 1000000) : Il (w.alloc (.cells (l.map (Value.int .i64)).toArray 2)) (.slice (some ⟨w.heap.size, 0, none⟩) l.length l.length) l := by
  refine ⟨_, _, rfl, Nat.le_refl _, by omega, fun _ => ⟨_, _, rfl, fun j x hj => ?_⟩⟩
  rw [Nat.zero_add, cell_of_row _ _ _ _ _ _ (heap_alloc_new w _)]
  simp [hj]
def AwPost (w : World) (r : Ending) (w' : World) : Prop := r = .returned (.bool true) ∧ Below w.heap.size w w'

set_option maxRecDepth 100000 in
set_option maxHeartbeats 4000000 in
theorem awake_any (w : World) : Calls Try.prog 7 #[] w (AwPost w) := by
  have hE := evs_new w evs4 (by decide)
  have hc : Calls Try.prog 8 #[.int .i64 1, .slice (some ⟨w.heap.size, 0, none⟩) 4 4] (w.alloc (.cells (evs4.flatMap ec).toArray 50)) (CountPost _ 1 awC) := count_any 1 (by unfold Wf; omega) evs4 hE (by decide) aw_fit aw_id
  have HWt : Hid (∀ W, Below (w.alloc (.cells (evs4.flatMap ec).toArray 50)).heap.size (w.alloc (.cells (evs4.flatMap ec).toArray 50)) W → Calls Try.prog 10 #[.int .i64 1, .slice (some ⟨w.heap.size, 0, none⟩) 4 4] W (WaitsPost W 1 (fun h => if h < 1 then srt ((readS (many 1) evs4).w h) else (readS (many 1) evs4).w h))) := fun W hb => waits_any 1 (by unfold Wf; omega) evs4 (hE.below hb) (by decide) aw_fit aw_id
  have hlit : (evs4.flatMap ec).toArray = #[.int .i64 1, .int .i64 3, .int .i64 1, .int .i64 (-1), .int .i64 0, .int .i64 0, .int .i64 0, .int .i64 0, .int .i64 0, .bool false, .int .i64 0, .int .i64 0, .int .u64 0, .string ⟨#[]⟩, .slice none 0 0,
      .int .i64 3, .int .i64 3, .int .i64 1, .int .i64 0, .int .i64 0, .int .i64 0, .int .i64 0, .int .i64 0, .int .i64 0, .bool false, .int .i64 0, .int .i64 0, .int .u64 0, .string ⟨#[]⟩, .slice none 0 0,
      .int .i64 7, .int .i64 5, .int .i64 1, .int .i64 0, .int .i64 0, .int .i64 0, .int .i64 0, .int .i64 0, .int .i64 0, .bool false, .int .i64 0, .int .i64 0, .int .u64 0, .string ⟨#[]⟩, .slice none 0 0,
      .int .i64 7, .int .i64 9, .int .i64 1, .int .i64 0, .int .i64 0, .int .i64 110, .int .i64 0, .int .i64 0, .int .i64 0, .bool false, .int .i64 0, .int .i64 0, .int .u64 0, .string ⟨#[]⟩, .slice none 0 0] := by rfl
  rw [hlit] at hc HWt
  have hB0 : Below w.heap.size w (w.alloc (.cells (evs4.flatMap ec).toArray 50)) := (Below.refl _ _).alloc (Nat.le_refl _) _
  rw [hlit] at hB0
  have HB0 := Lib.hid hB0
  have CC := Lib.hid hc
  obtain ⟨PP, hPP⟩ : ∃ PP, AwPost w = PP := ⟨_, rfl⟩
  rw [hPP]
  have HPP := Lib.hid hPP
  clear hPP hE hc hlit hB0
  go_enter Try.func7, Try.ntmps7
  go_wp2_with fail
  refine CC.out.mono ?_
  rintro r' W1 ⟨hb1, v1, rfl, hT⟩
  have HB1 := Lib.hid hb1
  have HT := Lib.hid hT
  clear hb1 hT CC
  go_wp2_with fail
  refine (HWt.out W1 (by exact HB1.out)).mono ?_
  rintro r' W2 ⟨hb2, v2, rfl, hW⟩
  obtain ⟨base, gW, V, rfl, hW⟩ := hW
  have hI : Il W2 (V 0) [2, 6] := by
    have h := il_of_own (hW.own 0 (by omega))
    have e : (if 0 < 1 then srt ((readS (many 1) evs4).w 0) else (readS (many 1) evs4).w 0) = [2, 6] := by rw [if_pos (by omega), aw_w, srt26]
    rwa [e] at h
  have hcw := hW.cell (show 0 < 1 by omega)
  have hgw : gW < W2.heap.size := by have := hW.lt; omega
  obtain ⟨g, rfl, hg, hcs⟩ := (HT.out.below hb2)
  have hB2 := HB1.out.trans (hb2.mono HB1.out.size)
  have hB3 : Below w.heap.size w W2 := HB0.out.trans (hB2.mono HB0.out.size)
  have HC : Hid (∀ W, Below W2.heap.size W2 W → W.cell? ⟨g, 0, none⟩ = some (.int .i64 1) ∧ W.cell? ⟨g, 1, none⟩ = some (.int .i64 0) ∧ W.cell? ⟨g, 2, none⟩ = some (.int .i64 0) ∧ W.cell? ⟨g, 3, none⟩ = some (.int .i64 0) ∧ W.cell? ⟨g, 4, none⟩ = some (.int .i64 2) ∧ W.cell? ⟨g, 5, none⟩ = some (.int .i64 1) ∧ W.cell? ⟨g, 6, none⟩ = some (.int .i64 1) ∧ W.cell? ⟨g, 7, none⟩ = some (.int .i64 8) ∧ W.cell? ⟨g, 8, none⟩ = some (.int .i64 6) ∧ W.cell? ⟨gW, 0, none⟩ = some (V 0)) := fun W hb => by
    obtain ⟨a0, a1, a2, a3, a4, a5, a6, a7, a8⟩ := aw_c
    have q := fun j (hj : j < 9) => (hb.cell (p := ⟨g, j, none⟩) hg).trans (hcs j (by omega))
    refine ⟨(q 0 (by omega)).trans (by rw [a0]), (q 1 (by omega)).trans (by rw [a1]), (q 2 (by omega)).trans (by rw [a2]), (q 3 (by omega)).trans (by rw [a3]), (q 4 (by omega)).trans (by rw [a4]), (q 5 (by omega)).trans (by rw [a5]), (q 6 (by omega)).trans (by rw [a6]), (q 7 (by omega)).trans (by rw [a7]), (q 8 (by omega)).trans (by rw [a8]), (hb.cell (p := ⟨gW, 0, none⟩) hgw).trans hcw⟩
  have CM : Calls Try.prog 14 #[.slice (some ⟨W2.heap.size, 0, none⟩) 3 3, .int .i64 500] (W2.alloc (.cells #[.int .i64 1, .int .i64 5, .int .i64 9] 2)) fun r w' => r = .returned (.tuple #[.int .i64 5, .bool true]) ∧ W2.alloc (.cells #[.int .i64 1, .int .i64 5, .int .i64 9] 2) = w' := by
    refine (mid_any (il_new W2 [1, 5, 9] (by decide)) (by decide) 500 (by omega) (by omega)).mono ?_
    rintro r w' ⟨h | ⟨x, hx, rfl⟩, rfl⟩
    · cases h.1
    · have hx : some (5 : Int) = some x := hx
      injection hx with hx; subst hx; exact ⟨rfl, rfl⟩
  have CS : Hid (∀ W, Below W2.heap.size W2 W → Calls Try.prog 12 #[V 0, .slice (some ⟨W.heap.size, 0, none⟩) 2 2] (W.alloc (.cells #[.int .i64 2, .int .i64 6] 2)) (QuietTo _ (.bool true))) := fun W hb =>
    same_true (hI.below (hb.alloc hb.size _)) (il_new W [2, 6] (by decide))
  have CM := Lib.hid CM
  have HB3 := Lib.hid hB3
  clear hI hcw hgw hcs hB2 hB3 hW hb2 HT HB1 hg
  refine k_world (fun W => W = W2) rfl (fun W hW => ?_)
  subst hW
  go_wp2_with fail
  refine CM.out.mono ?_
  rintro r' W' ⟨rfl, rfl⟩
  refine k_world (fun W' => Below W.heap.size W W') (by exact (Below.refl _ _).alloc (Nat.le_refl _) _) (fun W3 hb3 => ?_)
  obtain ⟨c0, c1, c2, c3, c4, c5, c6, c7, c8, c9⟩ := HC.out W3 hb3
  have CS := Lib.hid (CS.out W3 hb3)
  have HB4 := Lib.hid (HB3.out.trans (hb3.mono HB3.out.size))
  clear hb3 HC CM
  go_wp2_with fail
  refine CS.out.mono ?_
  rintro r' W' ⟨rfl, q, rfl⟩
  go_wp2
  rw [← HPP.out]
  exact ⟨rfl, below_drewN (HB4.out.alloc HB4.out.size _) _⟩
end Go.Proofs.Ytejehjlegfpgbaa
