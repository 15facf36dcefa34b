/- WIRE: the reference's Text. -/
import Derived.Test.YtmncpbfghabamaaDoorWireText
namespace Go.Proofs.YtmncpbfghabamaaDoor
open Go Go.RowKit

theorem add_zero (g j : Nat) : (⟨g, 0, none⟩ : Addr).add j = ⟨g, j, none⟩ := by unfold Addr.add; split <;> simp_all
theorem conv_text (s : ByteArray) (w : World) :
    ∃ cap w1, (convert 9 26 (.string s)).run Tryd.prog w = .ok (.slice (some ⟨w.heap.size, 0, none⟩) s.size cap) w1 ∧ (∀ j x, (s.data.toList.map bv)[j]? = some x → w1.cell? ((⟨w.heap.size, 0, none⟩ : Addr).add j) = some x) ∧ w.grownBy w1 none := by
  refine ⟨_, _, Lib.run_convert_string_bytes w 9 26 5 s Tryd.underlying9 Tryd.underlying26 Tryd.underlying5, ?_, ?_⟩
  · intro j x hj
    have hlt : j < s.size := by
      obtain ⟨h, _⟩ := List.getElem?_eq_some_iff.1 hj
      simpa using h
    have := Lib.bytesWorld_cell w 5 s j hlt
    rw [add_zero, this]
    rw [List.getElem?_map] at hj
    cases hx : s.data.toList[j]? with
    | none => rw [hx] at hj; cases hj
    | some y => rw [hx] at hj; cases hj; simp [List.getD, hx, bv]
  · exact ⟨rfl, rfl, rfl, by rw [Lib.bytesWorld_size]; omega, fun k hk _ => Lib.bytesWorld_at_old w 5 s k hk⟩
theorem row_app {W : World} {base : Nat} {v : Value} {l m : List UInt8} {n : Nat} (h : W.ownsRow base 5 1 v (l.length + n) (l.map bv ++ m.map bv)) (hn : n = m.length) : Row W base v (l ++ m) := by
  subst hn
  unfold Row
  rw [List.map_append, List.length_append]
  exact h
theorem Grow.of_grown {W w1 : World} {v : Value} (hg : W.grownBy w1 none) : Grow none v W v w1 := ⟨hg.os, hg.tape, hg.output, hg.size, fun k hk _ _ => hg.block k hk (by simp), .inl rfl⟩
theorem row_kept {W w1 : World} {base : Nat} {v : Value} {l : List UInt8} (h : Row W base v l) (hg : W.grownBy w1 none) : Row w1 base v l := World.ownsRow.kept h hg (Decidable.em _)

set_option maxRecDepth 100000 in
set_option maxHeartbeats 2000000 in
theorem refText_any (base : Nat) (v : Value) (l : List UInt8) (s : ByteArray) (W : World) (hrow : Row W base v l) (hb : base ≤ W.heap.size) (hs : s.size ≤ 100000000) (hl : l.length ≤ 100000000) :
    Calls Tryd.prog 52 #[v, .string s] W (SPost base v W (l ++ (numB s.size ++ s.data.toList))) := by
  have CN := Lib.hid (refNumber_any base v l s.size W hrow hb (by omega) hl)
  obtain ⟨i0, hi, hz0, hz1, hz2⟩ := info_parts info_u8
  have h10 := numB_ten (show s.size < 18446744073709551616 by omega)
  obtain ⟨PP, hPP⟩ : ∃ PP, SPost base v W (l ++ (numB s.size ++ s.data.toList)) = PP := ⟨_, rfl⟩
  rw [hPP]
  have HPP := Lib.hid hPP
  obtain ⟨q, n, cap, rfl⟩ := row_val hrow
  clear hPP hrow
  have hs' : (s.size : Int) ≤ 100000000 := by omega
  go_enter Tryd.func52, Tryd.ntmps52
  go_wp2_with fail
  refine CN.out.mono ?_
  rintro e W1 ⟨v1, rfl, h2, h3⟩
  obtain ⟨cap2, W2, hrun, hcells, hg2⟩ := conv_text s W1
  obtain ⟨q1, n1, cap1, rfl⟩ := row_val h2
  have H2 := Lib.hid (row_kept h2 hg2)
  have H3 := Lib.hid (h3.trans (Grow.of_grown hg2))
  have HC := Lib.hid hcells
  have hsz := h3.size
  have hsz2 := hg2.size
  have hll : (l ++ numB s.size).length + s.size ≤ 1000000000 := by rw [List.length_append]; omega
  clear h2 h3 CN h10 hcells hg2
  go_wp2_with (at_builtin; refine wpList_append_own_at _ rfl _ _ 26 rfl base 5 i0 (.int .u8 0) 1 1 Tryd.underlying26 hi hz0 hz1 hz2 rfl (by decide) _ (l ++ numB s.size).length _ rfl H2.out ⟨W1.heap.size, 0, none⟩ s.size cap2 (s.data.toList.map bv) rfl (by simp) HC.out (fun x hx => by obtain ⟨y, -, rfl⟩ := List.mem_map.1 hx; rfl) (by unfold maxLen; omega) (by omega) (by omega) ?_; intro v' w1 hr' hg' _ hat; have T3 := Lib.hid (grow_of_by hg' hat); have T2 := Lib.hid (row_app hr' (by simp)); clear hr' hg' hat)
  rw [← HPP.out]
  have T2' := T2.out
  rw [List.append_assoc] at T2'
  exact ⟨_, rfl, T2', H3.out.trans T3.out⟩
end Go.Proofs.YtmncpbfghabamaaDoor
