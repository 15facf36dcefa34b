/- WIRE: texts written. -/
import Derived.Test.YtmncpbfghabamaaDoorWireSigned
import Derived.Lib.ConvBytes
namespace Go.Proofs.YtmncpbfghabamaaDoor
open Go Go.RowKit

theorem strCells_eq (s : ByteArray) : Lib.strCells s = s.data.toList.map bv := by
  simp [Lib.strCells, bv]
set_option maxRecDepth 100000 in
/-- an append of a text: where the row lies then -/
theorem append_str_at {W : World} {base ty u : Nat} {v v' : Value} {l : List UInt8} {s : ByteArray} {W' : World} (hu : Tryd.prog.underlying u = some .string) (hrow : Row W base v l) (hl : l.length + s.size ≤ 1000000000)
    (hr : (Builtin.append_ #[26, u] ty #[v, .string s]).run Tryd.prog W = .ok v' W') : v'.ownBlock = v.ownBlock ∨ v'.ownBlock = some W.heap.size := by
  obtain ⟨i0, hi, hz0, hz1, hz2⟩ := info_parts info_u8
  rcases hrow.2 with ⟨rfl, h0⟩ | ⟨g, cap, cur, rfl, hbg, hg, hnc, hcm, hcs, htake⟩
  · by_cases hm : s.size = 0
    · left
      have hf := Lib.run_firstCells_string (P := Tryd.prog) W 1 s
      rw [hm] at hf
      have e : (Builtin.append_ #[26, u] ty #[.slice none 0 0, .string s]).run Tryd.prog W = .ok (.slice none 0 0) W := by
        simp [Builtin.append_, run_underlying Tryd.underlying26, run_underlying hu, sizeOf, typeInfo, hi, hz1, Builtin.lenOf, hm, hf]
      rw [hr] at e
      injection e with e _
      rw [e]
    · right
      have e := run_append_nil_string (P := Tryd.prog) W 26 u ty 5 i0 (.int .u8 0) Tryd.underlying26 hu hi hz0 s (by omega) (by omega) (by rw [hz2]; omega)
      have e2 := hr.symm.trans e
      simp only [Result.ok.injEq] at e2
      rw [e2.1]; rfl
  · by_cases hroom : l.length + s.size ≤ cap
    · left
      have hcs' : cur.size = cap := by simpa using hcs
      have e := Lib.run_append_room_string (P := Tryd.prog) W 26 u ty 5 i0 Tryd.underlying26 hu hi hz1 g l.length cap cur hg s hroom (by omega)
      have e2 := hr.symm.trans e
      simp only [Result.ok.injEq] at e2
      rw [e2.1]; rfl
    · right
      have holds : ∀ j u, (l.map bv)[j]? = some u → W.cell? ((⟨g, 0, none⟩ : Addr).add j) = some u := hrow.cells (g := g) rfl
      have e := Lib.run_append_grow_string (P := Tryd.prog) W 26 u ty 5 i0 (.int .u8 0) Tryd.underlying26 hu hi hz0 ⟨g, 0, none⟩ l.length cap (l.map bv) (by rw [hz1]; simp) holds s (by omega) (by omega) (by rw [hz2]; exact growslice_fits (by omega) (by omega))
      have e2 := hr.symm.trans e
      simp only [Result.ok.injEq] at e2
      rw [e2.1]; rfl
theorem grow_of_by {W w1 : World} {v v' : Value} (hg : W.grownBy w1 v.ownBlock) (hat : v'.ownBlock = v.ownBlock ∨ v'.ownBlock = some W.heap.size) : Grow none v W v' w1 := by
  refine ⟨hg.os, hg.tape, hg.output, hg.size, fun k hk _ h2 => hg.block k hk h2, ?_⟩
  rcases hat with ha | ha
  · exact .inl ha
  · right; intro g e
    rw [ha] at e
    injection e with e
    omega
/-- the writer's box, when the row has grown -/
theorem grow_store {W w1 : World} {Bw base : Nat} {v v' : Value} {l l' : List UInt8} {t : TypeId} (hbox : Boxed W Bw t v) (ht : t ≠ 5) (hrow : Row W base v l) (hrow' : Row w1 base v' l') (hg : Grow none v W v' w1) :
    Boxed (w1.setCell ⟨Bw, 0, none⟩ v') Bw t v' ∧ Row (w1.setCell ⟨Bw, 0, none⟩ v') base v' l' ∧ Grow (some Bw) v W v' (w1.setCell ⟨Bw, 0, none⟩ v') ∧ Boxed w1 Bw t v := by
  have hv1 : Boxed w1 Bw t v := hg.boxed hbox (by simp) (hbox.not_row ht hrow)
  have e1 : (w1.setCell ⟨Bw, 0, none⟩ v').heap.size = w1.heap.size := by simp [World.setCell]
  refine ⟨hv1.set v', World.ownsRow.kept hrow' (grownBy_setCell' w1 Bw v') (.inr (hv1.not_row ht hrow').symm), ⟨hg.os, hg.tape, hg.output, by rw [e1]; exact hg.size, fun k hk h1 h2 => ?_, ?_⟩, hv1⟩
  · rw [Below.heap_setCell _ _ _ _ (by intro e; exact h1 (by rw [e]))]
    exact hg.block k hk (by simp) h2
  · rcases hg.at_ with ha | ha
    · exact .inl ha
    · exact .inr ha
theorem row_val {W : World} {base : Nat} {v : Value} {l : List UInt8} (h : Row W base v l) : ∃ q n c, v = .slice q n c := by
  obtain ⟨p, cap, hv, -⟩ := bs_of_own h
  exact ⟨p, _, cap, hv⟩
/-- the append of a text -/
theorem wpList_append_text {W : World} {ops : Array Oper} {rest : List Oper} {o : Oper} {a : Act} {Q : Exit → Act → World → Prop} (hgd : o.guard = none) (sl x : Operand)
    (ho : o.op = .call { callee := .builtin .append, args := #[sl, x], argTypes := #[26, 9] })
    (base : Nat) (v : Value) (l : List UInt8) (hs : a.eval sl = v) (hrow : Row W base v l) (s : ByteArray) (hx : a.eval x = .string s) (hl : l.length + s.size ≤ 1000000000) (hbase : base ≤ W.heap.size)
    (h : ∀ v' w', Row w' base v' (l ++ s.data.toList) → Grow none v W v' w' → wpList Tryd.prog ops Q rest (a.put o.dst v') w') : wpList Tryd.prog ops Q (o :: rest) a W := by
  obtain ⟨i0, hi, hz0, hz1, hz2⟩ := info_parts info_u8
  refine wpList_plain hgd fun K hK => ?_
  obtain ⟨v', w', hr, h2, h3, -⟩ := Lib.run_append_own_string (P := Tryd.prog) W base 26 9 o.type 5 i0 Tryd.underlying26 Tryd.underlying9 hi hz0 hz1 hz2 v l.length (l.map bv) hrow s (by unfold maxLen; omega) (by omega) hbase
  have hat := append_str_at Tryd.underlying9 hrow hl hr
  unfold Oper.wp execOp
  simp only [ho, resolve, invoke, builtin, Sem.run_bind, Sem.run_pure, Result.andThen_ok, List.map_toArray, List.map_cons, List.map_nil, hs, hx, hr]
  refine hK _ _ (h v' w' ?_ (grow_of_by h3 hat))
  unfold Row
  rw [List.map_append, List.length_append, ← strCells_eq, show s.data.toList.length = s.size by simp]
  exact h2

set_option maxRecDepth 100000 in
set_option maxHeartbeats 2000000 in
theorem text_any (Bw base : Nat) (v : Value) (l : List UInt8) (s : ByteArray) (W : World) (hbox : Boxed W Bw 67 v) (hrow : Row W base v l) (hb : base ≤ W.heap.size) (hs : s.size ≤ 100000000) (hl : l.length ≤ 100000000) :
    Calls Tryd.prog 40 #[.pointer (some ⟨Bw, 0, none⟩), .string s] W (WPost Bw base v W (l ++ (numB s.size ++ s.data.toList))) := by
  have CN := Lib.hid (number_any Bw base v l s.size W hbox hrow hb (by omega) hl)
  have h10 := numB_ten (show s.size < 18446744073709551616 by omega)
  obtain ⟨PP, hPP⟩ : ∃ PP, WPost Bw base v W (l ++ (numB s.size ++ s.data.toList)) = PP := ⟨_, rfl⟩
  rw [hPP]
  have HPP := Lib.hid hPP
  clear hPP hbox hrow
  have hs' : (s.size : Int) ≤ 100000000 := by omega
  go_enter Tryd.func40, Tryd.ntmps40
  go_wp2_with fail
  refine CN.out.mono ?_
  rintro e W1 ⟨v1, rfl, h1, h2, h3⟩
  have H1 := Lib.hid h1
  have H2 := Lib.hid h2
  have H3 := Lib.hid h3
  have hc := h1.cell
  have hf := h1.frozen
  have hsz := h3.size
  have hll : (l ++ numB s.size).length + s.size ≤ 1000000000 := by rw [List.length_append]; omega
  clear h1 h2 h3 CN h10
  go_wp2_with (at_builtin; refine wpList_append_text rfl _ _ rfl base _ (l ++ numB s.size) rfl H2.out s rfl hll (by omega) ?_; intro v' w1 hr' hg'; obtain ⟨t1, t2, t3, t4⟩ := grow_store H1.out (by decide) H2.out hr' hg'; obtain ⟨q', n', cap', rfl⟩ := row_val hr'; have hc3 := t4.cell; have hf3 := t4.frozen; have T1 := Lib.hid t1; have T2 := Lib.hid t2; have T3 := Lib.hid t3; clear t1 t2 t3 t4 hr' hg')
  refine bodyPost_end (results_none rfl _ _ _) rfl ?_
  rw [← HPP.out]
  have T2' := T2.out
  rw [List.append_assoc] at T2'
  exact ⟨_, rfl, T1.out, T2', H3.out.trans T3.out⟩
end Go.Proofs.YtmncpbfghabamaaDoor
