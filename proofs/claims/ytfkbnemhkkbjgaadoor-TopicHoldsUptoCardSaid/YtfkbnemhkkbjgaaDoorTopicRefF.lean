/- THE REFERENCE's least, shortest. -/
import Derived.Test.YtfkbnemhkkbjgaaDoorTopicRefE
namespace Go.Proofs.YtfkbnemhkkbjgaaDoor
open Go Go.RowKit

def leastV (x : ByteArray) : ByteArray := if x.toList == [43] then ⟨#[]⟩ else x
def leastB : List ByteArray → List ByteArray
  | [] => []
  | x :: r => if x.toList == [35] then [] else leastV x :: leastB r
theorem leastB_len : ∀ l : List ByteArray, (leastB l).length ≤ l.length
  | [] => Nat.le_refl _
  | x :: r => by
    have := leastB_len r
    unfold leastB; split <;> simp <;> omega

/-- 'append(own, src...)', src any slice of texts, nil too -/
theorem run_append_sl (w : World) (base : Nat) (ty : TypeId) (i : TypeInfo) (hi : Tryd.prog.info? 9 = some i) (hz0 : i.zero = some (.string ByteArray.empty)) (hz1 : i.size = 1) (hz2 : i.bytes = 16)
    (v : Value) (n : Nat) (xs : List Value) (hown : w.ownsRow base 9 1 v n xs) (src : Value) (l : List ByteArray) (hS : Sl w src l) (hn : n + l.length ≤ 1000000000) (hbase : base ≤ w.heap.size) :
    ∃ v' w', (Builtin.append_ #[23, 23] ty #[v, src]).run Tryd.prog w = .ok v' w' ∧ w'.ownsRow base 9 1 v' (n + l.length) (xs ++ l.map Value.string) ∧ w.grownBy w' v.ownBlock := by
  obtain ⟨p, cap, rfl, hc1, hc2, hcells⟩ := hS
  by_cases hl : l = []
  · subst hl
    refine ⟨v, w, ?_, by simpa using hown, ⟨rfl, rfl, rfl, Nat.le_refl _, fun _ _ _ => rfl⟩⟩
    rcases hown.2 with ⟨rfl, rfl⟩ | ⟨g, cp, cur, rfl, hb, hg, hnc, hm, hs, ht⟩
    · cases p <;> simp [Builtin.append_, run_underlying Tryd.underlying23, sizeOf, typeInfo, hi, Builtin.lenOf, Builtin.firstCells, loadCells, loadCellsFrom]
    · cases p <;> simp [Builtin.append_, run_underlying Tryd.underlying23, sizeOf, typeInfo, hi, Builtin.lenOf, Builtin.firstCells, loadCells, loadCellsFrom, hnc, storeCells]
  · obtain ⟨b, o, rfl, hcell⟩ := hcells.resolve_left hl
    obtain ⟨v', w', h1, h2, h3, _⟩ := run_append_own (P := Tryd.prog) w base 23 ty 9 i (.string ByteArray.empty) 1 16 Tryd.underlying23 hi hz0 hz1 hz2 rfl (by decide) v n xs hown ⟨b, o, none⟩ l.length cap (l.map Value.string) (by simp)
      (fun j u hj => by
        rw [List.getElem?_map] at hj
        obtain ⟨x, hx, rfl⟩ := Option.map_eq_some_iff.1 hj
        have hadd : (⟨b, o, none⟩ : Addr).add j = ⟨b, o + j, none⟩ := by unfold Addr.add; split <;> simp_all
        rw [hadd]; exact hcell j x hx)
      (fun u hu => by obtain ⟨x, _, rfl⟩ := List.mem_map.1 hu; rfl) (by unfold maxLen; omega) (by omega) hbase
    exact ⟨v', w', h1, h2, h3⟩

theorem wpList_append_sl {ops : Array Oper} {rest : List Oper} {o : Oper} {a : Act} {Q : Exit → Act → World → Prop} (w : World) (hgd : o.guard = none) (s x : Operand)
    (ho : o.op = .call { callee := .builtin .append, args := #[s, x], argTypes := #[23, 23] })
    (base : Nat) (i : TypeInfo) (hi : Tryd.prog.info? 9 = some i) (hz0 : i.zero = some (.string ByteArray.empty)) (hz1 : i.size = 1) (hz2 : i.bytes = 16)
    (v : Value) (n : Nat) (xs : List Value) (hs : a.eval s = v) (hown : w.ownsRow base 9 1 v n xs) (src : Value) (hx : a.eval x = src) (l : List ByteArray) (hS : Sl w src l)
    (hn : n + l.length ≤ 1000000000) (hbase : base ≤ w.heap.size)
    (h : ∀ v' w', w'.ownsRow base 9 1 v' (n + l.length) (xs ++ l.map Value.string) → w.grownBy w' v.ownBlock → wpList Tryd.prog ops Q rest (a.put o.dst v') w') : wpList Tryd.prog ops Q (o :: rest) a w := by
  refine wpList_plain hgd fun K hK => ?_
  obtain ⟨v', w', hr, h2, h3⟩ := run_append_sl w base o.type i hi hz0 hz1 hz2 v n xs hown src l hS hn hbase
  unfold Oper.wp execOp
  simp only [ho, resolve, invoke, builtin, Sem.run_bind, Sem.run_pure, Result.andThen_ok, List.map_toArray, List.map_cons, List.map_nil, hs, hx, hr]
  exact hK _ _ (h v' w' h2 h3)

theorem leastB_drop {l : List ByteArray} {k : Nat} {x : ByteArray} (hx : l[k]? = some x) : leastB (l.drop k) = if x.toList == [35] then [] else leastV x :: leastB (l.drop (k + 1)) := by
  obtain ⟨hk, rfl⟩ := List.getElem?_eq_some_iff.1 hx
  rw [List.drop_eq_getElem_cons hk]; rfl

set_option maxHeartbeats 2000000 in
theorem refLeast_any (l : List ByteArray) (v : Value) (w : World) (hS : Sl w v l) (hl : l.length ≤ 100000000) :
    Calls Tryd.prog 44 #[v] w fun e w' => ∃ v', e = .returned v' ∧ Sl w' v' (leastB l) ∧ Below w.heap.size w w' := by
  obtain ⟨i0, hi, hz0, hz1, hz2⟩ := info_parts info_string
  obtain ⟨p, cap, rfl, hc1, hc2, hcells⟩ := hS
  have HC : Hid (l = [] ∨ ∃ b o, p = some ⟨b, o, none⟩ ∧ ∀ (j : Nat) x, l[j]? = some x → w.cell? ⟨b, o + j, none⟩ = some (.string x)) := hcells
  clear hcells
  go_enter Tryd.func44, Tryd.ntmps44
  go_wp2
  go_loopw [3, 7] (fun v i wr => ∃ (k : Nat) (done : List ByteArray), k ≤ l.length ∧ i = .int .i64 k ∧ done.length = k ∧ Hid (leastB l = done ++ leastB (l.drop k)) ∧ wr.ownsRow w.heap.size 9 1 v k (done.map Value.string) ∧ Below w.heap.size w wr) (fun _ i _ => l.length - (intOf i).toNat)
  case atStart => exact ⟨0, [], Nat.zero_le _, rfl, rfl, rfl, World.ownsRow_nil _ _ _ _, Below.refl _ _⟩
  case round =>
    obtain ⟨k, done, hk, rfl, hd, HL, hown, hbw⟩ := hrel
    have HD := Lib.hid hd
    clear hd
    have hszw := hbw.size
    by_cases hlt : k < l.length
    · obtain ⟨x, hx⟩ : ∃ x, l[k]? = some x := ⟨_, List.getElem?_eq_getElem hlt⟩
      obtain ⟨b, o, rfl, hcell⟩ := HC.out.resolve_left (by rintro rfl; simp at hlt)
      have hck0 := hcell k x hx
      have hck : wr.cell? ⟨b, o + k, none⟩ = some (.string x) := (hbw.cell (p := ⟨b, o + k, none⟩) (World.block_lt_of_cell? w _ hck0)).trans hck0
      have HX := Lib.hid (leastB_drop hx)
      clear hcell hck0 hx
      cases h1 : (x.toList == [35])
      · cases h2 : (x.toList == [43])
        · have HF : Hid (leastB l = (done ++ [x]) ++ leastB (l.drop (k + 1))) := by show _ = _; rw [HL.out, HX.out, h1]; simp [leastV, h2]
          clear HL HX
          go_wp2_with (at_builtin; refine wpList_append_own _ rfl _ _ 23 rfl w.heap.size 9 i0 (.string ByteArray.empty) 1 16 Tryd.underlying23 hi hz0 hz1 hz2 rfl (by decide) _ _ _ rfl (hown.alloc _) ⟨wr.heap.size, 0, none⟩ 1 1 [.string x] rfl rfl (cell_one_new _ _ _) (fun x hx => by simp at hx; subst hx; rfl) (by unfold maxLen; omega) (by omega) (by simp; omega) ?_; intro v' w1 hown' hgrow hnil)
          have hB1 : Below w.heap.size w w1 := ((hbw.alloc hszw _).grown hgrow (by simp; omega) (fun j hj => (hown.lt j hj).1))
          have hown2 : w1.ownsRow w.heap.size 9 1 v' (k + 1) ((done ++ [x]).map Value.string) := by simpa using hown'
          clear hown' hgrow hown hnil
          go_wp2
          go_roundw
          case rel => exact ⟨k + 1, done ++ [x], by omega, by go_num, by have := HD.out; simp; omega, HF, hown2, hB1⟩
          case measure => simp [intOf]; omega
        · have HF : Hid (leastB l = (done ++ [⟨#[]⟩]) ++ leastB (l.drop (k + 1))) := by show _ = _; rw [HL.out, HX.out, h1]; simp [leastV, h2]
          clear HL HX
          go_wp2_with (at_builtin; refine wpList_append_own _ rfl _ _ 23 rfl w.heap.size 9 i0 (.string ByteArray.empty) 1 16 Tryd.underlying23 hi hz0 hz1 hz2 rfl (by decide) _ _ _ rfl (hown.alloc _) ⟨wr.heap.size, 0, none⟩ 1 1 [.string ⟨#[]⟩] rfl rfl (cell_one_new _ _ _) (fun x hx => by simp at hx; subst hx; rfl) (by unfold maxLen; omega) (by omega) (by simp; omega) ?_; intro v' w1 hown' hgrow hnil)
          have hB1 : Below w.heap.size w w1 := ((hbw.alloc hszw _).grown hgrow (by simp; omega) (fun j hj => (hown.lt j hj).1))
          have hown2 : w1.ownsRow w.heap.size 9 1 v' (k + 1) ((done ++ [(⟨#[]⟩ : ByteArray)]).map Value.string) := by simpa using hown'
          clear hown' hgrow hown hnil
          go_wp2
          go_roundw
          case rel => exact ⟨k + 1, done ++ [⟨#[]⟩], by omega, by go_num, by have := HD.out; simp; omega, HF, hown2, hB1⟩
          case measure => simp [intOf]; omega
      · have HF : Hid (leastB l = done) := by show _ = _; rw [HL.out, HX.out, h1]; simp
        clear HL HX
        go_wp2
        go_ret
        exact ⟨_, rfl, by rw [HF.out]; exact Sl.of_owns (base := w.heap.size) (by rw [HD.out]; exact hown), hbw⟩
    · obtain rfl : k = l.length := by omega
      have HF : Hid (leastB l = done) := by show _ = _; rw [HL.out]; simp [leastB]
      clear HL
      go_wp2
      go_ret
      exact ⟨_, rfl, by rw [HF.out]; exact Sl.of_owns (base := w.heap.size) (by rw [HD.out]; exact hown), hbw⟩
end Go.Proofs.YtfkbnemhkkbjgaaDoor
