/- ROUTE: a pattern's tree; what the kinds' samples are. -/
import Derived.WalkKit
import Derived.Lib.Hide
import Derived.Below
import Derived.OwnWalk
import Derived.Deep.Draws
import Derived.Laws.BitsAllLaws
import Derived.Test.YtpgdiekpeceicaaDoorProg
namespace Go.Proofs.YtpgdiekpeceicaaDoor
open Go Go.RowKit

/-- a pattern -/
inductive Wt where
  | mk (op num : Int) (l : List Wt)
def Wt.op : Wt → Int | .mk op _ _ => op
def Wt.num : Wt → Int | .mk _ num _ => num
def Wt.l : Wt → List Wt | .mk _ _ l => l
/-- three cells that read as a pattern of so many levels at most -/
def WtIs (w : World) : Nat → List Value → Wt → Prop
  | 0, _, _ => False
  | k + 1, cs, .mk op num l => ∃ p cap, cs = [.int .i64 op, .int .i64 num, .slice p l.length cap] ∧ l.length ≤ cap ∧ cap ≤ 9223372036854775807 ∧
      (0 < l.length → ∃ b o, p = some ⟨b, o, none⟩ ∧ ∀ j t, l[j]? = some t → ∃ c0 c1 c2, w.cell? ⟨b, o + j * 3, none⟩ = some c0 ∧ w.cell? ⟨b, o + j * 3 + 1, none⟩ = some c1 ∧ w.cell? ⟨b, o + j * 3 + 2, none⟩ = some c2 ∧ WtIs w k [c0, c1, c2] t)
theorem WtIs.below {w w' : World} (hb : Below w.heap.size w w') : ∀ {k : Nat} {cs : List Value} {t : Wt}, WtIs w k cs t → WtIs w' k cs t := by
  intro k
  induction k with
  | zero => intro cs t h; exact h
  | succ k ih =>
    intro cs t h
    obtain ⟨op, num, l⟩ := t
    obtain ⟨p, cap, h1, h2, h3, h4⟩ := h
    refine ⟨p, cap, h1, h2, h3, fun hn => ?_⟩
    obtain ⟨b, o, hp, hc⟩ := h4 hn
    refine ⟨b, o, hp, fun j t hj => ?_⟩
    obtain ⟨c0, c1, c2, q0, q1, q2, ht⟩ := hc j t hj
    exact ⟨c0, c1, c2, (hb.cell (World.block_lt_of_cell? w _ q0)).trans q0, (hb.cell (World.block_lt_of_cell? w _ q1)).trans q1, (hb.cell (World.block_lt_of_cell? w _ q2)).trans q2, ih ht⟩

/-- which kind has which interface -/
def faceB (k f : Nat) : Bool :=
  let size := k == 4 || k == 5 || k == 7 || k == 8 || k == 9 || k == 11 || k == 12
  let label := k == 5 || k == 2 || k == 10
  let words := k == 10 || k == 11 || k == 12
  let less := k == 1 || k == 2 || k == 3 || k == 4 || k == 5
  let add := k == 1 || k == 3
  match f with
  | 0 => size | 1 => label | 2 => words | 3 => k == 11 || k == 12 | 4 => less | 5 => add
  | 6 => size && label | 7 => size && less | 8 => less && add | 9 => size && label && less
  | _ => false
theorem least_some (x : String) (l : List String) : ∃ m, Instr.least (x :: l) = some m := ⟨_, rfl⟩
theorem part_some (p : String → Bool) (f : String → String) (x : String) (l : List String) : ∃ m, (Instr.least (List.partition p (x :: l)).snd <|> Instr.least ((List.partition p (x :: l)).fst.map f)) = some m := by
  rw [List.partition_eq_filter_filter]
  dsimp only
  by_cases hx : p x = true
  · rw [List.filter_cons_of_pos hx]
    obtain ⟨m, hm⟩ := least_some (f x) (List.map f (List.filter p l))
    rw [List.map_cons, hm]
    cases Instr.least (List.filter (not ∘ p) (x :: l)) with
    | none => exact ⟨m, rfl⟩
    | some y => exact ⟨y, rfl⟩
  · have : List.filter (not ∘ p) (x :: l) = x :: List.filter (not ∘ p) l := List.filter_cons_of_pos (by simpa using hx)
    rw [this]
    obtain ⟨m, hm⟩ := least_some x (List.filter (not ∘ p) l)
    rw [hm]
    exact ⟨m, rfl⟩
theorem missing_some (want : Array (String × TypeId)) (got : Array Method) (x : String) (l : List String)
    (h : List.map (fun x => x.fst) (List.filter (fun x => match x with | (name, sig) => !got.any fun m => m.name == name && m.sig == sig) want.toList) = x :: l) : ∃ m, Instr.missingMethod want got = some m := by
  unfold Instr.missingMethod
  dsimp only
  rw [h]
  exact part_some _ _ _ _
def TA (v : Value) (t : TypeId) (b : Bool) : Prop := ∃ x, ∀ w, (Instr.typeAssert v 20 t true).run Tryd.prog w = .ok (.tuple #[x, .bool b]) w
/-- the sample of a kind -/
def SampleIs (k : Nat) (v : Value) : Prop :=
  (k = 0 ∧ v = .nilIface) ∨
  (k = 1 ∧ v = .iface 113 (.int .i64 0)) ∨
  (k = 2 ∧ v = .iface 114 (.int .i64 0)) ∨
  (k = 3 ∧ v = .iface 116 (.float .f64 0)) ∨
  (k = 4 ∧ v = .iface 117 (.string ⟨#[]⟩)) ∨
  (k = 5 ∧ v = .iface 118 (.string ⟨#[]⟩)) ∨
  (k = 6 ∧ v = .iface 119 (.bool false)) ∨
  (k = 7 ∧ v = .iface 120 (.slice none 0 0)) ∨
  (k = 8 ∧ v = .iface 122 (.slice none 0 0)) ∨
  (k = 9 ∧ v = .iface 124 (.agg #[.nilIface, .nilIface])) ∨
  (k = 10 ∧ v = .iface 126 (.agg #[.int .i64 0])) ∨
  (k = 11 ∧ ∃ b, v = .iface 98 (.pointer (some ⟨b, 0, none⟩))) ∨
  (k = 12 ∧ v = .iface 98 (.pointer none)) ∨
  (k = 13 ∧ v = .iface 130 (.agg #[]))
theorem ta0_0 (w : World) : (Instr.typeAssert (.nilIface) 20 132 true).run Tryd.prog w = .ok (.tuple #[.nilIface, .bool false]) w := by kernel_rfl
theorem ta0_1 (w : World) : (Instr.typeAssert (.nilIface) 20 135 true).run Tryd.prog w = .ok (.tuple #[.nilIface, .bool false]) w := by kernel_rfl
theorem ta0_2 (w : World) : (Instr.typeAssert (.nilIface) 20 138 true).run Tryd.prog w = .ok (.tuple #[.nilIface, .bool false]) w := by kernel_rfl
theorem ta0_3 (w : World) : (Instr.typeAssert (.nilIface) 20 141 true).run Tryd.prog w = .ok (.tuple #[.nilIface, .bool false]) w := by kernel_rfl
theorem ta0_4 (w : World) : (Instr.typeAssert (.nilIface) 20 144 true).run Tryd.prog w = .ok (.tuple #[.nilIface, .bool false]) w := by kernel_rfl
theorem ta0_5 (w : World) : (Instr.typeAssert (.nilIface) 20 147 true).run Tryd.prog w = .ok (.tuple #[.nilIface, .bool false]) w := by kernel_rfl
theorem ta0_6 (w : World) : (Instr.typeAssert (.nilIface) 20 150 true).run Tryd.prog w = .ok (.tuple #[.nilIface, .bool false]) w := by kernel_rfl
theorem ta0_7 (w : World) : (Instr.typeAssert (.nilIface) 20 153 true).run Tryd.prog w = .ok (.tuple #[.nilIface, .bool false]) w := by kernel_rfl
theorem ta0_8 (w : World) : (Instr.typeAssert (.nilIface) 20 156 true).run Tryd.prog w = .ok (.tuple #[.nilIface, .bool false]) w := by kernel_rfl
theorem ta0_9 (w : World) : (Instr.typeAssert (.nilIface) 20 159 true).run Tryd.prog w = .ok (.tuple #[.nilIface, .bool false]) w := by kernel_rfl
theorem tb0 (w : World) : (Instr.typeAssert (.nilIface) 20 98 true).run Tryd.prog w = .ok (.tuple #[.pointer none, .bool false]) w := by kernel_rfl
theorem tn0 (w : World) : (binOp .neq 20 (.nilIface) .nilIface).run Tryd.prog w = .ok (.bool false) w := by kernel_rfl
theorem tg0 (w : World) : (eqGuard .neq 20 (.tmp 16) (.const .nilIface) (.nilIface) .nilIface).run Tryd.prog w = .ok () w := by kernel_rfl
theorem ta1_0 (w : World) : (Instr.typeAssert (.iface 113 (.int .i64 0)) 20 132 true).run Tryd.prog w = .ok (.tuple #[.nilIface, .bool false]) w := by
  obtain ⟨m, hm⟩ := missing_some #[("conduit/want.size", 1)] Tryd.t113.methods "conduit/want.size" [] (by kernel_rfl)
  unfold Instr.typeAssert
  go_simp
theorem ta1_1 (w : World) : (Instr.typeAssert (.iface 113 (.int .i64 0)) 20 135 true).run Tryd.prog w = .ok (.tuple #[.nilIface, .bool false]) w := by
  obtain ⟨m, hm⟩ := missing_some #[("conduit/want.label", 1)] Tryd.t113.methods "conduit/want.label" [] (by kernel_rfl)
  unfold Instr.typeAssert
  go_simp
theorem ta1_2 (w : World) : (Instr.typeAssert (.iface 113 (.int .i64 0)) 20 138 true).run Tryd.prog w = .ok (.tuple #[.nilIface, .bool false]) w := by
  obtain ⟨m, hm⟩ := missing_some #[("conduit/want.words", 1)] Tryd.t113.methods "conduit/want.words" [] (by kernel_rfl)
  unfold Instr.typeAssert
  go_simp
theorem ta1_3 (w : World) : (Instr.typeAssert (.iface 113 (.int .i64 0)) 20 141 true).run Tryd.prog w = .ok (.tuple #[.nilIface, .bool false]) w := by
  obtain ⟨m, hm⟩ := missing_some #[("conduit/want.open", 1)] Tryd.t113.methods "conduit/want.open" [] (by kernel_rfl)
  unfold Instr.typeAssert
  go_simp
theorem ta1_4 (w : World) : (Instr.typeAssert (.iface 113 (.int .i64 0)) 20 144 true).run Tryd.prog w = .ok (.tuple #[(.iface 113 (.int .i64 0)), .bool true]) w := by kernel_rfl
theorem ta1_5 (w : World) : (Instr.typeAssert (.iface 113 (.int .i64 0)) 20 147 true).run Tryd.prog w = .ok (.tuple #[(.iface 113 (.int .i64 0)), .bool true]) w := by kernel_rfl
theorem ta1_6 (w : World) : (Instr.typeAssert (.iface 113 (.int .i64 0)) 20 150 true).run Tryd.prog w = .ok (.tuple #[.nilIface, .bool false]) w := by
  obtain ⟨m, hm⟩ := missing_some #[("conduit/want.label", 1), ("conduit/want.size", 1)] Tryd.t113.methods "conduit/want.label" ["conduit/want.size"] (by kernel_rfl)
  unfold Instr.typeAssert
  go_simp
theorem ta1_7 (w : World) : (Instr.typeAssert (.iface 113 (.int .i64 0)) 20 153 true).run Tryd.prog w = .ok (.tuple #[.nilIface, .bool false]) w := by
  obtain ⟨m, hm⟩ := missing_some #[("conduit/want.less", 1), ("conduit/want.size", 1)] Tryd.t113.methods "conduit/want.size" [] (by kernel_rfl)
  unfold Instr.typeAssert
  go_simp
theorem ta1_8 (w : World) : (Instr.typeAssert (.iface 113 (.int .i64 0)) 20 156 true).run Tryd.prog w = .ok (.tuple #[(.iface 113 (.int .i64 0)), .bool true]) w := by kernel_rfl
theorem ta1_9 (w : World) : (Instr.typeAssert (.iface 113 (.int .i64 0)) 20 159 true).run Tryd.prog w = .ok (.tuple #[.nilIface, .bool false]) w := by
  obtain ⟨m, hm⟩ := missing_some #[("conduit/want.label", 1), ("conduit/want.less", 1), ("conduit/want.size", 1)] Tryd.t113.methods "conduit/want.label" ["conduit/want.size"] (by kernel_rfl)
  unfold Instr.typeAssert
  go_simp
theorem tb1 (w : World) : (Instr.typeAssert (.iface 113 (.int .i64 0)) 20 98 true).run Tryd.prog w = .ok (.tuple #[.pointer none, .bool false]) w := by kernel_rfl
theorem tn1 (w : World) : (binOp .neq 20 (.iface 113 (.int .i64 0)) .nilIface).run Tryd.prog w = .ok (.bool true) w := by kernel_rfl
theorem tg1 (w : World) : (eqGuard .neq 20 (.tmp 16) (.const .nilIface) (.iface 113 (.int .i64 0)) .nilIface).run Tryd.prog w = .ok () w := by kernel_rfl
theorem ta2_0 (w : World) : (Instr.typeAssert (.iface 114 (.int .i64 0)) 20 132 true).run Tryd.prog w = .ok (.tuple #[.nilIface, .bool false]) w := by
  obtain ⟨m, hm⟩ := missing_some #[("conduit/want.size", 1)] Tryd.t114.methods "conduit/want.size" [] (by kernel_rfl)
  unfold Instr.typeAssert
  go_simp
theorem ta2_1 (w : World) : (Instr.typeAssert (.iface 114 (.int .i64 0)) 20 135 true).run Tryd.prog w = .ok (.tuple #[(.iface 114 (.int .i64 0)), .bool true]) w := by kernel_rfl
theorem ta2_2 (w : World) : (Instr.typeAssert (.iface 114 (.int .i64 0)) 20 138 true).run Tryd.prog w = .ok (.tuple #[.nilIface, .bool false]) w := by
  obtain ⟨m, hm⟩ := missing_some #[("conduit/want.words", 1)] Tryd.t114.methods "conduit/want.words" [] (by kernel_rfl)
  unfold Instr.typeAssert
  go_simp
theorem ta2_3 (w : World) : (Instr.typeAssert (.iface 114 (.int .i64 0)) 20 141 true).run Tryd.prog w = .ok (.tuple #[.nilIface, .bool false]) w := by
  obtain ⟨m, hm⟩ := missing_some #[("conduit/want.open", 1)] Tryd.t114.methods "conduit/want.open" [] (by kernel_rfl)
  unfold Instr.typeAssert
  go_simp
theorem ta2_4 (w : World) : (Instr.typeAssert (.iface 114 (.int .i64 0)) 20 144 true).run Tryd.prog w = .ok (.tuple #[(.iface 114 (.int .i64 0)), .bool true]) w := by kernel_rfl
theorem ta2_5 (w : World) : (Instr.typeAssert (.iface 114 (.int .i64 0)) 20 147 true).run Tryd.prog w = .ok (.tuple #[.nilIface, .bool false]) w := by
  obtain ⟨m, hm⟩ := missing_some #[("conduit/want.add", 1)] Tryd.t114.methods "conduit/want.add" [] (by kernel_rfl)
  unfold Instr.typeAssert
  go_simp
theorem ta2_6 (w : World) : (Instr.typeAssert (.iface 114 (.int .i64 0)) 20 150 true).run Tryd.prog w = .ok (.tuple #[.nilIface, .bool false]) w := by
  obtain ⟨m, hm⟩ := missing_some #[("conduit/want.label", 1), ("conduit/want.size", 1)] Tryd.t114.methods "conduit/want.size" [] (by kernel_rfl)
  unfold Instr.typeAssert
  go_simp
theorem ta2_7 (w : World) : (Instr.typeAssert (.iface 114 (.int .i64 0)) 20 153 true).run Tryd.prog w = .ok (.tuple #[.nilIface, .bool false]) w := by
  obtain ⟨m, hm⟩ := missing_some #[("conduit/want.less", 1), ("conduit/want.size", 1)] Tryd.t114.methods "conduit/want.size" [] (by kernel_rfl)
  unfold Instr.typeAssert
  go_simp
theorem ta2_8 (w : World) : (Instr.typeAssert (.iface 114 (.int .i64 0)) 20 156 true).run Tryd.prog w = .ok (.tuple #[.nilIface, .bool false]) w := by
  obtain ⟨m, hm⟩ := missing_some #[("conduit/want.add", 1), ("conduit/want.less", 1)] Tryd.t114.methods "conduit/want.add" [] (by kernel_rfl)
  unfold Instr.typeAssert
  go_simp
theorem ta2_9 (w : World) : (Instr.typeAssert (.iface 114 (.int .i64 0)) 20 159 true).run Tryd.prog w = .ok (.tuple #[.nilIface, .bool false]) w := by
  obtain ⟨m, hm⟩ := missing_some #[("conduit/want.label", 1), ("conduit/want.less", 1), ("conduit/want.size", 1)] Tryd.t114.methods "conduit/want.size" [] (by kernel_rfl)
  unfold Instr.typeAssert
  go_simp
theorem tb2 (w : World) : (Instr.typeAssert (.iface 114 (.int .i64 0)) 20 98 true).run Tryd.prog w = .ok (.tuple #[.pointer none, .bool false]) w := by kernel_rfl
theorem tn2 (w : World) : (binOp .neq 20 (.iface 114 (.int .i64 0)) .nilIface).run Tryd.prog w = .ok (.bool true) w := by kernel_rfl
theorem tg2 (w : World) : (eqGuard .neq 20 (.tmp 16) (.const .nilIface) (.iface 114 (.int .i64 0)) .nilIface).run Tryd.prog w = .ok () w := by kernel_rfl
theorem ta3_0 (w : World) : (Instr.typeAssert (.iface 116 (.float .f64 0)) 20 132 true).run Tryd.prog w = .ok (.tuple #[.nilIface, .bool false]) w := by
  obtain ⟨m, hm⟩ := missing_some #[("conduit/want.size", 1)] Tryd.t116.methods "conduit/want.size" [] (by kernel_rfl)
  unfold Instr.typeAssert
  go_simp
theorem ta3_1 (w : World) : (Instr.typeAssert (.iface 116 (.float .f64 0)) 20 135 true).run Tryd.prog w = .ok (.tuple #[.nilIface, .bool false]) w := by
  obtain ⟨m, hm⟩ := missing_some #[("conduit/want.label", 1)] Tryd.t116.methods "conduit/want.label" [] (by kernel_rfl)
  unfold Instr.typeAssert
  go_simp
theorem ta3_2 (w : World) : (Instr.typeAssert (.iface 116 (.float .f64 0)) 20 138 true).run Tryd.prog w = .ok (.tuple #[.nilIface, .bool false]) w := by
  obtain ⟨m, hm⟩ := missing_some #[("conduit/want.words", 1)] Tryd.t116.methods "conduit/want.words" [] (by kernel_rfl)
  unfold Instr.typeAssert
  go_simp
theorem ta3_3 (w : World) : (Instr.typeAssert (.iface 116 (.float .f64 0)) 20 141 true).run Tryd.prog w = .ok (.tuple #[.nilIface, .bool false]) w := by
  obtain ⟨m, hm⟩ := missing_some #[("conduit/want.open", 1)] Tryd.t116.methods "conduit/want.open" [] (by kernel_rfl)
  unfold Instr.typeAssert
  go_simp
theorem ta3_4 (w : World) : (Instr.typeAssert (.iface 116 (.float .f64 0)) 20 144 true).run Tryd.prog w = .ok (.tuple #[(.iface 116 (.float .f64 0)), .bool true]) w := by kernel_rfl
theorem ta3_5 (w : World) : (Instr.typeAssert (.iface 116 (.float .f64 0)) 20 147 true).run Tryd.prog w = .ok (.tuple #[(.iface 116 (.float .f64 0)), .bool true]) w := by kernel_rfl
theorem ta3_6 (w : World) : (Instr.typeAssert (.iface 116 (.float .f64 0)) 20 150 true).run Tryd.prog w = .ok (.tuple #[.nilIface, .bool false]) w := by
  obtain ⟨m, hm⟩ := missing_some #[("conduit/want.label", 1), ("conduit/want.size", 1)] Tryd.t116.methods "conduit/want.label" ["conduit/want.size"] (by kernel_rfl)
  unfold Instr.typeAssert
  go_simp
theorem ta3_7 (w : World) : (Instr.typeAssert (.iface 116 (.float .f64 0)) 20 153 true).run Tryd.prog w = .ok (.tuple #[.nilIface, .bool false]) w := by
  obtain ⟨m, hm⟩ := missing_some #[("conduit/want.less", 1), ("conduit/want.size", 1)] Tryd.t116.methods "conduit/want.size" [] (by kernel_rfl)
  unfold Instr.typeAssert
  go_simp
theorem ta3_8 (w : World) : (Instr.typeAssert (.iface 116 (.float .f64 0)) 20 156 true).run Tryd.prog w = .ok (.tuple #[(.iface 116 (.float .f64 0)), .bool true]) w := by kernel_rfl
theorem ta3_9 (w : World) : (Instr.typeAssert (.iface 116 (.float .f64 0)) 20 159 true).run Tryd.prog w = .ok (.tuple #[.nilIface, .bool false]) w := by
  obtain ⟨m, hm⟩ := missing_some #[("conduit/want.label", 1), ("conduit/want.less", 1), ("conduit/want.size", 1)] Tryd.t116.methods "conduit/want.label" ["conduit/want.size"] (by kernel_rfl)
  unfold Instr.typeAssert
  go_simp
theorem tb3 (w : World) : (Instr.typeAssert (.iface 116 (.float .f64 0)) 20 98 true).run Tryd.prog w = .ok (.tuple #[.pointer none, .bool false]) w := by kernel_rfl
theorem tn3 (w : World) : (binOp .neq 20 (.iface 116 (.float .f64 0)) .nilIface).run Tryd.prog w = .ok (.bool true) w := by kernel_rfl
theorem tg3 (w : World) : (eqGuard .neq 20 (.tmp 16) (.const .nilIface) (.iface 116 (.float .f64 0)) .nilIface).run Tryd.prog w = .ok () w := by kernel_rfl
theorem ta4_0 (w : World) : (Instr.typeAssert (.iface 117 (.string ⟨#[]⟩)) 20 132 true).run Tryd.prog w = .ok (.tuple #[(.iface 117 (.string ⟨#[]⟩)), .bool true]) w := by kernel_rfl
theorem ta4_1 (w : World) : (Instr.typeAssert (.iface 117 (.string ⟨#[]⟩)) 20 135 true).run Tryd.prog w = .ok (.tuple #[.nilIface, .bool false]) w := by
  obtain ⟨m, hm⟩ := missing_some #[("conduit/want.label", 1)] Tryd.t117.methods "conduit/want.label" [] (by kernel_rfl)
  unfold Instr.typeAssert
  go_simp
theorem ta4_2 (w : World) : (Instr.typeAssert (.iface 117 (.string ⟨#[]⟩)) 20 138 true).run Tryd.prog w = .ok (.tuple #[.nilIface, .bool false]) w := by
  obtain ⟨m, hm⟩ := missing_some #[("conduit/want.words", 1)] Tryd.t117.methods "conduit/want.words" [] (by kernel_rfl)
  unfold Instr.typeAssert
  go_simp
theorem ta4_3 (w : World) : (Instr.typeAssert (.iface 117 (.string ⟨#[]⟩)) 20 141 true).run Tryd.prog w = .ok (.tuple #[.nilIface, .bool false]) w := by
  obtain ⟨m, hm⟩ := missing_some #[("conduit/want.open", 1)] Tryd.t117.methods "conduit/want.open" [] (by kernel_rfl)
  unfold Instr.typeAssert
  go_simp
theorem ta4_4 (w : World) : (Instr.typeAssert (.iface 117 (.string ⟨#[]⟩)) 20 144 true).run Tryd.prog w = .ok (.tuple #[(.iface 117 (.string ⟨#[]⟩)), .bool true]) w := by kernel_rfl
theorem ta4_5 (w : World) : (Instr.typeAssert (.iface 117 (.string ⟨#[]⟩)) 20 147 true).run Tryd.prog w = .ok (.tuple #[.nilIface, .bool false]) w := by
  obtain ⟨m, hm⟩ := missing_some #[("conduit/want.add", 1)] Tryd.t117.methods "conduit/want.add" [] (by kernel_rfl)
  unfold Instr.typeAssert
  go_simp
theorem ta4_6 (w : World) : (Instr.typeAssert (.iface 117 (.string ⟨#[]⟩)) 20 150 true).run Tryd.prog w = .ok (.tuple #[.nilIface, .bool false]) w := by
  obtain ⟨m, hm⟩ := missing_some #[("conduit/want.label", 1), ("conduit/want.size", 1)] Tryd.t117.methods "conduit/want.label" [] (by kernel_rfl)
  unfold Instr.typeAssert
  go_simp
theorem ta4_7 (w : World) : (Instr.typeAssert (.iface 117 (.string ⟨#[]⟩)) 20 153 true).run Tryd.prog w = .ok (.tuple #[(.iface 117 (.string ⟨#[]⟩)), .bool true]) w := by kernel_rfl
theorem ta4_8 (w : World) : (Instr.typeAssert (.iface 117 (.string ⟨#[]⟩)) 20 156 true).run Tryd.prog w = .ok (.tuple #[.nilIface, .bool false]) w := by
  obtain ⟨m, hm⟩ := missing_some #[("conduit/want.add", 1), ("conduit/want.less", 1)] Tryd.t117.methods "conduit/want.add" [] (by kernel_rfl)
  unfold Instr.typeAssert
  go_simp
theorem ta4_9 (w : World) : (Instr.typeAssert (.iface 117 (.string ⟨#[]⟩)) 20 159 true).run Tryd.prog w = .ok (.tuple #[.nilIface, .bool false]) w := by
  obtain ⟨m, hm⟩ := missing_some #[("conduit/want.label", 1), ("conduit/want.less", 1), ("conduit/want.size", 1)] Tryd.t117.methods "conduit/want.label" [] (by kernel_rfl)
  unfold Instr.typeAssert
  go_simp
theorem tb4 (w : World) : (Instr.typeAssert (.iface 117 (.string ⟨#[]⟩)) 20 98 true).run Tryd.prog w = .ok (.tuple #[.pointer none, .bool false]) w := by kernel_rfl
theorem tn4 (w : World) : (binOp .neq 20 (.iface 117 (.string ⟨#[]⟩)) .nilIface).run Tryd.prog w = .ok (.bool true) w := by kernel_rfl
theorem tg4 (w : World) : (eqGuard .neq 20 (.tmp 16) (.const .nilIface) (.iface 117 (.string ⟨#[]⟩)) .nilIface).run Tryd.prog w = .ok () w := by kernel_rfl
theorem ta5_0 (w : World) : (Instr.typeAssert (.iface 118 (.string ⟨#[]⟩)) 20 132 true).run Tryd.prog w = .ok (.tuple #[(.iface 118 (.string ⟨#[]⟩)), .bool true]) w := by kernel_rfl
theorem ta5_1 (w : World) : (Instr.typeAssert (.iface 118 (.string ⟨#[]⟩)) 20 135 true).run Tryd.prog w = .ok (.tuple #[(.iface 118 (.string ⟨#[]⟩)), .bool true]) w := by kernel_rfl
theorem ta5_2 (w : World) : (Instr.typeAssert (.iface 118 (.string ⟨#[]⟩)) 20 138 true).run Tryd.prog w = .ok (.tuple #[.nilIface, .bool false]) w := by
  obtain ⟨m, hm⟩ := missing_some #[("conduit/want.words", 1)] Tryd.t118.methods "conduit/want.words" [] (by kernel_rfl)
  unfold Instr.typeAssert
  go_simp
theorem ta5_3 (w : World) : (Instr.typeAssert (.iface 118 (.string ⟨#[]⟩)) 20 141 true).run Tryd.prog w = .ok (.tuple #[.nilIface, .bool false]) w := by
  obtain ⟨m, hm⟩ := missing_some #[("conduit/want.open", 1)] Tryd.t118.methods "conduit/want.open" [] (by kernel_rfl)
  unfold Instr.typeAssert
  go_simp
theorem ta5_4 (w : World) : (Instr.typeAssert (.iface 118 (.string ⟨#[]⟩)) 20 144 true).run Tryd.prog w = .ok (.tuple #[(.iface 118 (.string ⟨#[]⟩)), .bool true]) w := by kernel_rfl
theorem ta5_5 (w : World) : (Instr.typeAssert (.iface 118 (.string ⟨#[]⟩)) 20 147 true).run Tryd.prog w = .ok (.tuple #[.nilIface, .bool false]) w := by
  obtain ⟨m, hm⟩ := missing_some #[("conduit/want.add", 1)] Tryd.t118.methods "conduit/want.add" [] (by kernel_rfl)
  unfold Instr.typeAssert
  go_simp
theorem ta5_6 (w : World) : (Instr.typeAssert (.iface 118 (.string ⟨#[]⟩)) 20 150 true).run Tryd.prog w = .ok (.tuple #[(.iface 118 (.string ⟨#[]⟩)), .bool true]) w := by kernel_rfl
theorem ta5_7 (w : World) : (Instr.typeAssert (.iface 118 (.string ⟨#[]⟩)) 20 153 true).run Tryd.prog w = .ok (.tuple #[(.iface 118 (.string ⟨#[]⟩)), .bool true]) w := by kernel_rfl
theorem ta5_8 (w : World) : (Instr.typeAssert (.iface 118 (.string ⟨#[]⟩)) 20 156 true).run Tryd.prog w = .ok (.tuple #[.nilIface, .bool false]) w := by
  obtain ⟨m, hm⟩ := missing_some #[("conduit/want.add", 1), ("conduit/want.less", 1)] Tryd.t118.methods "conduit/want.add" [] (by kernel_rfl)
  unfold Instr.typeAssert
  go_simp
theorem ta5_9 (w : World) : (Instr.typeAssert (.iface 118 (.string ⟨#[]⟩)) 20 159 true).run Tryd.prog w = .ok (.tuple #[(.iface 118 (.string ⟨#[]⟩)), .bool true]) w := by kernel_rfl
theorem tb5 (w : World) : (Instr.typeAssert (.iface 118 (.string ⟨#[]⟩)) 20 98 true).run Tryd.prog w = .ok (.tuple #[.pointer none, .bool false]) w := by kernel_rfl
theorem tn5 (w : World) : (binOp .neq 20 (.iface 118 (.string ⟨#[]⟩)) .nilIface).run Tryd.prog w = .ok (.bool true) w := by kernel_rfl
theorem tg5 (w : World) : (eqGuard .neq 20 (.tmp 16) (.const .nilIface) (.iface 118 (.string ⟨#[]⟩)) .nilIface).run Tryd.prog w = .ok () w := by kernel_rfl
theorem ta6_0 (w : World) : (Instr.typeAssert (.iface 119 (.bool false)) 20 132 true).run Tryd.prog w = .ok (.tuple #[.nilIface, .bool false]) w := by
  obtain ⟨m, hm⟩ := missing_some #[("conduit/want.size", 1)] Tryd.t119.methods "conduit/want.size" [] (by kernel_rfl)
  unfold Instr.typeAssert
  go_simp
theorem ta6_1 (w : World) : (Instr.typeAssert (.iface 119 (.bool false)) 20 135 true).run Tryd.prog w = .ok (.tuple #[.nilIface, .bool false]) w := by
  obtain ⟨m, hm⟩ := missing_some #[("conduit/want.label", 1)] Tryd.t119.methods "conduit/want.label" [] (by kernel_rfl)
  unfold Instr.typeAssert
  go_simp
theorem ta6_2 (w : World) : (Instr.typeAssert (.iface 119 (.bool false)) 20 138 true).run Tryd.prog w = .ok (.tuple #[.nilIface, .bool false]) w := by
  obtain ⟨m, hm⟩ := missing_some #[("conduit/want.words", 1)] Tryd.t119.methods "conduit/want.words" [] (by kernel_rfl)
  unfold Instr.typeAssert
  go_simp
theorem ta6_3 (w : World) : (Instr.typeAssert (.iface 119 (.bool false)) 20 141 true).run Tryd.prog w = .ok (.tuple #[.nilIface, .bool false]) w := by
  obtain ⟨m, hm⟩ := missing_some #[("conduit/want.open", 1)] Tryd.t119.methods "conduit/want.open" [] (by kernel_rfl)
  unfold Instr.typeAssert
  go_simp
theorem ta6_4 (w : World) : (Instr.typeAssert (.iface 119 (.bool false)) 20 144 true).run Tryd.prog w = .ok (.tuple #[.nilIface, .bool false]) w := by
  obtain ⟨m, hm⟩ := missing_some #[("conduit/want.less", 1)] Tryd.t119.methods "conduit/want.less" [] (by kernel_rfl)
  unfold Instr.typeAssert
  go_simp
theorem ta6_5 (w : World) : (Instr.typeAssert (.iface 119 (.bool false)) 20 147 true).run Tryd.prog w = .ok (.tuple #[.nilIface, .bool false]) w := by
  obtain ⟨m, hm⟩ := missing_some #[("conduit/want.add", 1)] Tryd.t119.methods "conduit/want.add" [] (by kernel_rfl)
  unfold Instr.typeAssert
  go_simp
theorem ta6_6 (w : World) : (Instr.typeAssert (.iface 119 (.bool false)) 20 150 true).run Tryd.prog w = .ok (.tuple #[.nilIface, .bool false]) w := by
  obtain ⟨m, hm⟩ := missing_some #[("conduit/want.label", 1), ("conduit/want.size", 1)] Tryd.t119.methods "conduit/want.label" ["conduit/want.size"] (by kernel_rfl)
  unfold Instr.typeAssert
  go_simp
theorem ta6_7 (w : World) : (Instr.typeAssert (.iface 119 (.bool false)) 20 153 true).run Tryd.prog w = .ok (.tuple #[.nilIface, .bool false]) w := by
  obtain ⟨m, hm⟩ := missing_some #[("conduit/want.less", 1), ("conduit/want.size", 1)] Tryd.t119.methods "conduit/want.less" ["conduit/want.size"] (by kernel_rfl)
  unfold Instr.typeAssert
  go_simp
theorem ta6_8 (w : World) : (Instr.typeAssert (.iface 119 (.bool false)) 20 156 true).run Tryd.prog w = .ok (.tuple #[.nilIface, .bool false]) w := by
  obtain ⟨m, hm⟩ := missing_some #[("conduit/want.add", 1), ("conduit/want.less", 1)] Tryd.t119.methods "conduit/want.add" ["conduit/want.less"] (by kernel_rfl)
  unfold Instr.typeAssert
  go_simp
theorem ta6_9 (w : World) : (Instr.typeAssert (.iface 119 (.bool false)) 20 159 true).run Tryd.prog w = .ok (.tuple #[.nilIface, .bool false]) w := by
  obtain ⟨m, hm⟩ := missing_some #[("conduit/want.label", 1), ("conduit/want.less", 1), ("conduit/want.size", 1)] Tryd.t119.methods "conduit/want.label" ["conduit/want.less", "conduit/want.size"] (by kernel_rfl)
  unfold Instr.typeAssert
  go_simp
theorem tb6 (w : World) : (Instr.typeAssert (.iface 119 (.bool false)) 20 98 true).run Tryd.prog w = .ok (.tuple #[.pointer none, .bool false]) w := by kernel_rfl
theorem tn6 (w : World) : (binOp .neq 20 (.iface 119 (.bool false)) .nilIface).run Tryd.prog w = .ok (.bool true) w := by kernel_rfl
theorem tg6 (w : World) : (eqGuard .neq 20 (.tmp 16) (.const .nilIface) (.iface 119 (.bool false)) .nilIface).run Tryd.prog w = .ok () w := by kernel_rfl
theorem ta7_0 (w : World) : (Instr.typeAssert (.iface 120 (.slice none 0 0)) 20 132 true).run Tryd.prog w = .ok (.tuple #[(.iface 120 (.slice none 0 0)), .bool true]) w := by kernel_rfl
theorem ta7_1 (w : World) : (Instr.typeAssert (.iface 120 (.slice none 0 0)) 20 135 true).run Tryd.prog w = .ok (.tuple #[.nilIface, .bool false]) w := by
  obtain ⟨m, hm⟩ := missing_some #[("conduit/want.label", 1)] Tryd.t120.methods "conduit/want.label" [] (by kernel_rfl)
  unfold Instr.typeAssert
  go_simp
theorem ta7_2 (w : World) : (Instr.typeAssert (.iface 120 (.slice none 0 0)) 20 138 true).run Tryd.prog w = .ok (.tuple #[.nilIface, .bool false]) w := by
  obtain ⟨m, hm⟩ := missing_some #[("conduit/want.words", 1)] Tryd.t120.methods "conduit/want.words" [] (by kernel_rfl)
  unfold Instr.typeAssert
  go_simp
theorem ta7_3 (w : World) : (Instr.typeAssert (.iface 120 (.slice none 0 0)) 20 141 true).run Tryd.prog w = .ok (.tuple #[.nilIface, .bool false]) w := by
  obtain ⟨m, hm⟩ := missing_some #[("conduit/want.open", 1)] Tryd.t120.methods "conduit/want.open" [] (by kernel_rfl)
  unfold Instr.typeAssert
  go_simp
theorem ta7_4 (w : World) : (Instr.typeAssert (.iface 120 (.slice none 0 0)) 20 144 true).run Tryd.prog w = .ok (.tuple #[.nilIface, .bool false]) w := by
  obtain ⟨m, hm⟩ := missing_some #[("conduit/want.less", 1)] Tryd.t120.methods "conduit/want.less" [] (by kernel_rfl)
  unfold Instr.typeAssert
  go_simp
theorem ta7_5 (w : World) : (Instr.typeAssert (.iface 120 (.slice none 0 0)) 20 147 true).run Tryd.prog w = .ok (.tuple #[.nilIface, .bool false]) w := by
  obtain ⟨m, hm⟩ := missing_some #[("conduit/want.add", 1)] Tryd.t120.methods "conduit/want.add" [] (by kernel_rfl)
  unfold Instr.typeAssert
  go_simp
theorem ta7_6 (w : World) : (Instr.typeAssert (.iface 120 (.slice none 0 0)) 20 150 true).run Tryd.prog w = .ok (.tuple #[.nilIface, .bool false]) w := by
  obtain ⟨m, hm⟩ := missing_some #[("conduit/want.label", 1), ("conduit/want.size", 1)] Tryd.t120.methods "conduit/want.label" [] (by kernel_rfl)
  unfold Instr.typeAssert
  go_simp
theorem ta7_7 (w : World) : (Instr.typeAssert (.iface 120 (.slice none 0 0)) 20 153 true).run Tryd.prog w = .ok (.tuple #[.nilIface, .bool false]) w := by
  obtain ⟨m, hm⟩ := missing_some #[("conduit/want.less", 1), ("conduit/want.size", 1)] Tryd.t120.methods "conduit/want.less" [] (by kernel_rfl)
  unfold Instr.typeAssert
  go_simp
theorem ta7_8 (w : World) : (Instr.typeAssert (.iface 120 (.slice none 0 0)) 20 156 true).run Tryd.prog w = .ok (.tuple #[.nilIface, .bool false]) w := by
  obtain ⟨m, hm⟩ := missing_some #[("conduit/want.add", 1), ("conduit/want.less", 1)] Tryd.t120.methods "conduit/want.add" ["conduit/want.less"] (by kernel_rfl)
  unfold Instr.typeAssert
  go_simp
theorem ta7_9 (w : World) : (Instr.typeAssert (.iface 120 (.slice none 0 0)) 20 159 true).run Tryd.prog w = .ok (.tuple #[.nilIface, .bool false]) w := by
  obtain ⟨m, hm⟩ := missing_some #[("conduit/want.label", 1), ("conduit/want.less", 1), ("conduit/want.size", 1)] Tryd.t120.methods "conduit/want.label" ["conduit/want.less"] (by kernel_rfl)
  unfold Instr.typeAssert
  go_simp
theorem tb7 (w : World) : (Instr.typeAssert (.iface 120 (.slice none 0 0)) 20 98 true).run Tryd.prog w = .ok (.tuple #[.pointer none, .bool false]) w := by kernel_rfl
theorem tn7 (w : World) : (binOp .neq 20 (.iface 120 (.slice none 0 0)) .nilIface).run Tryd.prog w = .ok (.bool true) w := by kernel_rfl
theorem tg7 (w : World) : (eqGuard .neq 20 (.tmp 16) (.const .nilIface) (.iface 120 (.slice none 0 0)) .nilIface).run Tryd.prog w = .ok () w := by kernel_rfl
theorem ta8_0 (w : World) : (Instr.typeAssert (.iface 122 (.slice none 0 0)) 20 132 true).run Tryd.prog w = .ok (.tuple #[(.iface 122 (.slice none 0 0)), .bool true]) w := by kernel_rfl
theorem ta8_1 (w : World) : (Instr.typeAssert (.iface 122 (.slice none 0 0)) 20 135 true).run Tryd.prog w = .ok (.tuple #[.nilIface, .bool false]) w := by
  obtain ⟨m, hm⟩ := missing_some #[("conduit/want.label", 1)] Tryd.t122.methods "conduit/want.label" [] (by kernel_rfl)
  unfold Instr.typeAssert
  go_simp
theorem ta8_2 (w : World) : (Instr.typeAssert (.iface 122 (.slice none 0 0)) 20 138 true).run Tryd.prog w = .ok (.tuple #[.nilIface, .bool false]) w := by
  obtain ⟨m, hm⟩ := missing_some #[("conduit/want.words", 1)] Tryd.t122.methods "conduit/want.words" [] (by kernel_rfl)
  unfold Instr.typeAssert
  go_simp
theorem ta8_3 (w : World) : (Instr.typeAssert (.iface 122 (.slice none 0 0)) 20 141 true).run Tryd.prog w = .ok (.tuple #[.nilIface, .bool false]) w := by
  obtain ⟨m, hm⟩ := missing_some #[("conduit/want.open", 1)] Tryd.t122.methods "conduit/want.open" [] (by kernel_rfl)
  unfold Instr.typeAssert
  go_simp
theorem ta8_4 (w : World) : (Instr.typeAssert (.iface 122 (.slice none 0 0)) 20 144 true).run Tryd.prog w = .ok (.tuple #[.nilIface, .bool false]) w := by
  obtain ⟨m, hm⟩ := missing_some #[("conduit/want.less", 1)] Tryd.t122.methods "conduit/want.less" [] (by kernel_rfl)
  unfold Instr.typeAssert
  go_simp
theorem ta8_5 (w : World) : (Instr.typeAssert (.iface 122 (.slice none 0 0)) 20 147 true).run Tryd.prog w = .ok (.tuple #[.nilIface, .bool false]) w := by
  obtain ⟨m, hm⟩ := missing_some #[("conduit/want.add", 1)] Tryd.t122.methods "conduit/want.add" [] (by kernel_rfl)
  unfold Instr.typeAssert
  go_simp
theorem ta8_6 (w : World) : (Instr.typeAssert (.iface 122 (.slice none 0 0)) 20 150 true).run Tryd.prog w = .ok (.tuple #[.nilIface, .bool false]) w := by
  obtain ⟨m, hm⟩ := missing_some #[("conduit/want.label", 1), ("conduit/want.size", 1)] Tryd.t122.methods "conduit/want.label" [] (by kernel_rfl)
  unfold Instr.typeAssert
  go_simp
theorem ta8_7 (w : World) : (Instr.typeAssert (.iface 122 (.slice none 0 0)) 20 153 true).run Tryd.prog w = .ok (.tuple #[.nilIface, .bool false]) w := by
  obtain ⟨m, hm⟩ := missing_some #[("conduit/want.less", 1), ("conduit/want.size", 1)] Tryd.t122.methods "conduit/want.less" [] (by kernel_rfl)
  unfold Instr.typeAssert
  go_simp
theorem ta8_8 (w : World) : (Instr.typeAssert (.iface 122 (.slice none 0 0)) 20 156 true).run Tryd.prog w = .ok (.tuple #[.nilIface, .bool false]) w := by
  obtain ⟨m, hm⟩ := missing_some #[("conduit/want.add", 1), ("conduit/want.less", 1)] Tryd.t122.methods "conduit/want.add" ["conduit/want.less"] (by kernel_rfl)
  unfold Instr.typeAssert
  go_simp
theorem ta8_9 (w : World) : (Instr.typeAssert (.iface 122 (.slice none 0 0)) 20 159 true).run Tryd.prog w = .ok (.tuple #[.nilIface, .bool false]) w := by
  obtain ⟨m, hm⟩ := missing_some #[("conduit/want.label", 1), ("conduit/want.less", 1), ("conduit/want.size", 1)] Tryd.t122.methods "conduit/want.label" ["conduit/want.less"] (by kernel_rfl)
  unfold Instr.typeAssert
  go_simp
theorem tb8 (w : World) : (Instr.typeAssert (.iface 122 (.slice none 0 0)) 20 98 true).run Tryd.prog w = .ok (.tuple #[.pointer none, .bool false]) w := by kernel_rfl
theorem tn8 (w : World) : (binOp .neq 20 (.iface 122 (.slice none 0 0)) .nilIface).run Tryd.prog w = .ok (.bool true) w := by kernel_rfl
theorem tg8 (w : World) : (eqGuard .neq 20 (.tmp 16) (.const .nilIface) (.iface 122 (.slice none 0 0)) .nilIface).run Tryd.prog w = .ok () w := by kernel_rfl
theorem ta9_0 (w : World) : (Instr.typeAssert (.iface 124 (.agg #[.nilIface, .nilIface])) 20 132 true).run Tryd.prog w = .ok (.tuple #[(.iface 124 (.agg #[.nilIface, .nilIface])), .bool true]) w := by kernel_rfl
theorem ta9_1 (w : World) : (Instr.typeAssert (.iface 124 (.agg #[.nilIface, .nilIface])) 20 135 true).run Tryd.prog w = .ok (.tuple #[.nilIface, .bool false]) w := by
  obtain ⟨m, hm⟩ := missing_some #[("conduit/want.label", 1)] Tryd.t124.methods "conduit/want.label" [] (by kernel_rfl)
  unfold Instr.typeAssert
  go_simp
theorem ta9_2 (w : World) : (Instr.typeAssert (.iface 124 (.agg #[.nilIface, .nilIface])) 20 138 true).run Tryd.prog w = .ok (.tuple #[.nilIface, .bool false]) w := by
  obtain ⟨m, hm⟩ := missing_some #[("conduit/want.words", 1)] Tryd.t124.methods "conduit/want.words" [] (by kernel_rfl)
  unfold Instr.typeAssert
  go_simp
theorem ta9_3 (w : World) : (Instr.typeAssert (.iface 124 (.agg #[.nilIface, .nilIface])) 20 141 true).run Tryd.prog w = .ok (.tuple #[.nilIface, .bool false]) w := by
  obtain ⟨m, hm⟩ := missing_some #[("conduit/want.open", 1)] Tryd.t124.methods "conduit/want.open" [] (by kernel_rfl)
  unfold Instr.typeAssert
  go_simp
theorem ta9_4 (w : World) : (Instr.typeAssert (.iface 124 (.agg #[.nilIface, .nilIface])) 20 144 true).run Tryd.prog w = .ok (.tuple #[.nilIface, .bool false]) w := by
  obtain ⟨m, hm⟩ := missing_some #[("conduit/want.less", 1)] Tryd.t124.methods "conduit/want.less" [] (by kernel_rfl)
  unfold Instr.typeAssert
  go_simp
theorem ta9_5 (w : World) : (Instr.typeAssert (.iface 124 (.agg #[.nilIface, .nilIface])) 20 147 true).run Tryd.prog w = .ok (.tuple #[.nilIface, .bool false]) w := by
  obtain ⟨m, hm⟩ := missing_some #[("conduit/want.add", 1)] Tryd.t124.methods "conduit/want.add" [] (by kernel_rfl)
  unfold Instr.typeAssert
  go_simp
theorem ta9_6 (w : World) : (Instr.typeAssert (.iface 124 (.agg #[.nilIface, .nilIface])) 20 150 true).run Tryd.prog w = .ok (.tuple #[.nilIface, .bool false]) w := by
  obtain ⟨m, hm⟩ := missing_some #[("conduit/want.label", 1), ("conduit/want.size", 1)] Tryd.t124.methods "conduit/want.label" [] (by kernel_rfl)
  unfold Instr.typeAssert
  go_simp
theorem ta9_7 (w : World) : (Instr.typeAssert (.iface 124 (.agg #[.nilIface, .nilIface])) 20 153 true).run Tryd.prog w = .ok (.tuple #[.nilIface, .bool false]) w := by
  obtain ⟨m, hm⟩ := missing_some #[("conduit/want.less", 1), ("conduit/want.size", 1)] Tryd.t124.methods "conduit/want.less" [] (by kernel_rfl)
  unfold Instr.typeAssert
  go_simp
theorem ta9_8 (w : World) : (Instr.typeAssert (.iface 124 (.agg #[.nilIface, .nilIface])) 20 156 true).run Tryd.prog w = .ok (.tuple #[.nilIface, .bool false]) w := by
  obtain ⟨m, hm⟩ := missing_some #[("conduit/want.add", 1), ("conduit/want.less", 1)] Tryd.t124.methods "conduit/want.add" ["conduit/want.less"] (by kernel_rfl)
  unfold Instr.typeAssert
  go_simp
theorem ta9_9 (w : World) : (Instr.typeAssert (.iface 124 (.agg #[.nilIface, .nilIface])) 20 159 true).run Tryd.prog w = .ok (.tuple #[.nilIface, .bool false]) w := by
  obtain ⟨m, hm⟩ := missing_some #[("conduit/want.label", 1), ("conduit/want.less", 1), ("conduit/want.size", 1)] Tryd.t124.methods "conduit/want.label" ["conduit/want.less"] (by kernel_rfl)
  unfold Instr.typeAssert
  go_simp
theorem tb9 (w : World) : (Instr.typeAssert (.iface 124 (.agg #[.nilIface, .nilIface])) 20 98 true).run Tryd.prog w = .ok (.tuple #[.pointer none, .bool false]) w := by kernel_rfl
theorem tn9 (w : World) : (binOp .neq 20 (.iface 124 (.agg #[.nilIface, .nilIface])) .nilIface).run Tryd.prog w = .ok (.bool true) w := by kernel_rfl
theorem tg9 (w : World) : (eqGuard .neq 20 (.tmp 16) (.const .nilIface) (.iface 124 (.agg #[.nilIface, .nilIface])) .nilIface).run Tryd.prog w = .ok () w := by kernel_rfl
theorem ta10_0 (w : World) : (Instr.typeAssert (.iface 126 (.agg #[.int .i64 0])) 20 132 true).run Tryd.prog w = .ok (.tuple #[.nilIface, .bool false]) w := by
  obtain ⟨m, hm⟩ := missing_some #[("conduit/want.size", 1)] Tryd.t126.methods "conduit/want.size" [] (by kernel_rfl)
  unfold Instr.typeAssert
  go_simp
theorem ta10_1 (w : World) : (Instr.typeAssert (.iface 126 (.agg #[.int .i64 0])) 20 135 true).run Tryd.prog w = .ok (.tuple #[(.iface 126 (.agg #[.int .i64 0])), .bool true]) w := by kernel_rfl
theorem ta10_2 (w : World) : (Instr.typeAssert (.iface 126 (.agg #[.int .i64 0])) 20 138 true).run Tryd.prog w = .ok (.tuple #[(.iface 126 (.agg #[.int .i64 0])), .bool true]) w := by kernel_rfl
theorem ta10_3 (w : World) : (Instr.typeAssert (.iface 126 (.agg #[.int .i64 0])) 20 141 true).run Tryd.prog w = .ok (.tuple #[.nilIface, .bool false]) w := by
  obtain ⟨m, hm⟩ := missing_some #[("conduit/want.open", 1)] Tryd.t126.methods "conduit/want.open" [] (by kernel_rfl)
  unfold Instr.typeAssert
  go_simp
theorem ta10_4 (w : World) : (Instr.typeAssert (.iface 126 (.agg #[.int .i64 0])) 20 144 true).run Tryd.prog w = .ok (.tuple #[.nilIface, .bool false]) w := by
  obtain ⟨m, hm⟩ := missing_some #[("conduit/want.less", 1)] Tryd.t126.methods "conduit/want.less" [] (by kernel_rfl)
  unfold Instr.typeAssert
  go_simp
theorem ta10_5 (w : World) : (Instr.typeAssert (.iface 126 (.agg #[.int .i64 0])) 20 147 true).run Tryd.prog w = .ok (.tuple #[.nilIface, .bool false]) w := by
  obtain ⟨m, hm⟩ := missing_some #[("conduit/want.add", 1)] Tryd.t126.methods "conduit/want.add" [] (by kernel_rfl)
  unfold Instr.typeAssert
  go_simp
theorem ta10_6 (w : World) : (Instr.typeAssert (.iface 126 (.agg #[.int .i64 0])) 20 150 true).run Tryd.prog w = .ok (.tuple #[.nilIface, .bool false]) w := by
  obtain ⟨m, hm⟩ := missing_some #[("conduit/want.label", 1), ("conduit/want.size", 1)] Tryd.t126.methods "conduit/want.size" [] (by kernel_rfl)
  unfold Instr.typeAssert
  go_simp
theorem ta10_7 (w : World) : (Instr.typeAssert (.iface 126 (.agg #[.int .i64 0])) 20 153 true).run Tryd.prog w = .ok (.tuple #[.nilIface, .bool false]) w := by
  obtain ⟨m, hm⟩ := missing_some #[("conduit/want.less", 1), ("conduit/want.size", 1)] Tryd.t126.methods "conduit/want.less" ["conduit/want.size"] (by kernel_rfl)
  unfold Instr.typeAssert
  go_simp
theorem ta10_8 (w : World) : (Instr.typeAssert (.iface 126 (.agg #[.int .i64 0])) 20 156 true).run Tryd.prog w = .ok (.tuple #[.nilIface, .bool false]) w := by
  obtain ⟨m, hm⟩ := missing_some #[("conduit/want.add", 1), ("conduit/want.less", 1)] Tryd.t126.methods "conduit/want.add" ["conduit/want.less"] (by kernel_rfl)
  unfold Instr.typeAssert
  go_simp
theorem ta10_9 (w : World) : (Instr.typeAssert (.iface 126 (.agg #[.int .i64 0])) 20 159 true).run Tryd.prog w = .ok (.tuple #[.nilIface, .bool false]) w := by
  obtain ⟨m, hm⟩ := missing_some #[("conduit/want.label", 1), ("conduit/want.less", 1), ("conduit/want.size", 1)] Tryd.t126.methods "conduit/want.less" ["conduit/want.size"] (by kernel_rfl)
  unfold Instr.typeAssert
  go_simp
theorem tb10 (w : World) : (Instr.typeAssert (.iface 126 (.agg #[.int .i64 0])) 20 98 true).run Tryd.prog w = .ok (.tuple #[.pointer none, .bool false]) w := by kernel_rfl
theorem tn10 (w : World) : (binOp .neq 20 (.iface 126 (.agg #[.int .i64 0])) .nilIface).run Tryd.prog w = .ok (.bool true) w := by kernel_rfl
theorem tg10 (w : World) : (eqGuard .neq 20 (.tmp 16) (.const .nilIface) (.iface 126 (.agg #[.int .i64 0])) .nilIface).run Tryd.prog w = .ok () w := by kernel_rfl
theorem ta11_0 (b : Nat) (w : World) : (Instr.typeAssert (.iface 98 (.pointer (some ⟨b, 0, none⟩))) 20 132 true).run Tryd.prog w = .ok (.tuple #[(.iface 98 (.pointer (some ⟨b, 0, none⟩))), .bool true]) w := by kernel_rfl
theorem ta11_1 (b : Nat) (w : World) : (Instr.typeAssert (.iface 98 (.pointer (some ⟨b, 0, none⟩))) 20 135 true).run Tryd.prog w = .ok (.tuple #[.nilIface, .bool false]) w := by
  obtain ⟨m, hm⟩ := missing_some #[("conduit/want.label", 1)] Tryd.t98.methods "conduit/want.label" [] (by kernel_rfl)
  unfold Instr.typeAssert
  go_simp
theorem ta11_2 (b : Nat) (w : World) : (Instr.typeAssert (.iface 98 (.pointer (some ⟨b, 0, none⟩))) 20 138 true).run Tryd.prog w = .ok (.tuple #[(.iface 98 (.pointer (some ⟨b, 0, none⟩))), .bool true]) w := by kernel_rfl
theorem ta11_3 (b : Nat) (w : World) : (Instr.typeAssert (.iface 98 (.pointer (some ⟨b, 0, none⟩))) 20 141 true).run Tryd.prog w = .ok (.tuple #[(.iface 98 (.pointer (some ⟨b, 0, none⟩))), .bool true]) w := by kernel_rfl
theorem ta11_4 (b : Nat) (w : World) : (Instr.typeAssert (.iface 98 (.pointer (some ⟨b, 0, none⟩))) 20 144 true).run Tryd.prog w = .ok (.tuple #[.nilIface, .bool false]) w := by
  obtain ⟨m, hm⟩ := missing_some #[("conduit/want.less", 1)] Tryd.t98.methods "conduit/want.less" [] (by kernel_rfl)
  unfold Instr.typeAssert
  go_simp
theorem ta11_5 (b : Nat) (w : World) : (Instr.typeAssert (.iface 98 (.pointer (some ⟨b, 0, none⟩))) 20 147 true).run Tryd.prog w = .ok (.tuple #[.nilIface, .bool false]) w := by
  obtain ⟨m, hm⟩ := missing_some #[("conduit/want.add", 1)] Tryd.t98.methods "conduit/want.add" [] (by kernel_rfl)
  unfold Instr.typeAssert
  go_simp
theorem ta11_6 (b : Nat) (w : World) : (Instr.typeAssert (.iface 98 (.pointer (some ⟨b, 0, none⟩))) 20 150 true).run Tryd.prog w = .ok (.tuple #[.nilIface, .bool false]) w := by
  obtain ⟨m, hm⟩ := missing_some #[("conduit/want.label", 1), ("conduit/want.size", 1)] Tryd.t98.methods "conduit/want.label" [] (by kernel_rfl)
  unfold Instr.typeAssert
  go_simp
theorem ta11_7 (b : Nat) (w : World) : (Instr.typeAssert (.iface 98 (.pointer (some ⟨b, 0, none⟩))) 20 153 true).run Tryd.prog w = .ok (.tuple #[.nilIface, .bool false]) w := by
  obtain ⟨m, hm⟩ := missing_some #[("conduit/want.less", 1), ("conduit/want.size", 1)] Tryd.t98.methods "conduit/want.less" [] (by kernel_rfl)
  unfold Instr.typeAssert
  go_simp
theorem ta11_8 (b : Nat) (w : World) : (Instr.typeAssert (.iface 98 (.pointer (some ⟨b, 0, none⟩))) 20 156 true).run Tryd.prog w = .ok (.tuple #[.nilIface, .bool false]) w := by
  obtain ⟨m, hm⟩ := missing_some #[("conduit/want.add", 1), ("conduit/want.less", 1)] Tryd.t98.methods "conduit/want.add" ["conduit/want.less"] (by kernel_rfl)
  unfold Instr.typeAssert
  go_simp
theorem ta11_9 (b : Nat) (w : World) : (Instr.typeAssert (.iface 98 (.pointer (some ⟨b, 0, none⟩))) 20 159 true).run Tryd.prog w = .ok (.tuple #[.nilIface, .bool false]) w := by
  obtain ⟨m, hm⟩ := missing_some #[("conduit/want.label", 1), ("conduit/want.less", 1), ("conduit/want.size", 1)] Tryd.t98.methods "conduit/want.label" ["conduit/want.less"] (by kernel_rfl)
  unfold Instr.typeAssert
  go_simp
theorem tb11 (b : Nat) (w : World) : (Instr.typeAssert (.iface 98 (.pointer (some ⟨b, 0, none⟩))) 20 98 true).run Tryd.prog w = .ok (.tuple #[.pointer (some ⟨b, 0, none⟩), .bool true]) w := by kernel_rfl
theorem tn11 (b : Nat) (w : World) : (binOp .neq 20 (.iface 98 (.pointer (some ⟨b, 0, none⟩))) .nilIface).run Tryd.prog w = .ok (.bool true) w := by kernel_rfl
theorem tg11 (b : Nat) (w : World) : (eqGuard .neq 20 (.tmp 16) (.const .nilIface) (.iface 98 (.pointer (some ⟨b, 0, none⟩))) .nilIface).run Tryd.prog w = .ok () w := by kernel_rfl
theorem ta12_0 (w : World) : (Instr.typeAssert (.iface 98 (.pointer none)) 20 132 true).run Tryd.prog w = .ok (.tuple #[(.iface 98 (.pointer none)), .bool true]) w := by kernel_rfl
theorem ta12_1 (w : World) : (Instr.typeAssert (.iface 98 (.pointer none)) 20 135 true).run Tryd.prog w = .ok (.tuple #[.nilIface, .bool false]) w := by
  obtain ⟨m, hm⟩ := missing_some #[("conduit/want.label", 1)] Tryd.t98.methods "conduit/want.label" [] (by kernel_rfl)
  unfold Instr.typeAssert
  go_simp
theorem ta12_2 (w : World) : (Instr.typeAssert (.iface 98 (.pointer none)) 20 138 true).run Tryd.prog w = .ok (.tuple #[(.iface 98 (.pointer none)), .bool true]) w := by kernel_rfl
theorem ta12_3 (w : World) : (Instr.typeAssert (.iface 98 (.pointer none)) 20 141 true).run Tryd.prog w = .ok (.tuple #[(.iface 98 (.pointer none)), .bool true]) w := by kernel_rfl
theorem ta12_4 (w : World) : (Instr.typeAssert (.iface 98 (.pointer none)) 20 144 true).run Tryd.prog w = .ok (.tuple #[.nilIface, .bool false]) w := by
  obtain ⟨m, hm⟩ := missing_some #[("conduit/want.less", 1)] Tryd.t98.methods "conduit/want.less" [] (by kernel_rfl)
  unfold Instr.typeAssert
  go_simp
theorem ta12_5 (w : World) : (Instr.typeAssert (.iface 98 (.pointer none)) 20 147 true).run Tryd.prog w = .ok (.tuple #[.nilIface, .bool false]) w := by
  obtain ⟨m, hm⟩ := missing_some #[("conduit/want.add", 1)] Tryd.t98.methods "conduit/want.add" [] (by kernel_rfl)
  unfold Instr.typeAssert
  go_simp
theorem ta12_6 (w : World) : (Instr.typeAssert (.iface 98 (.pointer none)) 20 150 true).run Tryd.prog w = .ok (.tuple #[.nilIface, .bool false]) w := by
  obtain ⟨m, hm⟩ := missing_some #[("conduit/want.label", 1), ("conduit/want.size", 1)] Tryd.t98.methods "conduit/want.label" [] (by kernel_rfl)
  unfold Instr.typeAssert
  go_simp
theorem ta12_7 (w : World) : (Instr.typeAssert (.iface 98 (.pointer none)) 20 153 true).run Tryd.prog w = .ok (.tuple #[.nilIface, .bool false]) w := by
  obtain ⟨m, hm⟩ := missing_some #[("conduit/want.less", 1), ("conduit/want.size", 1)] Tryd.t98.methods "conduit/want.less" [] (by kernel_rfl)
  unfold Instr.typeAssert
  go_simp
theorem ta12_8 (w : World) : (Instr.typeAssert (.iface 98 (.pointer none)) 20 156 true).run Tryd.prog w = .ok (.tuple #[.nilIface, .bool false]) w := by
  obtain ⟨m, hm⟩ := missing_some #[("conduit/want.add", 1), ("conduit/want.less", 1)] Tryd.t98.methods "conduit/want.add" ["conduit/want.less"] (by kernel_rfl)
  unfold Instr.typeAssert
  go_simp
theorem ta12_9 (w : World) : (Instr.typeAssert (.iface 98 (.pointer none)) 20 159 true).run Tryd.prog w = .ok (.tuple #[.nilIface, .bool false]) w := by
  obtain ⟨m, hm⟩ := missing_some #[("conduit/want.label", 1), ("conduit/want.less", 1), ("conduit/want.size", 1)] Tryd.t98.methods "conduit/want.label" ["conduit/want.less"] (by kernel_rfl)
  unfold Instr.typeAssert
  go_simp
theorem tb12 (w : World) : (Instr.typeAssert (.iface 98 (.pointer none)) 20 98 true).run Tryd.prog w = .ok (.tuple #[.pointer none, .bool true]) w := by kernel_rfl
theorem tn12 (w : World) : (binOp .neq 20 (.iface 98 (.pointer none)) .nilIface).run Tryd.prog w = .ok (.bool true) w := by kernel_rfl
theorem tg12 (w : World) : (eqGuard .neq 20 (.tmp 16) (.const .nilIface) (.iface 98 (.pointer none)) .nilIface).run Tryd.prog w = .ok () w := by kernel_rfl
theorem ta13_0 (w : World) : (Instr.typeAssert (.iface 130 (.agg #[])) 20 132 true).run Tryd.prog w = .ok (.tuple #[.nilIface, .bool false]) w := by
  obtain ⟨m, hm⟩ := missing_some #[("conduit/want.size", 1)] Tryd.t130.methods "conduit/want.size" [] (by kernel_rfl)
  unfold Instr.typeAssert
  go_simp
theorem ta13_1 (w : World) : (Instr.typeAssert (.iface 130 (.agg #[])) 20 135 true).run Tryd.prog w = .ok (.tuple #[.nilIface, .bool false]) w := by
  obtain ⟨m, hm⟩ := missing_some #[("conduit/want.label", 1)] Tryd.t130.methods "conduit/want.label" [] (by kernel_rfl)
  unfold Instr.typeAssert
  go_simp
theorem ta13_2 (w : World) : (Instr.typeAssert (.iface 130 (.agg #[])) 20 138 true).run Tryd.prog w = .ok (.tuple #[.nilIface, .bool false]) w := by
  obtain ⟨m, hm⟩ := missing_some #[("conduit/want.words", 1)] Tryd.t130.methods "conduit/want.words" [] (by kernel_rfl)
  unfold Instr.typeAssert
  go_simp
theorem ta13_3 (w : World) : (Instr.typeAssert (.iface 130 (.agg #[])) 20 141 true).run Tryd.prog w = .ok (.tuple #[.nilIface, .bool false]) w := by
  obtain ⟨m, hm⟩ := missing_some #[("conduit/want.open", 1)] Tryd.t130.methods "conduit/want.open" [] (by kernel_rfl)
  unfold Instr.typeAssert
  go_simp
theorem ta13_4 (w : World) : (Instr.typeAssert (.iface 130 (.agg #[])) 20 144 true).run Tryd.prog w = .ok (.tuple #[.nilIface, .bool false]) w := by
  obtain ⟨m, hm⟩ := missing_some #[("conduit/want.less", 1)] Tryd.t130.methods "conduit/want.less" [] (by kernel_rfl)
  unfold Instr.typeAssert
  go_simp
theorem ta13_5 (w : World) : (Instr.typeAssert (.iface 130 (.agg #[])) 20 147 true).run Tryd.prog w = .ok (.tuple #[.nilIface, .bool false]) w := by
  obtain ⟨m, hm⟩ := missing_some #[("conduit/want.add", 1)] Tryd.t130.methods "conduit/want.add" [] (by kernel_rfl)
  unfold Instr.typeAssert
  go_simp
theorem ta13_6 (w : World) : (Instr.typeAssert (.iface 130 (.agg #[])) 20 150 true).run Tryd.prog w = .ok (.tuple #[.nilIface, .bool false]) w := by
  obtain ⟨m, hm⟩ := missing_some #[("conduit/want.label", 1), ("conduit/want.size", 1)] Tryd.t130.methods "conduit/want.label" ["conduit/want.size"] (by kernel_rfl)
  unfold Instr.typeAssert
  go_simp
theorem ta13_7 (w : World) : (Instr.typeAssert (.iface 130 (.agg #[])) 20 153 true).run Tryd.prog w = .ok (.tuple #[.nilIface, .bool false]) w := by
  obtain ⟨m, hm⟩ := missing_some #[("conduit/want.less", 1), ("conduit/want.size", 1)] Tryd.t130.methods "conduit/want.less" ["conduit/want.size"] (by kernel_rfl)
  unfold Instr.typeAssert
  go_simp
theorem ta13_8 (w : World) : (Instr.typeAssert (.iface 130 (.agg #[])) 20 156 true).run Tryd.prog w = .ok (.tuple #[.nilIface, .bool false]) w := by
  obtain ⟨m, hm⟩ := missing_some #[("conduit/want.add", 1), ("conduit/want.less", 1)] Tryd.t130.methods "conduit/want.add" ["conduit/want.less"] (by kernel_rfl)
  unfold Instr.typeAssert
  go_simp
theorem ta13_9 (w : World) : (Instr.typeAssert (.iface 130 (.agg #[])) 20 159 true).run Tryd.prog w = .ok (.tuple #[.nilIface, .bool false]) w := by
  obtain ⟨m, hm⟩ := missing_some #[("conduit/want.label", 1), ("conduit/want.less", 1), ("conduit/want.size", 1)] Tryd.t130.methods "conduit/want.label" ["conduit/want.less", "conduit/want.size"] (by kernel_rfl)
  unfold Instr.typeAssert
  go_simp
theorem tb13 (w : World) : (Instr.typeAssert (.iface 130 (.agg #[])) 20 98 true).run Tryd.prog w = .ok (.tuple #[.pointer none, .bool false]) w := by kernel_rfl
theorem tn13 (w : World) : (binOp .neq 20 (.iface 130 (.agg #[])) .nilIface).run Tryd.prog w = .ok (.bool true) w := by kernel_rfl
theorem tg13 (w : World) : (eqGuard .neq 20 (.tmp 16) (.const .nilIface) (.iface 130 (.agg #[])) .nilIface).run Tryd.prog w = .ok () w := by kernel_rfl
theorem sample_face {k : Nat} {v : Value} (h : SampleIs k v) : TA v 132 (faceB k 0) ∧ TA v 135 (faceB k 1) ∧ TA v 138 (faceB k 2) ∧ TA v 141 (faceB k 3) ∧ TA v 144 (faceB k 4) ∧ TA v 147 (faceB k 5) ∧ TA v 150 (faceB k 6) ∧ TA v 153 (faceB k 7) ∧ TA v 156 (faceB k 8) ∧ TA v 159 (faceB k 9) := by
  rcases h with ⟨rfl, rfl⟩ | ⟨rfl, rfl⟩ | ⟨rfl, rfl⟩ | ⟨rfl, rfl⟩ | ⟨rfl, rfl⟩ | ⟨rfl, rfl⟩ | ⟨rfl, rfl⟩ | ⟨rfl, rfl⟩ | ⟨rfl, rfl⟩ | ⟨rfl, rfl⟩ | ⟨rfl, rfl⟩ | ⟨rfl, b, rfl⟩ | ⟨rfl, rfl⟩ | ⟨rfl, rfl⟩
  · exact ⟨⟨_, ta0_0⟩, ⟨_, ta0_1⟩, ⟨_, ta0_2⟩, ⟨_, ta0_3⟩, ⟨_, ta0_4⟩, ⟨_, ta0_5⟩, ⟨_, ta0_6⟩, ⟨_, ta0_7⟩, ⟨_, ta0_8⟩, ⟨_, ta0_9⟩⟩
  · exact ⟨⟨_, ta1_0⟩, ⟨_, ta1_1⟩, ⟨_, ta1_2⟩, ⟨_, ta1_3⟩, ⟨_, ta1_4⟩, ⟨_, ta1_5⟩, ⟨_, ta1_6⟩, ⟨_, ta1_7⟩, ⟨_, ta1_8⟩, ⟨_, ta1_9⟩⟩
  · exact ⟨⟨_, ta2_0⟩, ⟨_, ta2_1⟩, ⟨_, ta2_2⟩, ⟨_, ta2_3⟩, ⟨_, ta2_4⟩, ⟨_, ta2_5⟩, ⟨_, ta2_6⟩, ⟨_, ta2_7⟩, ⟨_, ta2_8⟩, ⟨_, ta2_9⟩⟩
  · exact ⟨⟨_, ta3_0⟩, ⟨_, ta3_1⟩, ⟨_, ta3_2⟩, ⟨_, ta3_3⟩, ⟨_, ta3_4⟩, ⟨_, ta3_5⟩, ⟨_, ta3_6⟩, ⟨_, ta3_7⟩, ⟨_, ta3_8⟩, ⟨_, ta3_9⟩⟩
  · exact ⟨⟨_, ta4_0⟩, ⟨_, ta4_1⟩, ⟨_, ta4_2⟩, ⟨_, ta4_3⟩, ⟨_, ta4_4⟩, ⟨_, ta4_5⟩, ⟨_, ta4_6⟩, ⟨_, ta4_7⟩, ⟨_, ta4_8⟩, ⟨_, ta4_9⟩⟩
  · exact ⟨⟨_, ta5_0⟩, ⟨_, ta5_1⟩, ⟨_, ta5_2⟩, ⟨_, ta5_3⟩, ⟨_, ta5_4⟩, ⟨_, ta5_5⟩, ⟨_, ta5_6⟩, ⟨_, ta5_7⟩, ⟨_, ta5_8⟩, ⟨_, ta5_9⟩⟩
  · exact ⟨⟨_, ta6_0⟩, ⟨_, ta6_1⟩, ⟨_, ta6_2⟩, ⟨_, ta6_3⟩, ⟨_, ta6_4⟩, ⟨_, ta6_5⟩, ⟨_, ta6_6⟩, ⟨_, ta6_7⟩, ⟨_, ta6_8⟩, ⟨_, ta6_9⟩⟩
  · exact ⟨⟨_, ta7_0⟩, ⟨_, ta7_1⟩, ⟨_, ta7_2⟩, ⟨_, ta7_3⟩, ⟨_, ta7_4⟩, ⟨_, ta7_5⟩, ⟨_, ta7_6⟩, ⟨_, ta7_7⟩, ⟨_, ta7_8⟩, ⟨_, ta7_9⟩⟩
  · exact ⟨⟨_, ta8_0⟩, ⟨_, ta8_1⟩, ⟨_, ta8_2⟩, ⟨_, ta8_3⟩, ⟨_, ta8_4⟩, ⟨_, ta8_5⟩, ⟨_, ta8_6⟩, ⟨_, ta8_7⟩, ⟨_, ta8_8⟩, ⟨_, ta8_9⟩⟩
  · exact ⟨⟨_, ta9_0⟩, ⟨_, ta9_1⟩, ⟨_, ta9_2⟩, ⟨_, ta9_3⟩, ⟨_, ta9_4⟩, ⟨_, ta9_5⟩, ⟨_, ta9_6⟩, ⟨_, ta9_7⟩, ⟨_, ta9_8⟩, ⟨_, ta9_9⟩⟩
  · exact ⟨⟨_, ta10_0⟩, ⟨_, ta10_1⟩, ⟨_, ta10_2⟩, ⟨_, ta10_3⟩, ⟨_, ta10_4⟩, ⟨_, ta10_5⟩, ⟨_, ta10_6⟩, ⟨_, ta10_7⟩, ⟨_, ta10_8⟩, ⟨_, ta10_9⟩⟩
  · exact ⟨⟨_, ta11_0 b⟩, ⟨_, ta11_1 b⟩, ⟨_, ta11_2 b⟩, ⟨_, ta11_3 b⟩, ⟨_, ta11_4 b⟩, ⟨_, ta11_5 b⟩, ⟨_, ta11_6 b⟩, ⟨_, ta11_7 b⟩, ⟨_, ta11_8 b⟩, ⟨_, ta11_9 b⟩⟩
  · exact ⟨⟨_, ta12_0⟩, ⟨_, ta12_1⟩, ⟨_, ta12_2⟩, ⟨_, ta12_3⟩, ⟨_, ta12_4⟩, ⟨_, ta12_5⟩, ⟨_, ta12_6⟩, ⟨_, ta12_7⟩, ⟨_, ta12_8⟩, ⟨_, ta12_9⟩⟩
  · exact ⟨⟨_, ta13_0⟩, ⟨_, ta13_1⟩, ⟨_, ta13_2⟩, ⟨_, ta13_3⟩, ⟨_, ta13_4⟩, ⟨_, ta13_5⟩, ⟨_, ta13_6⟩, ⟨_, ta13_7⟩, ⟨_, ta13_8⟩, ⟨_, ta13_9⟩⟩
theorem sample_box {k : Nat} {v : Value} (h : SampleIs k v) : TA v 98 (k == 11 || k == 12) := by
  rcases h with ⟨rfl, rfl⟩ | ⟨rfl, rfl⟩ | ⟨rfl, rfl⟩ | ⟨rfl, rfl⟩ | ⟨rfl, rfl⟩ | ⟨rfl, rfl⟩ | ⟨rfl, rfl⟩ | ⟨rfl, rfl⟩ | ⟨rfl, rfl⟩ | ⟨rfl, rfl⟩ | ⟨rfl, rfl⟩ | ⟨rfl, b, rfl⟩ | ⟨rfl, rfl⟩ | ⟨rfl, rfl⟩
  · exact ⟨_, tb0⟩
  · exact ⟨_, tb1⟩
  · exact ⟨_, tb2⟩
  · exact ⟨_, tb3⟩
  · exact ⟨_, tb4⟩
  · exact ⟨_, tb5⟩
  · exact ⟨_, tb6⟩
  · exact ⟨_, tb7⟩
  · exact ⟨_, tb8⟩
  · exact ⟨_, tb9⟩
  · exact ⟨_, tb10⟩
  · exact ⟨_, tb11 b⟩
  · exact ⟨_, tb12⟩
  · exact ⟨_, tb13⟩
theorem sample_nil {k : Nat} {v : Value} (h : SampleIs k v) : ∀ w, (binOp .neq 20 v .nilIface).run Tryd.prog w = .ok (.bool (k != 0)) w := by
  rcases h with ⟨rfl, rfl⟩ | ⟨rfl, rfl⟩ | ⟨rfl, rfl⟩ | ⟨rfl, rfl⟩ | ⟨rfl, rfl⟩ | ⟨rfl, rfl⟩ | ⟨rfl, rfl⟩ | ⟨rfl, rfl⟩ | ⟨rfl, rfl⟩ | ⟨rfl, rfl⟩ | ⟨rfl, rfl⟩ | ⟨rfl, b, rfl⟩ | ⟨rfl, rfl⟩ | ⟨rfl, rfl⟩
  · exact tn0
  · exact tn1
  · exact tn2
  · exact tn3
  · exact tn4
  · exact tn5
  · exact tn6
  · exact tn7
  · exact tn8
  · exact tn9
  · exact tn10
  · exact tn11 b
  · exact tn12
  · exact tn13
theorem sample_guard {k : Nat} {v : Value} (h : SampleIs k v) : ∀ w, (eqGuard .neq 20 (.tmp 16) (.const .nilIface) v .nilIface).run Tryd.prog w = .ok () w := by
  rcases h with ⟨rfl, rfl⟩ | ⟨rfl, rfl⟩ | ⟨rfl, rfl⟩ | ⟨rfl, rfl⟩ | ⟨rfl, rfl⟩ | ⟨rfl, rfl⟩ | ⟨rfl, rfl⟩ | ⟨rfl, rfl⟩ | ⟨rfl, rfl⟩ | ⟨rfl, rfl⟩ | ⟨rfl, rfl⟩ | ⟨rfl, b, rfl⟩ | ⟨rfl, rfl⟩ | ⟨rfl, rfl⟩
  · exact tg0
  · exact tg1
  · exact tg2
  · exact tg3
  · exact tg4
  · exact tg5
  · exact tg6
  · exact tg7
  · exact tg8
  · exact tg9
  · exact tg10
  · exact tg11 b
  · exact tg12
  · exact tg13
end Go.Proofs.YtpgdiekpeceicaaDoor
