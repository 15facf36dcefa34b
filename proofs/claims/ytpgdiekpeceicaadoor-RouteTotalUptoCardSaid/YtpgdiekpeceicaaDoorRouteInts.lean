/- ROUTE: numbers in memory; the places that a message goes. -/
import Derived.Test.YtpgdiekpeceicaaDoorRouteFit
namespace Go.Proofs.YtpgdiekpeceicaaDoor
open Go Go.RowKit Go.Shelf

/-- v reads as the numbers l -/
def Ints (w : World) (v : Value) (l : List Nat) : Prop := ∃ p cap, v = .slice p l.length cap ∧ l.length ≤ cap ∧ cap ≤ 9223372036854775807 ∧ (0 < l.length → ∃ b o, p = some ⟨b, o, none⟩ ∧ ∀ j x, l[j]? = some x → w.cell? ⟨b, o + j, none⟩ = some (.int .i64 (x : Nat)))
def nv (x : Nat) : Value := .int .i64 (x : Nat)
theorem ints_of_own {w : World} {base : Nat} {v : Value} {l : List Nat} (h : w.ownsRow base 3 1 v l.length (l.map nv)) : Ints w v l := by
  rcases h.2 with ⟨rfl, h0⟩ | ⟨g, cap, cur, rfl, hb, hg, h1, h2, h3, h4⟩
  · exact ⟨none, 0, by rw [h0], by omega, by omega, fun h => by omega⟩
  · refine ⟨_, cap, rfl, h1, by unfold maxLen at h2; omega, fun _ => ⟨g, 0, rfl, fun j x hj => ?_⟩⟩
    have hj' : j < l.length := (List.getElem?_eq_some_iff.1 hj).1
    have := h.cellAt j (by omega)
    rw [Nat.zero_add, this, List.getElem?_map, hj]; rfl
theorem Ints.below {w w' : World} {v : Value} {l : List Nat} (h : Ints w v l) (hb : Below w.heap.size w w') : Ints w' v l := by
  obtain ⟨p, cap, hv, h1, h2, h3⟩ := h
  refine ⟨p, cap, hv, h1, h2, fun hn => ?_⟩
  obtain ⟨b, o, hp, hc⟩ := h3 hn
  exact ⟨b, o, hp, fun j x hj => (hb.cell (World.block_lt_of_cell? w _ (hc j x hj))).trans (hc j x hj)⟩
theorem own_below {W W' : World} {b : Nat} {e : TypeId} {size : Nat} {v : Value} {k : Nat} {xs : List Value} (h : W.ownsRow b e size v k xs) (hb : Below W.heap.size W W') : W'.ownsRow b e size v k xs :=
  h.kept (grown_of_below hb none) (Decidable.em _)
theorem info_int : (Tryd.prog.info? 3).map (fun i => (i.zero, i.size, i.bytes)) = some (some (.int .i64 0), 1, 8) := by kernel_rfl
/-- the places of those that are (not) Else ones -/
def pl (b : Bool) (L : List (Nat × Bool)) : List Nat := (L.filter (fun x => x.2 == b)).map Prod.fst
/-- where a message goes -/
def findR (L : List (Nat × Bool)) : List Nat × Bool := if pl false L = [] then (pl true L, !(pl true L).isEmpty) else (pl false L, false)
theorem pl_drop {k : Nat} {tp : ByteArray} {dk : Nat} {l : List Rt} {j : Nat} {r : Rt} (h : l[j]? = some r) (b : Bool) (i : Nat) :
    pl b (agFrom k tp dk i (l.drop j)) = if (r.el == b && agB k tp dk r) then i :: pl b (agFrom k tp dk (i + 1) (l.drop (j + 1))) else pl b (agFrom k tp dk (i + 1) (l.drop (j + 1))) := by
  rw [agFrom_drop h]
  cases hag : agB k tp dk r <;> cases hel : (r.el == b) <;> simp [pl, hel]
theorem agFrom_len (k : Nat) (tp : ByteArray) (dk : Nat) : ∀ (l : List Rt) (i : Nat), (agFrom k tp dk i l).length ≤ l.length := by
  intro l
  induction l with
  | nil => intro i; exact Nat.le_refl _
  | cons r l ih =>
    intro i
    unfold agFrom
    have := ih (i + 1)
    split <;> simp <;> omega
theorem pl_len (b : Bool) (L : List (Nat × Bool)) : (pl b L).length ≤ L.length := by
  unfold pl; rw [List.length_map]; exact List.length_filter_le _ _
theorem heap_set2 {W : World} {B : Nat} {t : TypeId} {a b : Value} (h : W.heap[B]? = some (.cells #[a, b] t (0, 0))) (u v : Value) :
    ((W.setCell ⟨B, 0, none⟩ u).setCell ⟨B, 1, none⟩ v).heap[B]? = some (.cells #[u, v] t (0, 0)) := by
  have h0 := heap_setCell_same _ B 0 _ _ u h
  have h1 := heap_setCell_same _ B 1 _ _ v h0
  exact h1
/-- a slice whose memory lies behind lo -/
def Fresh (lo : Nat) (v : Value) : Prop := ∀ a n c, v = .slice (some a) n c → lo ≤ a.block
theorem fresh_of_own {W : World} {base lo n : Nat} {v : Value} {t : TypeId} {s : Nat} {xs : List Value} (h : W.ownsRow base t s v n xs) (hb : lo ≤ base) : Fresh lo v := by
  rintro a m c rfl
  rcases h.2 with ⟨h, _⟩ | ⟨g, cap, cur, h, hg, _⟩
  · cases h
  · injection h with h; injection h with h; subst h; exact Nat.le_trans hb hg
def TakenPost (w : World) (t : List Nat × Bool) (r : Ending) (w' : World) : Prop := ∃ v, r = .returned (.agg #[v, .bool t.2]) ∧ Ints w' v t.1 ∧ Below w.heap.size w w' ∧ Fresh w.heap.size v
end Go.Proofs.YtpgdiekpeceicaaDoor
