/- READING: what an argument's cells are, from the row's reading of it: structs field by field, slices element by element, with the bound of the second form. -/
import Derived.Test.YtflomcbclofbaaaDoorProg
import Derived.Test.YtflomcbclofbaaaDoorRows
import Derived.WalkKit
import Derived.ProofKit
import Derived.OpenShut
import Derived.JoinedCond
import Derived.Deep.Slices
import Derived.Carry
namespace Go.Proofs.YtflomcbclofbaaaDoor
open Go Go.ChangeShapes Go.WideShapes Go.ChangeAt Go.RowKit Go.Deep

theorem laidOut : laidOutB Tryd.prog = true := by kernel_rfl
theorem bulk_one {H : Type} (d : DataW H) : 1 ≤ Rows.uptoBulk d := by
  cases d with
  | lit x => cases x <;> simp [Rows.uptoBulk]
  | _ => simp [Rows.uptoBulk]
theorem bulk_len {H : Type} : ∀ l : List (DataW H), l.length ≤ Rows.uptoBulkAll l := by
  intro l
  induction l with
  | nil => exact Nat.le_refl _
  | cons x r ih =>
    simp only [Rows.uptoBulkAll, List.length_cons]
    have := bulk_one x
    omega
theorem bulk_part {H : Type} : ∀ (l : List (DataW H)) (d : DataW H), d ∈ l → Rows.uptoBulk d ≤ Rows.uptoBulkAll l := by
  intro l
  induction l with
  | nil => intro d h; cases h
  | cons x r ih =>
    intro d h
    simp only [Rows.uptoBulkAll]
    rcases List.mem_cons.1 h with rfl | h
    · omega
    · have := ih d h; omega
theorem rd_plain {w : World} {a : Addr} {v : Value} (h : w.cell? a = some v) : ∃ b o, a = ⟨b, o, none⟩ := by
  obtain ⟨b, o, s⟩ := a
  cases s with
  | none => exact ⟨b, o, rfl⟩
  | some k => simp only [World.cell?] at h; split at h <;> simp at h
theorem rd_add {b o i : Nat} : (⟨b, o, none⟩ : Addr).add i = ⟨b, o + i, none⟩ := by unfold Addr.add; split <;> simp_all

section
variable {H : Type} {enc : TypeId × Value → H} {w : World} {base : Nat} {spare : Nat → Bool} {held : Bool}
theorem rd_struct {t : TypeId} {fs : Array Field} {cs : List Value} {fuel : Nat} {x : DataW H × List MemPlace} (ht : Tryd.prog.underlying t = some (.struct fs)) (h : DataW.trod enc Tryd.prog w base spare held fuel t cs = some x) :
    cs.length = Tryd.prog.cellsOf t ∧ ∃ n, fuel = n + 1 ∧ ∀ (i : Nat) (f : Field), fs[i]? = some f → ∃ y : DataW H × List MemPlace, Rows.uptoBulk y.1 ≤ Rows.uptoBulk x.1 ∧ ∀ k, Tryd.prog.cellsOf f.type = k → DataW.trod enc Tryd.prog w base spare held n f.type ((cs.drop f.offset).take k) = some y := by
  obtain ⟨xs, n, hn, rfl, hlen, hx, hf⟩ := DataW.trod_struct ht h
  refine ⟨hlen, n, hn, fun i f hi => ?_⟩
  have hlt : i < xs.length := by rw [hx]; exact (Array.getElem?_eq_some_iff.1 hi).1
  refine ⟨xs[i], ?_, fun k hk => ?_⟩
  · simp only [Rows.uptoBulk]
    have := bulk_part (xs.map (·.1)) xs[i].1 (List.mem_map.2 ⟨_, List.getElem_mem hlt, rfl⟩)
    omega
  · subst hk
    rw [hf i f hi]; exact List.getElem?_eq_getElem hlt
theorem rd_int {k : IntKind} {t : TypeId} {c : Value} {n : Nat} {y : DataW H × List MemPlace} (ht : Tryd.prog.underlying t = some (.int k)) (h : DataW.trod enc Tryd.prog w base spare held n t [c] = some y) : ∃ z, c = .int k z ∧ (Lit.int k z).wf = true := by
  obtain ⟨z, hz, _, hw⟩ := DataW.trod_int ht h
  injection hz with hz
  exact ⟨z, hz, hw⟩
theorem rd_string {t : TypeId} {c : Value} {n : Nat} {y : DataW H × List MemPlace} (ht : Tryd.prog.underlying t = some .string) (h : DataW.trod enc Tryd.prog w base spare held n t [c] = some y) : ∃ s : ByteArray, c = .string s ∧ s.size ≤ Rows.uptoBulk y.1 := by
  obtain ⟨s, hz, rfl, _⟩ := DataW.trod_string ht h
  injection hz with hz
  refine ⟨s, hz, ?_⟩
  simp [Rows.uptoBulk]
theorem rd_bool {t : TypeId} {c : Value} {n : Nat} {y : DataW H × List MemPlace} (ht : Tryd.prog.underlying t = some .bool) (h : DataW.trod enc Tryd.prog w base spare held n t [c] = some y) : ∃ b, c = .bool b := by
  obtain ⟨s, hz, _⟩ := DataW.trod_bool ht h
  injection hz with hz
  exact ⟨s, hz⟩
/-- a slice: its elements, one by one -/
theorem rd_slice {t e : TypeId} {fuel : Nat} {c : Value} {x : DataW H × List MemPlace} {k : Nat} (ht : Tryd.prog.underlying t = some (.slice e)) (hk : Tryd.prog.cellsOf e = k) (hk0 : 0 < k) (h : DataW.trod enc Tryd.prog w base spare held fuel t [c] = some x) :
    ∃ n p len cap, fuel = n + 1 ∧ c = .slice p len cap ∧ len ≤ cap ∧ cap ≤ 9223372036854775807 ∧ len ≤ Rows.uptoBulk x.1 ∧ (0 < len → ∃ b o, p = some ⟨b, o, none⟩ ∧
      ∀ i, i < len → ∃ (cs' : List Value) (y : DataW H × List MemPlace), cs'.length = k ∧ Rows.uptoBulk y.1 ≤ Rows.uptoBulk x.1 ∧ DataW.trod enc Tryd.prog w base spare held n e cs' = some y ∧ ∀ j u, cs'[j]? = some u → w.cell? ⟨b, o + i * k + j, none⟩ = some u) := by
  rcases DataW.trod_slice ht h with ⟨h0, rfl⟩ | ⟨a, len, cap, elems, rest, n, hn, hc, rfl, hb, hl, hm, hlen, hel, -, -⟩
  · injection h0 with h0
    cases fuel with
    | zero => simp [DataW.trod] at h
    | succ n => exact ⟨n, none, 0, 0, rfl, h0, Nat.le_refl _, by omega, Nat.zero_le _, fun h => absurd h (Nat.lt_irrefl _)⟩
  · injection hc with hc
    subst hk
    have hE : ∀ i, i < len → ∃ (cs' : List Value) (y : DataW H × List MemPlace), cs'.length = Tryd.prog.cellsOf e ∧ y ∈ elems ∧ DataW.trod enc Tryd.prog w base spare held n e cs' = some y ∧ ∀ j u, cs'[j]? = some u → w.cell? (a.add (i * Tryd.prog.cellsOf e + j)) = some u := fun i hi => by
      have h1 := hel i hi
      rw [List.getElem?_eq_getElem (by omega : i < elems.length)] at h1
      obtain ⟨cs', hc', ht'⟩ := Option.bind_eq_some_iff.1 h1
      obtain ⟨_, hl', hat⟩ := World.cells?_some hc'
      refine ⟨cs', _, hl', List.getElem_mem (by omega), ht', fun j u hj => ?_⟩
      have hjk : j < Tryd.prog.cellsOf e := by rw [← hl']; exact (List.getElem?_eq_some_iff.1 hj).1
      rw [← hj, ← hat j hjk, add_add]
    refine ⟨n, some a, len, cap, hn, hc, hl, by unfold maxLen at hm; omega, ?_, fun hpos => ?_⟩
    · simp only [Rows.uptoBulk]
      have := bulk_len (elems.map (·.1))
      simp only [List.length_map] at this
      omega
    · obtain ⟨cs0, y0, hl0, _, _, hc0⟩ := hE 0 hpos
      obtain ⟨u, hu⟩ : ∃ u, cs0[0]? = some u := ⟨_, List.getElem?_eq_getElem (by omega)⟩
      have h0 := hc0 0 u hu
      have e0 : a.add (0 * Tryd.prog.cellsOf e + 0) = a := by rw [Nat.zero_mul]; exact if_pos rfl
      rw [e0] at h0
      obtain ⟨b, o, rfl⟩ := rd_plain h0
      refine ⟨b, o, rfl, fun i hi => ?_⟩
      obtain ⟨cs', y, h1, h2, h3, h4⟩ := hE i hi
      refine ⟨cs', y, h1, ?_, h3, fun j u hj => ?_⟩
      · simp only [Rows.uptoBulk]
        have := bulk_part (elems.map (·.1)) y.1 (List.mem_map.2 ⟨y, h2, rfl⟩)
        omega
      · have := h4 j u hj
        rw [rd_add] at this
        rw [Nat.add_assoc]; exact this
end
end Go.Proofs.YtflomcbclofbaaaDoor
