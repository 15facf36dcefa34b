/- TRIE: what is known of a script, and of the list that it makes. -/
import Derived.Test.YtflomcbclofbaaaGreatDoorTrieTB
import Derived.Test.YtflomcbclofbaaaGreatDoorTrieRput
namespace Go.Proofs.YtflomcbclofbaaaGreatDoor
open Go Go.RowKit

/-- a script that is small enough -/
structure Script (w : World) (v : Value) (L : Acts) : Prop where
  fl : Fl w 3 v L.length (actCells L)
  len : L.length ≤ 1048576
  sz : szA L ≤ 4000000
  each : ∀ a ∈ L, a.2.1.size ≤ 1048576 ∧ (Lit.int .i64 a.2.2).wf = true
/-- names -/
structure Names (w : World) (v : Value) (ns : List ByteArray) : Prop where
  sl : Sl w v ns
  len : ns.length ≤ 1048576
  each : ∀ n ∈ ns, n.size ≤ 1048576
theorem Script.built {w : World} {v : Value} {L : Acts} (h : Script w v L) (hT : Tabs w) : Calls Tryz.prog 7 #[v] w (BuiltR w L) := built_any w hT v L h.fl h.len h.sz fun a ha => (h.each a ha).1
theorem filter_size {f : ByteArray} (h : filterB f = true) : f.size ≤ 65535 := by
  unfold filterB plainB at h
  rw [Bool.and_eq_true, Bool.and_eq_true, Bool.and_eq_true, Bool.and_eq_true] at h
  have h2 := of_decide_eq_true h.1.1.1.2
  have e : f.data.toList.length = f.size := Array.length_toList
  omega
/-- what is known of the list of a script -/
structure Known (l : Subs) : Prop where
  len : l.length ≤ 1048576
  tot : totalS l ≤ 4000000
  wf : ∀ x ∈ l, (Lit.int .i64 x.2).wf = true
  ok : ∀ x ∈ l, filterB x.1 = true
  nd : l.Nodup
theorem Script.known {w w' : World} {v : Value} {L : Acts} (h : Script w v L) {sz t rb : Nat} {T : List Nd} {vr : Value} (hw : Two w w' sz t T rb vr (runA L) (runA L)) : Known (runA L) := by
  obtain ⟨h1, h2, h3⟩ := runA_le L
  refine ⟨Nat.le_trans h1 h.len, Nat.le_trans h2 h.sz, fun x hx => ?_, hw.st.of_.ok, hw.st.of_.nd⟩
  obtain ⟨a, ha, rfl⟩ := h3 x hx
  exact (h.each a ha).2
end Go.Proofs.YtflomcbclofbaaaGreatDoor
