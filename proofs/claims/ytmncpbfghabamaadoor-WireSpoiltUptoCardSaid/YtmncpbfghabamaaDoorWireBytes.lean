/- WIRE: slices of bytes: a cut of one, a text out of one. -/
import Derived.Test.YtmncpbfghabamaaDoorWireSm
import Derived.Lib.Bytes
import Derived.Laws.BytesArg
import Derived.Shelf.Bytes.SlEqualAll
import Derived.Deep.Draws
namespace Go.Proofs.YtmncpbfghabamaaDoor
open Go Go.RowKit

def ba (l : List UInt8) : ByteArray := ⟨l.toArray⟩
theorem Bs.drewN {w : World} {v : Value} {l : List UInt8} (h : Bs w v l) (n : Nat) : Bs (w.drewN n) v l := h
/-- kept where only one other block has turned -/
theorem Bs.grown {w w' : World} {v : Value} {l : List UInt8} {row : Option Nat} (h : Bs w v l) (hg : w.grownBy w' row) (hne : ∀ p n c, v = .slice (some p) n c → 0 < l.length → row ≠ some p.block) : Bs w' v l := by
  obtain ⟨p, cap, hv, h1, h2, hc⟩ := h
  refine ⟨p, cap, hv, h1, h2, fun hn => ?_⟩
  obtain ⟨b, o, rfl, hc'⟩ := hc hn
  refine ⟨b, o, rfl, fun j x hj => ?_⟩
  have h3 := hc' j x hj
  exact (World.cell?_of_block (hg.block b (World.block_lt_of_cell? w _ h3) (fun e => hne _ _ _ hv hn e.symm))).trans h3

def numsI (l : List UInt8) : List Int := l.map fun c => (c.toNat : Int)
theorem numsI_len (l : List UInt8) : (numsI l).length = l.length := by simp [numsI]
theorem bytesOf_nums (l : List UInt8) : Lib.bytesOf (numsI l) = l := by
  unfold Lib.bytesOf numsI
  rw [List.map_map]
  conv => rhs; rw [← List.map_id l]
  apply List.map_congr_left
  intro c _
  simp
theorem numsI_range (l : List UInt8) : ∀ x ∈ numsI l, 0 ≤ x ∧ x < 256 := by
  intro x hx
  obtain ⟨c, _, rfl⟩ := List.mem_map.1 hx
  have := c.toNat_lt
  omega
theorem numsI_getD {l : List UInt8} {i : Nat} (h : i < l.length) : (numsI l).getD i 0 = ((l[i]'h).toNat : Int) := by simp [numsI, List.getD, h]

theorem Bs.cellsI {w : World} {b o cap : Nat} {l : List UInt8} (h : Bs w (.slice (some ⟨b, o, none⟩) l.length cap) l) (i : Nat) (hi : i < l.length) : w.cell? ⟨b, o + i, none⟩ = some (.int .u8 ((numsI l).getD i 0)) := by
  obtain ⟨p, cap', hv, _, _, hc⟩ := h
  obtain ⟨b', o', hp, hc⟩ := hc (by omega)
  injection hv with e1 e2 e3
  rw [hp] at e1
  injection e1 with e1; injection e1 with e1 e2
  subst e1; subst e2
  rw [numsI_getD hi]
  exact hc i _ (List.getElem?_eq_getElem hi)
theorem Bs.cell {w : World} {b o cap n : Nat} {l : List UInt8} (h : Bs w (.slice (some ⟨b, o, none⟩) n cap) l) {i : Nat} {x : UInt8} (hi : l[i]? = some x) : w.cell? ⟨b, o + i, none⟩ = some (.int .u8 (x.toNat : Nat)) := by
  obtain ⟨p, cap', hv, _, _, hc⟩ := h
  obtain ⟨hlt, _⟩ := List.getElem?_eq_some_iff.1 hi
  obtain ⟨b', o', hp, hc⟩ := hc (by omega)
  injection hv with e1 e2 e3
  rw [hp] at e1
  injection e1 with e1; injection e1 with e1 e2
  subst e1; subst e2
  exact hc i x hi
theorem Bs.form {w : World} {v : Value} {l : List UInt8} (h : Bs w v l) (hn : 0 < l.length) : ∃ b o cap, v = .slice (some ⟨b, o, none⟩) l.length cap ∧ b < w.heap.size := by
  obtain ⟨p, cap, hv, _, _, hc⟩ := h
  obtain ⟨b, o, hp, hc⟩ := hc hn
  exact ⟨b, o, cap, by rw [hv, hp], World.block_lt_of_cell? w _ (hc 0 _ (List.getElem?_eq_getElem hn))⟩
theorem Bs.len {w : World} {p : Option Addr} {n cap : Nat} {l : List UInt8} (h : Bs w (.slice p n cap) l) : n = l.length ∧ l.length ≤ cap ∧ cap ≤ 9223372036854775807 := by
  obtain ⟨p', cap', hv, h1, h2, _⟩ := h
  injection hv with _ e2 e3
  subst e3
  exact ⟨e2, h1, h2⟩
theorem Bs.in_ {w : World} {p : Option Addr} {n cap : Nat} {l : List UInt8} (h : Bs w (.slice p n cap) l) : Lib.BytesIn w p n (numsI l) := by
  intro hn
  obtain ⟨e, _, _⟩ := h.len
  subst e
  obtain ⟨b, o, cap', hv, _⟩ := h.form hn
  injection hv with e1 _ _
  subst e1
  exact ⟨b, o, rfl, fun i hi => h.cellsI i hi⟩

/-- 'v[k:]': its value, and how it reads -/
theorem Bs.cut {w : World} {p : Option Addr} {n cap : Nat} {l : List UInt8} (h : Bs w (.slice p n cap) l) {k : Nat} (hk : k ≤ l.length) :
    ∃ q cq, (∀ w' : World, Sem.run Tryd.prog (Instr.slice 26 (.slice p n cap) (some (Value.int IntKind.i64 (k : Nat))) none none) w' = .ok (.slice q (l.drop k).length cq) w') ∧ Bs w (.slice q (l.drop k).length cq) (l.drop k) ∧
      ∀ b o, p = some ⟨b, o, none⟩ → ∃ o', q = some ⟨b, o', none⟩ := by
  obtain ⟨e, h1, h2⟩ := h.len
  subst e
  have c1 : (k : Int) ≤ (l.length : Int) := by omega
  have c2 : (l.length : Int) ≤ cap := by omega
  refine ⟨if cap = k then p else p.map (·.add k), cap - k, fun w' => ?_, ?_, ?_⟩
  · rw [List.length_drop]
    by_cases h0 : cap = k
    · subst h0
      have : l.length = cap := by omega
      go_simp
    · have h0' : ¬ (cap = k) := h0
      cases p <;> go_simp
  · refine ⟨_, _, rfl, by rw [List.length_drop]; omega, by omega, fun hn => ?_⟩
    rw [List.length_drop] at hn
    obtain ⟨b, o, cap', hv, _⟩ := h.form (by omega)
    injection hv with e1 _ _
    subst e1
    rw [if_neg (by omega)]
    refine ⟨b, o + k, ?_, fun j x hj => ?_⟩
    · show some ((⟨b, o, none⟩ : Addr).add k) = _
      unfold Addr.add; split <;> simp_all
    · rw [List.getElem?_drop] at hj
      rw [Nat.add_assoc]
      exact h.cell hj
  · rintro b o rfl
    split
    · exact ⟨o, rfl⟩
    · refine ⟨o + k, ?_⟩
      show some ((⟨b, o, none⟩ : Addr).add k) = _
      unfold Addr.add; split <;> simp_all

/-- 'string(v)' -/
theorem Bs.text {w : World} {p : Option Addr} {n cap : Nat} {l : List UInt8} (h : Bs w (.slice p n cap) l) : (convert 26 9 (.slice p n cap)).run Tryd.prog w = .ok (.string (ba l)) w := by
  have hi := h.in_
  obtain ⟨e, _, _⟩ := h.len
  rw [hi.convert (by rw [numsI_len, e]) cap _ _ _ Tryd.underlying26 Tryd.underlying5 Tryd.underlying9]
  congr 2
  have e : (strOfNums (numsI l)).data.toList = l := by
    rw [strOfNums_data]
    exact bytesOf_nums l
  have e2 : ba (strOfNums (numsI l)).data.toList = strOfNums (numsI l) := rfl
  rw [← e2, e]

/-- 'v[a:b]' -/
theorem Bs.window {w : World} {p : Option Addr} {n cap : Nat} {l : List UInt8} (h : Bs w (.slice p n cap) l) {i j : Nat} (hij : i ≤ j) (hj : j ≤ l.length) :
    ∃ q cq, (∀ w' : World, Sem.run Tryd.prog (Instr.slice 26 (.slice p n cap) (some (Value.int IntKind.i64 (i : Nat))) (some (Value.int IntKind.i64 (j : Nat))) none) w' = .ok (.slice q (j - i) cq) w') ∧ Bs w (.slice q (j - i) cq) ((l.drop i).take (j - i)) := by
  obtain ⟨e, h1, h2⟩ := h.len
  subst e
  have c1 : (i : Int) ≤ (j : Int) := by omega
  have c2 : (j : Int) ≤ cap := by omega
  have c3 : (i : Int) ≤ cap := by omega
  have e : ((l.drop i).take (j - i)).length = j - i := by rw [List.length_take, List.length_drop]; omega
  refine ⟨if cap = i then p else p.map (·.add i), cap - i, fun w' => ?_, ?_⟩
  · by_cases h0 : cap = i
    · subst h0
      have : j = cap := by omega
      subst this
      go_simp
    · have h0' : ¬ (cap = i) := h0
      cases p <;> go_simp
  · refine ⟨_, cap - i, by rw [e], by rw [e]; omega, by omega, fun hn => ?_⟩
    rw [e] at hn
    obtain ⟨b, o, cap', hv, _⟩ := h.form (by omega)
    injection hv with e1 _ _
    subst e1
    rw [if_neg (by omega)]
    refine ⟨b, o + i, ?_, fun k x hk => ?_⟩
    · show some ((⟨b, o, none⟩ : Addr).add i) = _
      unfold Addr.add; split <;> simp_all
    · have hk' : l[i + k]? = some x := by
        have hkl : k < j - i := by
          rcases Nat.lt_or_ge k (j - i) with hh | hh
          · exact hh
          · rw [List.getElem?_eq_none (by rw [e]; exact hh)] at hk; cases hk
        rw [List.getElem?_take_of_lt hkl, List.getElem?_drop] at hk; exact hk
      rw [Nat.add_assoc]
      exact h.cell hk'
end Go.Proofs.YtmncpbfghabamaaDoor
