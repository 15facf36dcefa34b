/- WIRE: the arguments opened: values. -/
import Derived.Test.YtmncpbfghabamaaDoorWireTabs
import Derived.Test.YtmncpbfghabamaaDoorWireRt
import Derived.JoinedCond
import Derived.Deep.Slices
import Derived.Carry
namespace Go.Proofs.YtmncpbfghabamaaDoor
open Go Go.ChangeShapes Go.WideShapes Go.ChangeAt Go.RowKit Go.Deep

theorem rd_plain {w : World} {a : Addr} {v : Value} (h : w.cell? a = some v) : ∃ b o, a = ⟨b, o, none⟩ := by
  obtain ⟨b, o, s⟩ := a
  cases s with
  | none => exact ⟨b, o, rfl⟩
  | some k => simp only [World.cell?] at h; split at h <;> simp at h
theorem rd_add {b o i : Nat} : (⟨b, o, none⟩ : Addr).add i = ⟨b, o + i, none⟩ := by unfold Addr.add; split <;> simp_all

mutual
/-- how much a value holds -/
def Dv.wt : Dv → Nat
  | .mk _ _ _ ds l => 1 + ds.size + wts l
def wts : List Dv → Nat
  | [] => 0
  | t :: r => t.wt + wts r
end
theorem leB_length (x : Nat) : ∀ n, (leB x n).length = n
  | 0 => rfl
  | n + 1 => by simp [leB, leB_length x n]
theorem ownB_len {kd di db : Int} {ds : ByteArray} {n : Nat} (hi : I64 di) (hs : ds.size < 18446744073709551616) (hn : n < 18446744073709551616) : (ownB kd di db ds n).length ≤ 30 + ds.size := by
  have h1 := numB_ten (zig_lt hi.1 hi.2)
  have h2 := numB_ten hs
  have h3 := numB_ten hn
  have h4 : ∀ x : Nat, x < 18446744073709551616 → (numB x).length ≤ 10 := fun x hx => numB_ten hx
  have h5 := leB_length db.toNat 8
  have h6 : ds.data.toList.length = ds.size := by simp
  unfold I64 at hi
  unfold ownB
  repeat' split
  all_goals (try simp only [List.length_append, List.length_singleton, List.length_nil])
  all_goals (try omega)
  all_goals (have := h4 (di % 18446744073709551616).toNat (by omega); omega)
mutual
theorem enc_wt {w : World} : ∀ (k : Nat) (cs : List Value) (t : Dv), DvIs w k cs t → t.wt ≤ 1048576 → (enc t).length ≤ 32 * t.wt
  | 0, _, _, h, _ => h.elim
  | k + 1, cs, .mk kd di db ds l, h, hw => by
    obtain ⟨p, cap, e, i1, i2, i3, h2, h3, h4⟩ := h
    have hw' : 1 + ds.size + wts l ≤ 1048576 := hw
    have h5 := ownB_len (kd := kd) (db := db) (n := l.length) i2 (show ds.size < 18446744073709551616 by omega) (by omega)
    have h6 := encs_wt k l (fun j t hj => by
      obtain ⟨b, o, hp, hc⟩ := h4 (by have := (List.getElem?_eq_some_iff.1 hj).1; omega)
      obtain ⟨c0, c1, c2, c3, c4, -, -, -, -, -, ht⟩ := hc j t hj
      exact ⟨_, ht⟩) (by omega)
    have e1 : (enc (.mk kd di db ds l)).length = 1 + ((ownB kd di db ds l.length).length + (encs l).length) := by simp [enc]; omega
    have e2 : (Dv.mk kd di db ds l).wt = 1 + ds.size + wts l := rfl
    omega
theorem encs_wt {w : World} : ∀ (k : Nat) (l : List Dv), (∀ (j : Nat) (t : Dv), l[j]? = some t → ∃ cs, DvIs w k cs t) → wts l ≤ 1048576 → (encs l).length ≤ 32 * wts l
  | _, [], _, _ => by simp [encs]
  | k, t :: r, hc, hs => by
    have hs' : t.wt + wts r ≤ 1048576 := hs
    obtain ⟨cs, h⟩ := hc 0 t rfl
    have h1 := enc_wt k cs t h (by omega)
    have h2 := encs_wt k r (fun j t hj => hc (j + 1) t hj) (by omega)
    have e1 : (encs (t :: r)).length = (enc t).length + (encs r).length := by simp [encs]
    have e2 : wts (t :: r) = t.wt + wts r := rfl
    omega
end
theorem DvIs.succ {w : World} : ∀ {k : Nat} {cs : List Value} {t : Dv}, DvIs w k cs t → DvIs w (k + 1) cs t := by
  intro k
  induction k with
  | zero => intro cs t h; exact h.elim
  | succ k ih =>
    intro cs t h
    obtain ⟨kd, di, db, ds, l⟩ := t
    obtain ⟨p, cap, h1, i1, i2, i3, h2, h3, h4⟩ := h
    refine ⟨p, cap, h1, i1, i2, i3, h2, h3, fun hn => ?_⟩
    obtain ⟨b, o, hp, hc⟩ := h4 hn
    refine ⟨b, o, hp, fun j t hj => ?_⟩
    obtain ⟨c0, c1, c2, c3, c4, q0, q1, q2, q3, q4, ht⟩ := hc j t hj
    exact ⟨c0, c1, c2, c3, c4, q0, q1, q2, q3, q4, ih ht⟩
theorem DvIs.cells {w : World} {k : Nat} {cs : List Value} {kd di db : Int} {ds : ByteArray} {ps : List Dv} (h : DvIs w k cs (.mk kd di db ds ps)) : ∃ p n c, cs = [.int .i64 kd, .int .i64 di, .int .u64 db, .string ds, .slice p n c] := by
  cases k with
  | zero => exact h.elim
  | succ k => obtain ⟨p, cap, e, -⟩ := h; exact ⟨p, _, cap, e⟩
theorem choose_list {α : Type} {P : Nat → α → Prop} : ∀ n, (∀ i, i < n → ∃ a, P i a) → ∃ l : List α, l.length = n ∧ ∀ j a, l[j]? = some a → P j a := by
  intro n
  induction n with
  | zero => intro _; exact ⟨[], rfl, fun j a h => by simp at h⟩
  | succ n ih =>
    intro h
    obtain ⟨l, hl, hp⟩ := ih fun i hi => h i (by omega)
    obtain ⟨a, ha⟩ := h n (by omega)
    refine ⟨l ++ [a], by simp [hl], fun j b hj => ?_⟩
    rcases Nat.lt_or_ge j n with hjn | hjn
    · rw [List.getElem?_append_left (by omega)] at hj
      exact hp j b hj
    · rw [List.getElem?_append_right (by omega)] at hj
      have hj0 : j - l.length = 0 := by have := (List.getElem?_eq_some_iff.1 hj).1; simp at this; omega
      rw [hj0] at hj
      simp at hj
      subst hj
      obtain rfl : j = n := by omega
      exact ha
theorem wts_le {H : Type} : ∀ (l : List Dv) (E : List (DataW H)), (∀ (j : Nat) (t : Dv), l[j]? = some t → ∃ d, E[j]? = some d ∧ t.wt ≤ Rows.uptoBulk d) → wts l ≤ Rows.uptoBulkAll E
  | [], _, _ => by simp [wts]
  | t :: r, [], h => by
    obtain ⟨d, hd, -⟩ := h 0 t rfl
    simp at hd
  | t :: r, e :: E, h => by
    obtain ⟨d, hd, h1⟩ := h 0 t rfl
    simp at hd
    subst hd
    have h2 := wts_le r E (fun j t hj => h (j + 1) t hj)
    simp only [wts, Rows.uptoBulkAll]
    omega
theorem co_Datum : Tryd.prog.cellsOf 25 = 5 := by kernel_rfl
theorem co_Msg : Tryd.prog.cellsOf 39 = 13 := by kernel_rfl
section
variable {H : Type} {enc_ : TypeId × Value → H} {w : World} {base : Nat} {spare : Nat → Bool} {held : Bool}
theorem rdw_int {k : IntKind} {t : TypeId} {c : Value} {n : Nat} {y : DataW H × List MemPlace} (ht : Tryd.prog.underlying t = some (.int k)) (h : DataW.trod enc_ Tryd.prog w base spare held n t [c] = some y) : ∃ z, c = .int k z ∧ (Lit.int k z).wf = true := by
  obtain ⟨z, hz, _, hw⟩ := DataW.trod_int ht h
  injection hz with hz
  exact ⟨z, hz, hw⟩
theorem rdw_string {t : TypeId} {c : Value} {n : Nat} {y : DataW H × List MemPlace} (ht : Tryd.prog.underlying t = some .string) (h : DataW.trod enc_ Tryd.prog w base spare held n t [c] = some y) : ∃ s : ByteArray, c = .string s ∧ s.size + 1 ≤ Rows.uptoBulk y.1 := by
  obtain ⟨s, hz, rfl, _⟩ := DataW.trod_string ht h
  injection hz with hz
  refine ⟨s, hz, ?_⟩
  simp [Rows.uptoBulk]
theorem rdw_slice {t e : TypeId} {fuel : Nat} {c : Value} {x : DataW H × List MemPlace} {k : Nat} (ht : Tryd.prog.underlying t = some (.slice e)) (hk : Tryd.prog.cellsOf e = k) (hk0 : 0 < k) (h : DataW.trod enc_ Tryd.prog w base spare held fuel t [c] = some x) :
    ∃ n p len cap, ∃ E : List (DataW H), fuel = n + 1 ∧ c = .slice p len cap ∧ len ≤ cap ∧ cap ≤ 9223372036854775807 ∧ Rows.uptoBulkAll E ≤ Rows.uptoBulk x.1 ∧ len ≤ Rows.uptoBulk x.1 ∧ (0 < len → ∃ b o, p = some ⟨b, o, none⟩ ∧
      ∀ i, i < len → ∃ (cs' : List Value) (y : DataW H × List MemPlace), cs'.length = k ∧ E[i]? = some y.1 ∧ DataW.trod enc_ Tryd.prog w base spare held n e cs' = some y ∧ ∀ j u, cs'[j]? = some u → w.cell? ⟨b, o + i * k + j, none⟩ = some u) := by
  rcases DataW.trod_slice ht h with ⟨h0, rfl⟩ | ⟨a, len, cap, elems, rest, n, hn, hc, rfl, hb, hl, hm, hlen, hel, -, -⟩
  · injection h0 with h0
    cases fuel with
    | zero => simp [DataW.trod] at h
    | succ n => exact ⟨n, none, 0, 0, [], rfl, h0, Nat.le_refl _, by omega, Nat.zero_le _, Nat.zero_le _, fun h => absurd h (Nat.lt_irrefl _)⟩
  · injection hc with hc
    subst hk
    have hE : ∀ i, i < len → ∃ (cs' : List Value) (y : DataW H × List MemPlace), cs'.length = Tryd.prog.cellsOf e ∧ (elems.map (·.1))[i]? = some y.1 ∧ DataW.trod enc_ Tryd.prog w base spare held n e cs' = some y ∧ ∀ j u, cs'[j]? = some u → w.cell? (a.add (i * Tryd.prog.cellsOf e + j)) = some u := fun i hi => by
      have h1 := hel i hi
      rw [List.getElem?_eq_getElem (by omega : i < elems.length)] at h1
      obtain ⟨cs', hc', ht'⟩ := Option.bind_eq_some_iff.1 h1
      obtain ⟨_, hl', hat⟩ := World.cells?_some hc'
      refine ⟨cs', elems[i]'(by omega), hl', by rw [List.getElem?_map, List.getElem?_eq_getElem (by omega : i < elems.length)]; rfl, ht', fun j u hj => ?_⟩
      have hjk : j < Tryd.prog.cellsOf e := by rw [← hl']; exact (List.getElem?_eq_some_iff.1 hj).1
      rw [← hj, ← hat j hjk, add_add]
    have hbl := bulk_len (elems.map (·.1))
    simp only [List.length_map] at hbl
    refine ⟨n, some a, len, cap, elems.map (·.1), hn, hc, hl, by unfold maxLen at hm; omega, by simp only [Rows.uptoBulk]; omega, by simp only [Rows.uptoBulk]; omega, fun hpos => ?_⟩
    obtain ⟨cs0, y0, hl0, _, _, hc0⟩ := hE 0 hpos
    obtain ⟨u, hu⟩ : ∃ u, cs0[0]? = some u := ⟨_, List.getElem?_eq_getElem (by omega)⟩
    have h0 := hc0 0 u hu
    have e0 : a.add (0 * Tryd.prog.cellsOf e + 0) = a := by rw [Nat.zero_mul]; exact if_pos rfl
    rw [e0] at h0
    obtain ⟨b, o, rfl⟩ := rd_plain h0
    refine ⟨b, o, rfl, fun i hi => ?_⟩
    obtain ⟨cs', y, h1, h2, h3, h4⟩ := hE i hi
    refine ⟨cs', y, h1, h2, h3, fun j u hj => ?_⟩
    have := h4 j u hj
    rw [rd_add] at this
    rw [Nat.add_assoc]; exact this
theorem wf_i64 {z : Int} (h : (Lit.int .i64 z).wf = true) : I64 z := by
  simp only [Lit.wf, Bool.and_eq_true, decide_eq_true_eq] at h
  exact h
theorem wf_u64 {z : Int} (h : (Lit.int .u64 z).wf = true) : 0 ≤ z ∧ z < 18446744073709551616 := by
  simp only [Lit.wf, Bool.and_eq_true, decide_eq_true_eq] at h
  have h1 : 0 ≤ z := h.1
  have h2 : z ≤ 18446744073709551615 := h.2
  omega
set_option maxRecDepth 100000 in
theorem read_dv : ∀ (fuel : Nat) (cs : List Value) (x : DataW H × List MemPlace), DataW.trod enc_ Tryd.prog w base spare held fuel 25 cs = some x → ∃ t, DvIs w fuel cs t ∧ t.wt ≤ Rows.uptoBulk x.1 := by
  intro fuel
  induction fuel using Nat.strongRecOn with
  | ind fuel ih =>
  intro cs x h
  obtain ⟨xs, m, hm, rfl, hlen, hx, hf⟩ := DataW.trod_struct Tryd.underlying25 h
  rw [co_Datum] at hlen
  match xs, hx with
  | [y0, y1, y2, y3, y4], _ =>
  match cs, hlen with
  | [c0, c1, c2, c3, c4], _ =>
    have q0 : DataW.trod enc_ Tryd.prog w base spare held m 3 [c0] = some y0 := by have h := hf 0 _ rfl; rw [show Tryd.prog.cellsOf _ = 1 from by kernel_rfl] at h; exact h
    have q1 : DataW.trod enc_ Tryd.prog w base spare held m 2 [c1] = some y1 := by have h := hf 1 _ rfl; rw [show Tryd.prog.cellsOf _ = 1 from by kernel_rfl] at h; exact h
    have q2 : DataW.trod enc_ Tryd.prog w base spare held m 22 [c2] = some y2 := by have h := hf 2 _ rfl; rw [show Tryd.prog.cellsOf _ = 1 from by kernel_rfl] at h; exact h
    have q3 : DataW.trod enc_ Tryd.prog w base spare held m 9 [c3] = some y3 := by have h := hf 3 _ rfl; rw [show Tryd.prog.cellsOf _ = 1 from by kernel_rfl] at h; exact h
    have q4 : DataW.trod enc_ Tryd.prog w base spare held m 23 [c4] = some y4 := by have h := hf 4 _ rfl; rw [show Tryd.prog.cellsOf _ = 1 from by kernel_rfl] at h; exact h
    obtain ⟨z0, rfl, f0⟩ := rdw_int Tryd.underlying3 q0
    obtain ⟨z1, rfl, f1⟩ := rdw_int Tryd.underlying2 q1
    obtain ⟨z2, rfl, f2⟩ := rdw_int Tryd.underlying22 q2
    obtain ⟨s, rfl, hs⟩ := rdw_string Tryd.underlying9 q3
    obtain ⟨n, p, len, cap, E, hn, rfl, hl, hc, hbE, -, hel⟩ := rdw_slice Tryd.underlying23 co_Datum (by decide) q4
    subst hn
    subst hm
    have hE : ∀ i, i < len → ∃ t : Dv, ∃ b o, p = some ⟨b, o, none⟩ ∧ (∃ d, E[i]? = some d ∧ t.wt ≤ Rows.uptoBulk d) ∧ ∃ c0 c1 c2 c3 c4, w.cell? ⟨b, o + i * 5, none⟩ = some c0 ∧ w.cell? ⟨b, o + i * 5 + 1, none⟩ = some c1 ∧ w.cell? ⟨b, o + i * 5 + 2, none⟩ = some c2 ∧ w.cell? ⟨b, o + i * 5 + 3, none⟩ = some c3 ∧ w.cell? ⟨b, o + i * 5 + 4, none⟩ = some c4 ∧ DvIs w n [c0, c1, c2, c3, c4] t := fun i hi => by
      obtain ⟨b, o, rfl, hel2⟩ := hel (by omega)
      obtain ⟨cs', y, hl', he, ht, hat⟩ := hel2 i hi
      match cs', hl' with
      | [c0, c1, c2, c3, c4], _ =>
        obtain ⟨t, ht', hw⟩ := ih n (by omega) _ _ ht
        exact ⟨t, b, o, rfl, ⟨_, he, hw⟩, c0, c1, c2, c3, c4, hat 0 _ rfl, hat 1 _ rfl, hat 2 _ rfl, hat 3 _ rfl, hat 4 _ rfl, ht'⟩
    obtain ⟨l, hll, hp⟩ := choose_list len hE
    subst hll
    refine ⟨.mk z0 z1 z2 s l, ⟨p, cap, rfl, wf_i64 f0, wf_i64 f1, wf_u64 f2, hl, hc, fun hpos => ?_⟩, ?_⟩
    · obtain ⟨b, o, rfl, -⟩ := hel hpos
      refine ⟨b, o, rfl, fun j t hj => ?_⟩
      obtain ⟨b', o', e, -, c0, c1, c2, c3, c4, g0, g1, g2, g3, g4, ht⟩ := hp j t hj
      injection e with e
      injection e with e1 e2
      subst e1; subst e2
      exact ⟨c0, c1, c2, c3, c4, g0, g1, g2, g3, g4, ht.succ⟩
    · have h1 := wts_le l E (fun j t hj => by obtain ⟨_, _, _, h2, _⟩ := hp j t hj; exact h2)
      simp only [Rows.uptoBulk, Rows.uptoBulkAll, List.map_cons, List.map_nil]
      show 1 + s.size + wts l ≤ _
      omega
set_option maxRecDepth 100000 in
theorem read_mv : ∀ (fuel : Nat) (cs : List Value) (x : DataW H × List MemPlace), DataW.trod enc_ Tryd.prog w base spare held fuel 39 cs = some x →
    ∃ (k : Nat) (id at_ un co pr hp : Int) (tp rp : ByteArray) (kd di db : Int) (ds : ByteArray) (q : Option Addr) (m c : Nat) (ps : List Dv), cs = [.int .i64 id, .string tp, .int .i64 kd, .int .i64 di, .int .u64 db, .string ds, .slice q m c, .int .i64 at_, .int .i64 un, .string rp, .int .i64 co, .int .i64 pr, .int .i64 hp] ∧
      DvIs w k [.int .i64 kd, .int .i64 di, .int .u64 db, .string ds, .slice q m c] (.mk kd di db ds ps) ∧ (Dv.mk kd di db ds ps).wt + tp.size + rp.size ≤ Rows.uptoBulk x.1 ∧ (∀ z ∈ [id, at_, un, co, pr, hp], I64 z) := by
  intro fuel cs x h
  obtain ⟨xs, m, hm, rfl, hlen, hx, hf⟩ := DataW.trod_struct Tryd.underlying39 h
  rw [co_Msg] at hlen
  match xs, hx with
  | [y0, y1, y2, y3, y4, y5, y6, y7, y8], _ =>
  match cs, hlen with
  | [c0, c1, c2, c3, c4, c5, c6, c7, c8, c9, c10, c11, c12], _ =>
    have q0 : DataW.trod enc_ Tryd.prog w base spare held m 2 [c0] = some y0 := by have h := hf 0 _ rfl; rw [show Tryd.prog.cellsOf _ = 1 from by kernel_rfl] at h; exact h
    have q1 : DataW.trod enc_ Tryd.prog w base spare held m 9 [c1] = some y1 := by have h := hf 1 _ rfl; rw [show Tryd.prog.cellsOf _ = 1 from by kernel_rfl] at h; exact h
    have q2 : DataW.trod enc_ Tryd.prog w base spare held m 25 [c2, c3, c4, c5, c6] = some y2 := by have h := hf 2 _ rfl; rw [show Tryd.prog.cellsOf _ = 5 from by kernel_rfl] at h; exact h
    have q3 : DataW.trod enc_ Tryd.prog w base spare held m 2 [c7] = some y3 := by have h := hf 3 _ rfl; rw [show Tryd.prog.cellsOf _ = 1 from by kernel_rfl] at h; exact h
    have q4 : DataW.trod enc_ Tryd.prog w base spare held m 2 [c8] = some y4 := by have h := hf 4 _ rfl; rw [show Tryd.prog.cellsOf _ = 1 from by kernel_rfl] at h; exact h
    have q5 : DataW.trod enc_ Tryd.prog w base spare held m 9 [c9] = some y5 := by have h := hf 5 _ rfl; rw [show Tryd.prog.cellsOf _ = 1 from by kernel_rfl] at h; exact h
    have q6 : DataW.trod enc_ Tryd.prog w base spare held m 2 [c10] = some y6 := by have h := hf 6 _ rfl; rw [show Tryd.prog.cellsOf _ = 1 from by kernel_rfl] at h; exact h
    have q7 : DataW.trod enc_ Tryd.prog w base spare held m 3 [c11] = some y7 := by have h := hf 7 _ rfl; rw [show Tryd.prog.cellsOf _ = 1 from by kernel_rfl] at h; exact h
    have q8 : DataW.trod enc_ Tryd.prog w base spare held m 3 [c12] = some y8 := by have h := hf 8 _ rfl; rw [show Tryd.prog.cellsOf _ = 1 from by kernel_rfl] at h; exact h
    obtain ⟨z0, rfl, f0⟩ := rdw_int Tryd.underlying2 q0
    obtain ⟨s1, rfl, g1⟩ := rdw_string Tryd.underlying9 q1
    obtain ⟨t, ht, g2⟩ := read_dv _ _ _ q2
    obtain ⟨z3, rfl, f3⟩ := rdw_int Tryd.underlying2 q3
    obtain ⟨z4, rfl, f4⟩ := rdw_int Tryd.underlying2 q4
    obtain ⟨s5, rfl, g5⟩ := rdw_string Tryd.underlying9 q5
    obtain ⟨z6, rfl, f6⟩ := rdw_int Tryd.underlying2 q6
    obtain ⟨z7, rfl, f7⟩ := rdw_int Tryd.underlying3 q7
    obtain ⟨z8, rfl, f8⟩ := rdw_int Tryd.underlying3 q8
    obtain ⟨kd, di, db, ds, ps⟩ := t
    obtain ⟨p, n, c, e⟩ := ht.cells
    injection e with e2 e
    injection e with e3 e
    injection e with e4 e
    injection e with e5 e
    injection e with e6
    subst e2; subst e3; subst e4; subst e5; subst e6
    refine ⟨m, z0, z3, z4, z6, z7, z8, s1, s5, kd, di, db, ds, p, n, c, ps, rfl, ht, ?_, ?_⟩
    · simp only [Rows.uptoBulk, Rows.uptoBulkAll, List.map_cons, List.map_nil]
      omega
    · intro z hz
      simp only [List.mem_cons, List.not_mem_nil, or_false] at hz
      rcases hz with rfl | rfl | rfl | rfl | rfl | rfl
      · exact wf_i64 f0
      · exact wf_i64 f3
      · exact wf_i64 f4
      · exact wf_i64 f6
      · exact wf_i64 f7
      · exact wf_i64 f8
end
end Go.Proofs.YtmncpbfghabamaaDoor
