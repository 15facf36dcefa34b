/- WIRE: the arguments opened: values. WIRE: conduitref01.Same of two that are the same. WIRE: the laws' copied; Same of two zero values. WIRE: WireValues walked. -/
import Derived.Test.YtmncpbfghabamaaDoorWireTabs
import Derived.Test.YtmncpbfghabamaaDoorWireValid
import Derived.JoinedCond
import Derived.Deep.Slices
import Derived.Carry
import Derived.Test.YtmncpbfghabamaaDoorWireLook
import Derived.Test.YtmncpbfghabamaaDoorWireREnc
import Derived.Test.YtmncpbfghabamaaDoorWireQB
import Derived.Test.YtmncpbfghabamaaDoorWireAwake
namespace Go.Proofs.YtmncpbfghabamaaDoor
open Go Go.ChangeShapes Go.WideShapes Go.ChangeAt Go.RowKit Go.Deep
attribute [local go_sem ↓] Go.wp_at_zero Go.wp_at_succ

theorem rd_plain {w : World} {a : Addr} {v : Value} (h : w.cell? a = some v) : ∃ b o, a = ⟨b, o, none⟩ := by
  obtain ⟨b, o, s⟩ := a
  cases s with
  | none => exact ⟨b, o, rfl⟩
  | some k => simp only [World.cell?] at h; split at h <;> simp at h
theorem rd_add {b o i : Nat} : (⟨b, o, none⟩ : Addr).add i = ⟨b, o + i, none⟩ := by unfold Addr.add; split <;> simp_all

mutual
/-- how much a value holds -/
def Dv.wt : Dv → Nat
  | .mk _ _ _ ds l => 1 + ds.size + wts l
def wts : List Dv → Nat
  | [] => 0
  | t :: r => t.wt + wts r
end
theorem leB_length (x : Nat) : ∀ n, (leB x n).length = n
  | 0 => rfl
  | n + 1 => by simp [leB, leB_length x n]
theorem ownB_len {kd di db : Int} {ds : ByteArray} {n : Nat} (hi : I64 di) (hs : ds.size < 18446744073709551616) (hn : n < 18446744073709551616) : (ownB kd di db ds n).length ≤ 30 + ds.size := by
  have h1 := numB_ten (zig_lt hi.1 hi.2)
  have h2 := numB_ten hs
  have h3 := numB_ten hn
  have h4 : ∀ x : Nat, x < 18446744073709551616 → (numB x).length ≤ 10 := fun x hx => numB_ten hx
  have h5 := leB_length db.toNat 8
  have h6 : ds.data.toList.length = ds.size := by simp
  unfold I64 at hi
  unfold ownB
  repeat' split
  all_goals (try simp only [List.length_append, List.length_singleton, List.length_nil])
  all_goals (try omega)
  all_goals (have := h4 (di % 18446744073709551616).toNat (by omega); omega)
mutual
theorem enc_wt {w : World} : ∀ (k : Nat) (cs : List Value) (t : Dv), DvIs w k cs t → t.wt ≤ 1048576 → (enc t).length ≤ 32 * t.wt
  | 0, _, _, h, _ => h.elim
  | k + 1, cs, .mk kd di db ds l, h, hw => by
    obtain ⟨p, cap, e, i1, i2, i3, h2, h3, h4⟩ := h
    have hw' : 1 + ds.size + wts l ≤ 1048576 := hw
    have h5 := ownB_len (kd := kd) (db := db) (n := l.length) i2 (show ds.size < 18446744073709551616 by omega) (by omega)
    have h6 := encs_wt k l (fun j t hj => by
      obtain ⟨b, o, hp, hc⟩ := h4 (by have := (List.getElem?_eq_some_iff.1 hj).1; omega)
      obtain ⟨c0, c1, c2, c3, c4, -, -, -, -, -, ht⟩ := hc j t hj
      exact ⟨_, ht⟩) (by omega)
    have e1 : (enc (.mk kd di db ds l)).length = 1 + ((ownB kd di db ds l.length).length + (encs l).length) := by simp [enc]; omega
    have e2 : (Dv.mk kd di db ds l).wt = 1 + ds.size + wts l := rfl
    omega
theorem encs_wt {w : World} : ∀ (k : Nat) (l : List Dv), (∀ (j : Nat) (t : Dv), l[j]? = some t → ∃ cs, DvIs w k cs t) → wts l ≤ 1048576 → (encs l).length ≤ 32 * wts l
  | _, [], _, _ => by simp [encs]
  | k, t :: r, hc, hs => by
    have hs' : t.wt + wts r ≤ 1048576 := hs
    obtain ⟨cs, h⟩ := hc 0 t rfl
    have h1 := enc_wt k cs t h (by omega)
    have h2 := encs_wt k r (fun j t hj => hc (j + 1) t hj) (by omega)
    have e1 : (encs (t :: r)).length = (enc t).length + (encs r).length := by simp [encs]
    have e2 : wts (t :: r) = t.wt + wts r := rfl
    omega
end
theorem DvIs.succ {w : World} : ∀ {k : Nat} {cs : List Value} {t : Dv}, DvIs w k cs t → DvIs w (k + 1) cs t := by
  intro k
  induction k with
  | zero => intro cs t h; exact h.elim
  | succ k ih =>
    intro cs t h
    obtain ⟨kd, di, db, ds, l⟩ := t
    obtain ⟨p, cap, h1, i1, i2, i3, h2, h3, h4⟩ := h
    refine ⟨p, cap, h1, i1, i2, i3, h2, h3, fun hn => ?_⟩
    obtain ⟨b, o, hp, hc⟩ := h4 hn
    refine ⟨b, o, hp, fun j t hj => ?_⟩
    obtain ⟨c0, c1, c2, c3, c4, q0, q1, q2, q3, q4, ht⟩ := hc j t hj
    exact ⟨c0, c1, c2, c3, c4, q0, q1, q2, q3, q4, ih ht⟩
theorem DvIs.cells {w : World} {k : Nat} {cs : List Value} {kd di db : Int} {ds : ByteArray} {ps : List Dv} (h : DvIs w k cs (.mk kd di db ds ps)) : ∃ p n c, cs = [.int .i64 kd, .int .i64 di, .int .u64 db, .string ds, .slice p n c] := by
  cases k with
  | zero => exact h.elim
  | succ k => obtain ⟨p, cap, e, -⟩ := h; exact ⟨p, _, cap, e⟩
theorem choose_list {α : Type} {P : Nat → α → Prop} : ∀ n, (∀ i, i < n → ∃ a, P i a) → ∃ l : List α, l.length = n ∧ ∀ j a, l[j]? = some a → P j a := by
  intro n
  induction n with
  | zero => intro _; exact ⟨[], rfl, fun j a h => by simp at h⟩
  | succ n ih =>
    intro h
    obtain ⟨l, hl, hp⟩ := ih fun i hi => h i (by omega)
    obtain ⟨a, ha⟩ := h n (by omega)
    refine ⟨l ++ [a], by simp [hl], fun j b hj => ?_⟩
    rcases Nat.lt_or_ge j n with hjn | hjn
    · rw [List.getElem?_append_left (by omega)] at hj
      exact hp j b hj
    · rw [List.getElem?_append_right (by omega)] at hj
      have hj0 : j - l.length = 0 := by have := (List.getElem?_eq_some_iff.1 hj).1; simp at this; omega
      rw [hj0] at hj
      simp at hj
      subst hj
      obtain rfl : j = n := by omega
      exact ha
theorem wts_le {H : Type} : ∀ (l : List Dv) (E : List (DataW H)), (∀ (j : Nat) (t : Dv), l[j]? = some t → ∃ d, E[j]? = some d ∧ t.wt ≤ Rows.uptoBulk d) → wts l ≤ Rows.uptoBulkAll E
  | [], _, _ => by simp [wts]
  | t :: r, [], h => by
    obtain ⟨d, hd, -⟩ := h 0 t rfl
    simp at hd
  | t :: r, e :: E, h => by
    obtain ⟨d, hd, h1⟩ := h 0 t rfl
    simp at hd
    subst hd
    have h2 := wts_le r E (fun j t hj => h (j + 1) t hj)
    simp only [wts, Rows.uptoBulkAll]
    omega
theorem co_Datum : Tryd.prog.cellsOf 25 = 5 := by kernel_rfl
theorem co_Msg : Tryd.prog.cellsOf 39 = 13 := by kernel_rfl
section
variable {H : Type} {enc_ : TypeId × Value → H} {w : World} {base : Nat} {spare : Nat → Bool} {held : Bool}
theorem rdw_int {k : IntKind} {t : TypeId} {c : Value} {n : Nat} {y : DataW H × List MemPlace} (ht : Tryd.prog.underlying t = some (.int k)) (h : DataW.trod enc_ Tryd.prog w base spare held n t [c] = some y) : ∃ z, c = .int k z ∧ (Lit.int k z).wf = true := by
  obtain ⟨z, hz, _, hw⟩ := DataW.trod_int ht h
  injection hz with hz
  exact ⟨z, hz, hw⟩
theorem rdw_string {t : TypeId} {c : Value} {n : Nat} {y : DataW H × List MemPlace} (ht : Tryd.prog.underlying t = some .string) (h : DataW.trod enc_ Tryd.prog w base spare held n t [c] = some y) : ∃ s : ByteArray, c = .string s ∧ s.size + 1 ≤ Rows.uptoBulk y.1 := by
  obtain ⟨s, hz, rfl, _⟩ := DataW.trod_string ht h
  injection hz with hz
  refine ⟨s, hz, ?_⟩
  simp [Rows.uptoBulk]
theorem rdw_slice {t e : TypeId} {fuel : Nat} {c : Value} {x : DataW H × List MemPlace} {k : Nat} (ht : Tryd.prog.underlying t = some (.slice e)) (hk : Tryd.prog.cellsOf e = k) (hk0 : 0 < k) (h : DataW.trod enc_ Tryd.prog w base spare held fuel t [c] = some x) :
    ∃ n p len cap, ∃ E : List (DataW H), fuel = n + 1 ∧ c = .slice p len cap ∧ len ≤ cap ∧ cap ≤ 9223372036854775807 ∧ Rows.uptoBulkAll E ≤ Rows.uptoBulk x.1 ∧ len ≤ Rows.uptoBulk x.1 ∧ (0 < len → ∃ b o, p = some ⟨b, o, none⟩ ∧
      ∀ i, i < len → ∃ (cs' : List Value) (y : DataW H × List MemPlace), cs'.length = k ∧ E[i]? = some y.1 ∧ DataW.trod enc_ Tryd.prog w base spare held n e cs' = some y ∧ ∀ j u, cs'[j]? = some u → w.cell? ⟨b, o + i * k + j, none⟩ = some u) := by
  rcases DataW.trod_slice ht h with ⟨h0, rfl⟩ | ⟨a, len, cap, elems, rest, n, hn, hc, rfl, hb, hl, hm, hlen, hel, -, -⟩
  · injection h0 with h0
    cases fuel with
    | zero => simp [DataW.trod] at h
    | succ n => exact ⟨n, none, 0, 0, [], rfl, h0, Nat.le_refl _, by omega, Nat.zero_le _, Nat.zero_le _, fun h => absurd h (Nat.lt_irrefl _)⟩
  · injection hc with hc
    subst hk
    have hE : ∀ i, i < len → ∃ (cs' : List Value) (y : DataW H × List MemPlace), cs'.length = Tryd.prog.cellsOf e ∧ (elems.map (·.1))[i]? = some y.1 ∧ DataW.trod enc_ Tryd.prog w base spare held n e cs' = some y ∧ ∀ j u, cs'[j]? = some u → w.cell? (a.add (i * Tryd.prog.cellsOf e + j)) = some u := fun i hi => by
      have h1 := hel i hi
      rw [List.getElem?_eq_getElem (by omega : i < elems.length)] at h1
      obtain ⟨cs', hc', ht'⟩ := Option.bind_eq_some_iff.1 h1
      obtain ⟨_, hl', hat⟩ := World.cells?_some hc'
      refine ⟨cs', elems[i]'(by omega), hl', by rw [List.getElem?_map, List.getElem?_eq_getElem (by omega : i < elems.length)]; rfl, ht', fun j u hj => ?_⟩
      have hjk : j < Tryd.prog.cellsOf e := by rw [← hl']; exact (List.getElem?_eq_some_iff.1 hj).1
      rw [← hj, ← hat j hjk, add_add]
    have hbl := bulk_len (elems.map (·.1))
    simp only [List.length_map] at hbl
    refine ⟨n, some a, len, cap, elems.map (·.1), hn, hc, hl, by unfold maxLen at hm; omega, by simp only [Rows.uptoBulk]; omega, by simp only [Rows.uptoBulk]; omega, fun hpos => ?_⟩
    obtain ⟨cs0, y0, hl0, _, _, hc0⟩ := hE 0 hpos
    obtain ⟨u, hu⟩ : ∃ u, cs0[0]? = some u := ⟨_, List.getElem?_eq_getElem (by omega)⟩
    have h0 := hc0 0 u hu
    have e0 : a.add (0 * Tryd.prog.cellsOf e + 0) = a := by rw [Nat.zero_mul]; exact if_pos rfl
    rw [e0] at h0
    obtain ⟨b, o, rfl⟩ := rd_plain h0
    refine ⟨b, o, rfl, fun i hi => ?_⟩
    obtain ⟨cs', y, h1, h2, h3, h4⟩ := hE i hi
    refine ⟨cs', y, h1, h2, h3, fun j u hj => ?_⟩
    have := h4 j u hj
    rw [rd_add] at this
    rw [Nat.add_assoc]; exact this
theorem wf_i64 {z : Int} (h : (Lit.int .i64 z).wf = true) : I64 z := by
  simp only [Lit.wf, Bool.and_eq_true, decide_eq_true_eq] at h
  exact h
theorem wf_u64 {z : Int} (h : (Lit.int .u64 z).wf = true) : 0 ≤ z ∧ z < 18446744073709551616 := by
  simp only [Lit.wf, Bool.and_eq_true, decide_eq_true_eq] at h
  have h1 : 0 ≤ z := h.1
  have h2 : z ≤ 18446744073709551615 := h.2
  omega
set_option maxRecDepth 100000 in
theorem read_dv : ∀ (fuel : Nat) (cs : List Value) (x : DataW H × List MemPlace), DataW.trod enc_ Tryd.prog w base spare held fuel 25 cs = some x → ∃ t, DvIs w fuel cs t ∧ t.wt ≤ Rows.uptoBulk x.1 := by
  intro fuel
  induction fuel using Nat.strongRecOn with
  | ind fuel ih =>
  intro cs x h
  obtain ⟨xs, m, hm, rfl, hlen, hx, hf⟩ := DataW.trod_struct Tryd.underlying25 h
  rw [co_Datum] at hlen
  match xs, hx with
  | [y0, y1, y2, y3, y4], _ =>
  match cs, hlen with
  | [c0, c1, c2, c3, c4], _ =>
    have q0 : DataW.trod enc_ Tryd.prog w base spare held m 3 [c0] = some y0 := by have h := hf 0 _ rfl; rw [show Tryd.prog.cellsOf _ = 1 from by kernel_rfl] at h; exact h
    have q1 : DataW.trod enc_ Tryd.prog w base spare held m 2 [c1] = some y1 := by have h := hf 1 _ rfl; rw [show Tryd.prog.cellsOf _ = 1 from by kernel_rfl] at h; exact h
    have q2 : DataW.trod enc_ Tryd.prog w base spare held m 22 [c2] = some y2 := by have h := hf 2 _ rfl; rw [show Tryd.prog.cellsOf _ = 1 from by kernel_rfl] at h; exact h
    have q3 : DataW.trod enc_ Tryd.prog w base spare held m 9 [c3] = some y3 := by have h := hf 3 _ rfl; rw [show Tryd.prog.cellsOf _ = 1 from by kernel_rfl] at h; exact h
    have q4 : DataW.trod enc_ Tryd.prog w base spare held m 23 [c4] = some y4 := by have h := hf 4 _ rfl; rw [show Tryd.prog.cellsOf _ = 1 from by kernel_rfl] at h; exact h
    obtain ⟨z0, rfl, f0⟩ := rdw_int Tryd.underlying3 q0
    obtain ⟨z1, rfl, f1⟩ := rdw_int Tryd.underlying2 q1
    obtain ⟨z2, rfl, f2⟩ := rdw_int Tryd.underlying22 q2
    obtain ⟨s, rfl, hs⟩ := rdw_string Tryd.underlying9 q3
    obtain ⟨n, p, len, cap, E, hn, rfl, hl, hc, hbE, -, hel⟩ := rdw_slice Tryd.underlying23 co_Datum (by decide) q4
    subst hn
    subst hm
    have hE : ∀ i, i < len → ∃ t : Dv, ∃ b o, p = some ⟨b, o, none⟩ ∧ (∃ d, E[i]? = some d ∧ t.wt ≤ Rows.uptoBulk d) ∧ ∃ c0 c1 c2 c3 c4, w.cell? ⟨b, o + i * 5, none⟩ = some c0 ∧ w.cell? ⟨b, o + i * 5 + 1, none⟩ = some c1 ∧ w.cell? ⟨b, o + i * 5 + 2, none⟩ = some c2 ∧ w.cell? ⟨b, o + i * 5 + 3, none⟩ = some c3 ∧ w.cell? ⟨b, o + i * 5 + 4, none⟩ = some c4 ∧ DvIs w n [c0, c1, c2, c3, c4] t := fun i hi => by
      obtain ⟨b, o, rfl, hel2⟩ := hel (by omega)
      obtain ⟨cs', y, hl', he, ht, hat⟩ := hel2 i hi
      match cs', hl' with
      | [c0, c1, c2, c3, c4], _ =>
        obtain ⟨t, ht', hw⟩ := ih n (by omega) _ _ ht
        exact ⟨t, b, o, rfl, ⟨_, he, hw⟩, c0, c1, c2, c3, c4, hat 0 _ rfl, hat 1 _ rfl, hat 2 _ rfl, hat 3 _ rfl, hat 4 _ rfl, ht'⟩
    obtain ⟨l, hll, hp⟩ := choose_list len hE
    subst hll
    refine ⟨.mk z0 z1 z2 s l, ⟨p, cap, rfl, wf_i64 f0, wf_i64 f1, wf_u64 f2, hl, hc, fun hpos => ?_⟩, ?_⟩
    · obtain ⟨b, o, rfl, -⟩ := hel hpos
      refine ⟨b, o, rfl, fun j t hj => ?_⟩
      obtain ⟨b', o', e, -, c0, c1, c2, c3, c4, g0, g1, g2, g3, g4, ht⟩ := hp j t hj
      injection e with e
      injection e with e1 e2
      subst e1; subst e2
      exact ⟨c0, c1, c2, c3, c4, g0, g1, g2, g3, g4, ht.succ⟩
    · have h1 := wts_le l E (fun j t hj => by obtain ⟨_, _, _, h2, _⟩ := hp j t hj; exact h2)
      simp only [Rows.uptoBulk, Rows.uptoBulkAll, List.map_cons, List.map_nil]
      show 1 + s.size + wts l ≤ _
      omega
set_option maxRecDepth 100000 in
theorem read_mv : ∀ (fuel : Nat) (cs : List Value) (x : DataW H × List MemPlace), DataW.trod enc_ Tryd.prog w base spare held fuel 39 cs = some x →
    ∃ (k : Nat) (id at_ un co pr hp : Int) (tp rp : ByteArray) (kd di db : Int) (ds : ByteArray) (q : Option Addr) (m c : Nat) (ps : List Dv), cs = [.int .i64 id, .string tp, .int .i64 kd, .int .i64 di, .int .u64 db, .string ds, .slice q m c, .int .i64 at_, .int .i64 un, .string rp, .int .i64 co, .int .i64 pr, .int .i64 hp] ∧
      DvIs w k [.int .i64 kd, .int .i64 di, .int .u64 db, .string ds, .slice q m c] (.mk kd di db ds ps) ∧ (Dv.mk kd di db ds ps).wt + tp.size + rp.size ≤ Rows.uptoBulk x.1 ∧ (∀ z ∈ [id, at_, un, co, pr, hp], I64 z) := by
  intro fuel cs x h
  obtain ⟨xs, m, hm, rfl, hlen, hx, hf⟩ := DataW.trod_struct Tryd.underlying39 h
  rw [co_Msg] at hlen
  match xs, hx with
  | [y0, y1, y2, y3, y4, y5, y6, y7, y8], _ =>
  match cs, hlen with
  | [c0, c1, c2, c3, c4, c5, c6, c7, c8, c9, c10, c11, c12], _ =>
    have q0 : DataW.trod enc_ Tryd.prog w base spare held m 2 [c0] = some y0 := by have h := hf 0 _ rfl; rw [show Tryd.prog.cellsOf _ = 1 from by kernel_rfl] at h; exact h
    have q1 : DataW.trod enc_ Tryd.prog w base spare held m 9 [c1] = some y1 := by have h := hf 1 _ rfl; rw [show Tryd.prog.cellsOf _ = 1 from by kernel_rfl] at h; exact h
    have q2 : DataW.trod enc_ Tryd.prog w base spare held m 25 [c2, c3, c4, c5, c6] = some y2 := by have h := hf 2 _ rfl; rw [show Tryd.prog.cellsOf _ = 5 from by kernel_rfl] at h; exact h
    have q3 : DataW.trod enc_ Tryd.prog w base spare held m 2 [c7] = some y3 := by have h := hf 3 _ rfl; rw [show Tryd.prog.cellsOf _ = 1 from by kernel_rfl] at h; exact h
    have q4 : DataW.trod enc_ Tryd.prog w base spare held m 2 [c8] = some y4 := by have h := hf 4 _ rfl; rw [show Tryd.prog.cellsOf _ = 1 from by kernel_rfl] at h; exact h
    have q5 : DataW.trod enc_ Tryd.prog w base spare held m 9 [c9] = some y5 := by have h := hf 5 _ rfl; rw [show Tryd.prog.cellsOf _ = 1 from by kernel_rfl] at h; exact h
    have q6 : DataW.trod enc_ Tryd.prog w base spare held m 2 [c10] = some y6 := by have h := hf 6 _ rfl; rw [show Tryd.prog.cellsOf _ = 1 from by kernel_rfl] at h; exact h
    have q7 : DataW.trod enc_ Tryd.prog w base spare held m 3 [c11] = some y7 := by have h := hf 7 _ rfl; rw [show Tryd.prog.cellsOf _ = 1 from by kernel_rfl] at h; exact h
    have q8 : DataW.trod enc_ Tryd.prog w base spare held m 3 [c12] = some y8 := by have h := hf 8 _ rfl; rw [show Tryd.prog.cellsOf _ = 1 from by kernel_rfl] at h; exact h
    obtain ⟨z0, rfl, f0⟩ := rdw_int Tryd.underlying2 q0
    obtain ⟨s1, rfl, g1⟩ := rdw_string Tryd.underlying9 q1
    obtain ⟨t, ht, g2⟩ := read_dv _ _ _ q2
    obtain ⟨z3, rfl, f3⟩ := rdw_int Tryd.underlying2 q3
    obtain ⟨z4, rfl, f4⟩ := rdw_int Tryd.underlying2 q4
    obtain ⟨s5, rfl, g5⟩ := rdw_string Tryd.underlying9 q5
    obtain ⟨z6, rfl, f6⟩ := rdw_int Tryd.underlying2 q6
    obtain ⟨z7, rfl, f7⟩ := rdw_int Tryd.underlying3 q7
    obtain ⟨z8, rfl, f8⟩ := rdw_int Tryd.underlying3 q8
    obtain ⟨kd, di, db, ds, ps⟩ := t
    obtain ⟨p, n, c, e⟩ := ht.cells
    injection e with e2 e
    injection e with e3 e
    injection e with e4 e
    injection e with e5 e
    injection e with e6
    subst e2; subst e3; subst e4; subst e5; subst e6
    refine ⟨m, z0, z3, z4, z6, z7, z8, s1, s5, kd, di, db, ds, p, n, c, ps, rfl, ht, ?_, ?_⟩
    · simp only [Rows.uptoBulk, Rows.uptoBulkAll, List.map_cons, List.map_nil]
      omega
    · intro z hz
      simp only [List.mem_cons, List.not_mem_nil, or_false] at hz
      rcases hz with rfl | rfl | rfl | rfl | rfl | rfl
      · exact wf_i64 f0
      · exact wf_i64 f3
      · exact wf_i64 f4
      · exact wf_i64 f6
      · exact wf_i64 f7
      · exact wf_i64 f8
end

theorem below_of_drew {n : Nat} {w W : World} (h : Below n w.drew W) : Below n w W := ⟨h.os, h.tape, h.output, h.size, h.block⟩
theorem below_drew' {n : Nat} {w W : World} (h : Below n w W) : Below n w W.drew := ⟨h.os, h.tape, h.output, h.size, h.block⟩
set_option maxRecDepth 100000 in
set_option maxHeartbeats 8000000 in
theorem same_any : ∀ (k : Nat) (w : World) (k2 : Nat) (kd di db : Int) (ds : ByteArray) (p : Option Addr) (n cap : Nat) (p2 : Option Addr) (cap2 : Nat) (ps : List Dv), DvIs w k [.int .i64 kd, .int .i64 di, .int .u64 db, .string ds, .slice p n cap] (.mk kd di db ds ps) → DvIs w k2 [.int .i64 kd, .int .i64 di, .int .u64 db, .string ds, .slice p2 n cap2] (.mk kd di db ds ps) →
    Calls Tryd.prog 16 #[.agg #[.int .i64 kd, .int .i64 di, .int .u64 db, .string ds, .slice p n cap], .agg #[.int .i64 kd, .int .i64 di, .int .u64 db, .string ds, .slice p2 n cap2]] w (FtPost w) := by
  intro k
  induction k with
  | zero => intro w k2 kd di db ds p n cap p2 cap2 ps h; exact h.elim
  | succ k ih =>
    intro w k2 kd di db ds p n cap p2 cap2 ps hD hD2
    have IH := Lib.hid ih
    clear ih
    obtain ⟨hn, -, -, -, k1, k2'⟩ := hD.top
    obtain ⟨-, -, -, -, k3, k4⟩ := hD2.top
    have HN : Hid (ps.length = n) := hn.symm
    obtain ⟨k2, rfl⟩ := hD2.form
    have HD := Lib.hid hD
    have HD2 := Lib.hid hD2
    obtain ⟨PP, hPP⟩ : ∃ PP, FtPost w = PP := ⟨_, rfl⟩
    rw [hPP]
    have HPP := Lib.hid hPP
    clear hPP hD hD2 hn
    have HB0 : Hid (Below w.heap.size w ((w.alloc (.cells #[.int .i64 kd, .int .i64 di, .int .u64 db, .string ds, .slice p n cap] 25)).alloc (.cells #[.int .i64 kd, .int .i64 di, .int .u64 db, .string ds, .slice p2 n cap2] 25))) := ((Below.refl _ _).alloc (Nat.le_refl _) _).alloc (by simp) _
    have HC : Hid (∀ W, Below (w.heap.size + 2) ((w.alloc (.cells #[.int .i64 kd, .int .i64 di, .int .u64 db, .string ds, .slice p n cap] 25)).alloc (.cells #[.int .i64 kd, .int .i64 di, .int .u64 db, .string ds, .slice p2 n cap2] 25)) W → W.cell? ⟨w.heap.size, 4, none⟩ = some (.slice p n cap) ∧ W.cell? ⟨w.heap.size + 1, 4, none⟩ = some (.slice p2 n cap2) ∧ w.heap.size + 1 < W.heap.size) := fun W hb => by
      have hs := hb.size
      simp only [World.size_alloc] at hs
      have h1 : ((w.alloc (.cells #[.int .i64 kd, .int .i64 di, .int .u64 db, .string ds, .slice p n cap] 25)).alloc (.cells #[.int .i64 kd, .int .i64 di, .int .u64 db, .string ds, .slice p2 n cap2] 25)).heap[w.heap.size]? = some (.cells #[.int .i64 kd, .int .i64 di, .int .u64 db, .string ds, .slice p n cap] 25 (0, 0)) := (Below.heap_alloc _ _ _ (by simp)).trans (heap_alloc_new w _)
      have h2 := heap_alloc_new (w.alloc (.cells #[.int .i64 kd, .int .i64 di, .int .u64 db, .string ds, .slice p n cap] 25)) (.cells #[.int .i64 kd, .int .i64 di, .int .u64 db, .string ds, .slice p2 n cap2] 25)
      rw [World.size_alloc] at h2
      refine ⟨?_, ?_, by omega⟩
      · rw [hb.cell (show w.heap.size < w.heap.size + 2 by omega), cell_of_row _ _ _ _ _ _ h1]; rfl
      · rw [hb.cell (show w.heap.size + 1 < w.heap.size + 2 by omega), cell_of_row _ _ _ _ _ _ h2]; rfl
    go_enter Tryd.func16, Tryd.ntmps16
    go_wp2_with fail
    go_loopw [5, 44] (fun s5 s44 wr => ∃ (j : Nat), s44 = .int .i64 (j : Nat) ∧ j ≤ n ∧ Hid (Below (w.heap.size + 2) ((w.alloc (.cells #[.int .i64 kd, .int .i64 di, .int .u64 db, .string ds, .slice p n cap] 25)).alloc (.cells #[.int .i64 kd, .int .i64 di, .int .u64 db, .string ds, .slice p2 n cap2] 25)) wr)) (fun _ s44 _ => n - (intOf s44).toNat)
    case atStart => exact ⟨0, rfl, by omega, Below.refl _ _⟩
    case round =>
      obtain ⟨j, rfl, hj, HB⟩ := hrel
      have HBw : Hid (Below w.heap.size w wr) := HB0.out.trans (HB.out.mono (by omega))
      obtain ⟨f1, f2, f4⟩ := HC.out wr HB.out
      have f3 : w.heap.size < wr.heap.size := by omega
      by_cases hlt : j < n
      · obtain ⟨t, ht⟩ : ∃ t, ps[j]? = some t := ⟨_, List.getElem?_eq_getElem (by rw [HN.out]; exact hlt)⟩
        obtain ⟨b, o, kd', di', db', ds', q, m, c, ps', rfl, hb0, hbl, rfl, d0, d1, d2, d3, d4, hP⟩ := HD.out.partIn HBw.out ht
        obtain ⟨b2, o2, kd2, di2, db2, ds2, q2, m2, c2, ps2, rfl, hb02, hbl2, ht2, e0, e1, e2, e3, e4, hP2⟩ := HD2.out.partIn HBw.out ht
        injection ht2 with y0 y1 y2 y3 y4
        subst y0; subst y1; subst y2; subst y3; subst y4
        obtain rfl : m2 = m := by rw [hP.top.1, hP2.top.1]
        have HSW : Hid (w.heap.size + 2 ≤ wr.heap.size) := by show _ ≤ _; omega
        have CX : Hid (∀ W, Below wr.heap.size wr W → Calls Tryd.prog 16 #[.agg #[.int .i64 kd', .int .i64 di', .int .u64 db', .string ds', .slice q m2 c], .agg #[.int .i64 kd', .int .i64 di', .int .u64 db', .string ds', .slice q2 m2 c2]] W (FtPost W)) := fun W hb => IH.out W k2 kd' di' db' ds' q m2 c q2 c2 ps' ((hP.below HBw.out).below hb) ((hP2.below HBw.out).below hb)
        have g0 : (j : Int) < (n : Int) := by omega
        have g00 : (0 : Int) ≤ (j : Int) := by omega
        clear ht hP hP2 hb0 hb02
        go_wp2_with fail
        go_region_held3 (fun w' => w'.cell? ⟨w.heap.size, 4, none⟩ = some (.slice (some ⟨b, o, none⟩) n cap) ∧ w'.cell? ⟨w.heap.size + 1, 4, none⟩ = some (.slice (some ⟨b2, o2, none⟩) n cap2) ∧ w'.cell? ⟨b, o + j * 5, none⟩ = some (.int .i64 kd') ∧ w'.cell? ⟨b, o + j * 5 + 1, none⟩ = some (.int .i64 di') ∧ w'.cell? ⟨b, o + j * 5 + 2, none⟩ = some (.int .u64 db') ∧ w'.cell? ⟨b, o + j * 5 + 3, none⟩ = some (.string ds') ∧ w'.cell? ⟨b, o + j * 5 + 4, none⟩ = some (.slice q m2 c) ∧ w'.cell? ⟨b2, o2 + j * 5, none⟩ = some (.int .i64 kd') ∧ w'.cell? ⟨b2, o2 + j * 5 + 1, none⟩ = some (.int .i64 di') ∧ w'.cell? ⟨b2, o2 + j * 5 + 2, none⟩ = some (.int .u64 db') ∧ w'.cell? ⟨b2, o2 + j * 5 + 3, none⟩ = some (.string ds') ∧ w'.cell? ⟨b2, o2 + j * 5 + 4, none⟩ = some (.slice q2 m2 c2)) (first | go_keep) (first | (go_at_call 16; refine (CX.out _ (by first | exact below_drew' (Below.refl _ _) | exact Below.refl _ _)).mono ?_; rintro e W ⟨rfl, hb⟩; have BW := Lib.hid (HB.out.trans (below_of_drew (hb.mono HSW.out))); have g1 := (hb.cell f3).trans f1; have g2 := (hb.cell f4).trans f2; have k0 := (hb.cell hbl).trans d0; have k1 := (hb.cell hbl).trans d1; have k2 := (hb.cell hbl).trans d2; have k3 := (hb.cell hbl).trans d3; have k4 := (hb.cell hbl).trans d4; have l0 := (hb.cell hbl2).trans e0; have l1 := (hb.cell hbl2).trans e1; have l2 := (hb.cell hbl2).trans e2; have l3 := (hb.cell hbl2).trans e3; have l4 := (hb.cell hbl2).trans e4; clear hb))
        go_wp2_with fail
        go_roundw
        case rel => exact ⟨j + 1, by go_num, by omega, by first | exact BW.out | exact below_drew' BW.out⟩
        case measure => simp [intOf]; omega
      · obtain rfl : j = n := by omega
        have hjj : ¬ (j : Int) < (j : Int) := by omega
        go_wp2_with fail
        rw [← HPP.out]
        exact ⟨rfl, HBw.out⟩

set_option maxRecDepth 100000 in
set_option maxHeartbeats 2000000 in
theorem copied_any (l : List UInt8) (p : Option Addr) (n cap : Nat) (w : World) (hB : Bs w (.slice p n cap) l) (hl : l.length ≤ 100000000) :
    Calls Tryd.prog 13 #[.slice p n cap] w (BPost l w) := by
  obtain rfl : n = l.length := hB.len.1
  obtain ⟨PP, hPP⟩ : ∃ PP, BPost l w = PP := ⟨_, rfl⟩
  rw [hPP]
  have HPP := Lib.hid hPP
  have HB := Lib.hid hB
  have HL := Lib.hid hl
  clear hPP hB hl
  go_enter Tryd.func13, Tryd.ntmps13
  go_wp2_with (at_builtin; refine wpList_append_bytes _ rfl (.tmp 4) (.tmp 5) rfl w.heap.size (.slice none 0 0) [] rfl (World.ownsRow_nil _ _ _ _) p cap l rfl HB.out (by have := HL.out; simp; omega) (Nat.le_refl _) ?_; intro v' w1 hown' hgrow; obtain ⟨q', n', c', rfl⟩ := row_val hown')
  rw [← HPP.out]
  exact ⟨_, rfl, hown', ⟨hgrow.os, hgrow.tape, hgrow.output, hgrow.size, fun k hk => hgrow.block k hk (fun e => by simp [Value.ownBlock] at e)⟩⟩
set_option maxRecDepth 100000 in
theorem same_zero (w : World) (p p2 : Option Addr) (c c2 : Nat) :
    Calls Tryd.prog 16 #[.agg #[.int .i64 0, .int .i64 0, .int .u64 0, .string ⟨#[]⟩, .slice p 0 c], .agg #[.int .i64 0, .int .i64 0, .int .u64 0, .string ⟨#[]⟩, .slice p2 0 c2]] w (FtPost w) := by
  obtain ⟨PP, hPP⟩ : ∃ PP, FtPost w = PP := ⟨_, rfl⟩
  rw [hPP]
  have HPP := Lib.hid hPP
  clear hPP
  go_enter Tryd.func16, Tryd.ntmps16
  go_wp2_with fail
  go_loopw [5, 44] (fun s5 s44 wr => s44 = .int .i64 0 ∧ Below w.heap.size w wr) (fun _ _ _ => 0)
  case atStart => exact ⟨rfl, ((Below.refl _ _).alloc (Nat.le_refl _) _).alloc (by simp) _⟩
  case round =>
    obtain ⟨rfl, hb⟩ := hrel
    have HB := Lib.hid hb
    clear hb
    go_wp2_with fail
    rw [← HPP.out]
    exact ⟨rfl, HB.out⟩

/-- two readings of the same bytes -/
theorem rd_same {q : Rd (Dv × Nat)} {P1 P2 : Nat → Prop} {A1 A2 : World} {kd1 di1 db1 kd2 di2 db2 k1 e1 k2 e2 : Int} {ds1 ds2 : ByteArray} {p1 p2 : Option Addr} {n1 c1 n2 c2 : Nat}
    (h1 : match (generalizing := false) q with
      | .done t u => k1 = (u : Nat) ∧ e1 = 0 ∧ DvIn P1 A1 16 [.int .i64 kd1, .int .i64 di1, .int .u64 db1, .string ds1, .slice p1 n1 c1] t.1
      | .short => k1 = 0 ∧ e1 = 260 ∧ kd1 = 0 ∧ di1 = 0 ∧ db1 = 0 ∧ ds1 = ⟨#[]⟩ ∧ n1 = 0
      | .bad => k1 = 0 ∧ e1 = 262 ∧ kd1 = 0 ∧ di1 = 0 ∧ db1 = 0 ∧ ds1 = ⟨#[]⟩ ∧ n1 = 0)
    (h2 : match (generalizing := false) q with
      | .done t u => k2 = (u : Nat) ∧ e2 = 0 ∧ DvIn P2 A2 16 [.int .i64 kd2, .int .i64 di2, .int .u64 db2, .string ds2, .slice p2 n2 c2] t.1
      | .short => k2 = 0 ∧ e2 = 260 ∧ kd2 = 0 ∧ di2 = 0 ∧ db2 = 0 ∧ ds2 = ⟨#[]⟩ ∧ n2 = 0
      | .bad => k2 = 0 ∧ e2 = 262 ∧ kd2 = 0 ∧ di2 = 0 ∧ db2 = 0 ∧ ds2 = ⟨#[]⟩ ∧ n2 = 0) :
    k1 = k2 ∧ e1 = e2 ∧ kd1 = kd2 ∧ di1 = di2 ∧ db1 = db2 ∧ ds1 = ds2 ∧ n1 = n2 ∧ ((∃ ps, DvIn P1 A1 16 [.int .i64 kd1, .int .i64 di1, .int .u64 db1, .string ds1, .slice p1 n1 c1] (.mk kd1 di1 db1 ds1 ps) ∧ DvIn P2 A2 16 [.int .i64 kd2, .int .i64 di2, .int .u64 db2, .string ds2, .slice p2 n2 c2] (.mk kd1 di1 db1 ds1 ps)) ∨ (kd1 = 0 ∧ di1 = 0 ∧ db1 = 0 ∧ ds1 = ⟨#[]⟩ ∧ n1 = 0)) := by
  cases q with
  | done t u =>
    obtain ⟨a1, a2, a3⟩ := h1
    obtain ⟨b1, b2, b3⟩ := h2
    obtain ⟨ps, hps⟩ := a3.mk
    obtain ⟨ps2, hps2⟩ := b3.mk
    rw [hps] at a3 b3 hps2
    injection hps2 with y0 y1 y2 y3 y4
    subst y0; subst y1; subst y2; subst y3; subst y4
    exact ⟨a1.trans b1.symm, a2.trans b2.symm, rfl, rfl, rfl, rfl, by rw [a3.is.top.1, b3.is.top.1], .inl ⟨ps, a3, b3⟩⟩
  | short =>
    obtain ⟨rfl, rfl, rfl, rfl, rfl, rfl, rfl⟩ := h1
    obtain ⟨rfl, rfl, rfl, rfl, rfl, rfl, rfl⟩ := h2
    exact ⟨rfl, rfl, rfl, rfl, rfl, rfl, rfl, .inr ⟨rfl, rfl, rfl, rfl, rfl⟩⟩
  | bad =>
    obtain ⟨rfl, rfl, rfl, rfl, rfl, rfl, rfl⟩ := h1
    obtain ⟨rfl, rfl, rfl, rfl, rfl, rfl, rfl⟩ := h2
    exact ⟨rfl, rfl, rfl, rfl, rfl, rfl, rfl, .inr ⟨rfl, rfl, rfl, rfl, rfl⟩⟩
set_option linter.unusedSimpArgs false in
set_option maxRecDepth 100000 in
set_option maxHeartbeats 8000000 in
theorem wireValues_any (k : Nat) (w : World) (kd di db : Int) (ds : ByteArray) (p : Option Addr) (n cap : Nat) (ps : List Dv) (hD : DvIs w k [.int .i64 kd, .int .i64 di, .int .u64 db, .string ds, .slice p n cap] (.mk kd di db ds ps)) (hen : (enc (.mk kd di db ds ps)).length ≤ 100000000)
    (pb : Option Addr) (nb capb : Nat) (l : List UInt8) (hB : Bs w (.slice pb nb capb) l) (hl : l.length ≤ 100000000) (hT : Tabs w) :
    Calls Tryd.prog 3 #[.agg #[.int .i64 kd, .int .i64 di, .int .u64 db, .string ds, .slice p n cap], .slice pb nb capb] w (AwPost w) := by
  obtain rfl : nb = l.length := hB.len.1
  obtain ⟨PP, hPP⟩ : ∃ PP, AwPost w = PP := ⟨_, rfl⟩
  rw [hPP]
  have HPP := Lib.hid hPP
  have HTB := Lib.hid hT
  have HB := Lib.hid hB
  obtain ⟨A, hA⟩ : ∃ A, w.alloc (.cells #[.int .i64 kd, .int .i64 di, .int .u64 db, .string ds, .slice p n cap] 25) = A := ⟨_, rfl⟩
  have BA : Hid (Below w.heap.size w A) := by show Below _ _ _; rw [← hA]; exact (Below.refl _ _).alloc (Nat.le_refl _) _
  have KA : Hid (A.heap[w.heap.size]? = some (.cells #[.int .i64 kd, .int .i64 di, .int .u64 db, .string ds, .slice p n cap] 25 (0, 0))) := by show _ = _; rw [← hA]; exact heap_alloc_new w _
  have CV : Hid (∀ W, Below w.heap.size w W → Calls Tryd.prog 10 #[.agg #[.int .i64 kd, .int .i64 di, .int .u64 db, .string ds, .slice p n cap]] W (ValPost (.mk kd di db ds ps) W)) := fun W hb => valid_any k W kd di db ds p n cap ps (hD.below hb)
  have CW : Hid (∀ W, Below w.heap.size w W → Calls Tryd.prog 11 #[.agg #[.int .i64 kd, .int .i64 di, .int .u64 db, .string ds, .slice p n cap]] W (BPost (enc (.mk kd di db ds ps)) W)) := fun W hb => wdatum_top k W kd di db ds p n cap ps (hD.below hb) hen
  have CR : Hid (∀ W, Below w.heap.size w W → VB (.mk kd di db ds ps) → Calls Tryd.prog 12 #[.agg #[.int .i64 kd, .int .i64 di, .int .u64 db, .string ds, .slice p n cap]] W (BPost (enc (.mk kd di db ds ps)) W)) := fun W hb hv => rdatum_top k W kd di db ds p n cap ps (hD.below hb) (fair_right k _ _ hD hv.2 hv.1.1) hen
  have CC : Hid (∀ W, Below w.heap.size w W → Calls Tryd.prog 13 #[.slice pb l.length capb] W (BPost l W)) := fun W hb => copied_any l pb l.length capb W (hB.below hb) hl
  have HAA := Lib.hid hA
  clear hPP hT hB hD hA
  go_enter Tryd.func3, Tryd.ntmps3
  go_wp2_with fail
  rw [HAA.out]
  obtain ⟨c0, c1, c2, c3, c4, hlA⟩ := cells5 KA.out
  have HLA := Lib.hid hlA
  by_cases hv : VB (.mk kd di db ds ps)
  · have CV1 : Hid (∀ W, Below w.heap.size w W → Calls Tryd.prog 10 #[.agg #[.int .i64 kd, .int .i64 di, .int .u64 db, .string ds, .slice p n cap]] W (fun e w' => e = .returned (.bool true) ∧ Below W.heap.size W w')) := fun W hb => (CV.out W hb).mono fun e w' ⟨b, h1, h2, h3⟩ => ⟨by rw [h1, h2.2 hv], h3⟩
    have HV := Lib.hid hv
    clear hv
    refine wp_region_held_drew (S := (fun w' => w'.cell? ⟨w.heap.size, 0, none⟩ = some (.int .i64 kd) ∧ w'.cell? ⟨w.heap.size, 1, none⟩ = some (.int .i64 di) ∧ w'.cell? ⟨w.heap.size, 2, none⟩ = some (.int .u64 db) ∧ w'.cell? ⟨w.heap.size, 3, none⟩ = some (.string ds) ∧ w'.cell? ⟨w.heap.size, 4, none⟩ = some (.slice p n cap))) (by kernel_rfl) ⟨c0, c1, c2, c3, c4⟩ (fun hHeld => ?_)
    refine wpAnyH_take (i := 0) (oi := _) (v := ?_) rfl (by kernel_rfl) (by kernel_rfl) (by kernel_rfl) (fun _ _ _ h => h) (Or.inl ⟨by rfl, ?_⟩) (by assumption) ?_
    rotate_left
    focus (intro w' hSw; (try dsimp only at hSw); go_simp; try with_reducible rfl)
    (try simp only [Act.put, List.setIfInBounds_toArray, List.set_cons_zero, List.set_cons_succ, List.getElem_toArray, List.getElem_cons_succ, List.getElem_cons_zero])
    refine wpAnyH_ready (rs := [1]) (by kernel_rfl) (by simp) ?_
    refine AllReadyH.cons (o := _) rfl (fun K hK => ?_) AllReadyH.nil
    (go_simp; refine (CV1.out _ (below_drew' BA.out)).mono ?_; rintro e W1 ⟨rfl, hb⟩; have HB1 := Lib.hid ((below_drew' BA.out).trans (hb.mono BA.out.size)); have g0 := (hb.cell hlA).trans c0; have g1 := (hb.cell hlA).trans c1; have g2 := (hb.cell hlA).trans c2; have g3 := (hb.cell hlA).trans c3; have g4 := (hb.cell hlA).trans c4; have hl1 := Nat.lt_of_lt_of_le hlA hb.size; clear hb; try go_simp)
    refine hK.out _ _ ⟨g0, g1, g2, g3, g4⟩ (fun hHeld => ?_)
    clear hK K
    (try simp only [Act.put, List.setIfInBounds_toArray, List.set_cons_zero, List.set_cons_succ, List.getElem_toArray, List.getElem_cons_succ, List.getElem_cons_zero])
    refine wpAnyH_take (i := 2) (oi := _) (v := ?_) rfl (by kernel_rfl) (by kernel_rfl) (by kernel_rfl) (fun _ _ _ h => h) (Or.inl ⟨by rfl, ?_⟩) (by assumption) ?_
    rotate_left
    focus (intro w' hSw; (try dsimp only at hSw); go_simp; try with_reducible rfl)
    (try simp only [Act.put, List.setIfInBounds_toArray, List.set_cons_zero, List.set_cons_succ, List.getElem_toArray, List.getElem_cons_succ, List.getElem_cons_zero])
    refine wpAnyH_take (i := 3) (oi := _) (v := ?_) rfl (by kernel_rfl) (by kernel_rfl) (by kernel_rfl) (fun _ _ _ h => h) (Or.inl ⟨by rfl, ?_⟩) (by assumption) ?_
    rotate_left
    focus (intro w' hSw; (try dsimp only at hSw); go_simp; try with_reducible rfl)
    (try simp only [Act.put, List.setIfInBounds_toArray, List.set_cons_zero, List.set_cons_succ, List.getElem_toArray, List.getElem_cons_succ, List.getElem_cons_zero])
    refine wpAnyH_take (i := 6) (oi := _) (v := ?_) rfl (by kernel_rfl) (by kernel_rfl) (by kernel_rfl) (fun _ _ _ h => h) (Or.inl ⟨by rfl, ?_⟩) (by assumption) ?_
    rotate_left
    focus (intro w' hSw; (try dsimp only at hSw); go_simp; try with_reducible rfl)
    (try simp only [Act.put, List.setIfInBounds_toArray, List.set_cons_zero, List.set_cons_succ, List.getElem_toArray, List.getElem_cons_succ, List.getElem_cons_zero])
    refine wpAnyH_ready (rs := [4]) (by kernel_rfl) (by simp) ?_
    refine AllReadyH.cons (o := _) rfl (fun K hK => ?_) AllReadyH.nil
    (go_simp; refine (CW.out _ HB1.out).mono ?_; rintro e W2 ⟨v1, rfl, hr1, hb⟩; have HB2 := Lib.hid (HB1.out.trans (hb.mono HB1.out.size)); obtain ⟨q1, m1, cc1, rfl⟩ := row_val hr1; have HR1 := Lib.hid (bs_of_own hr1); have htx1 := HR1.out.text; have h0 := (hb.cell hl1).trans g0; have h1 := (hb.cell hl1).trans g1; have h2 := (hb.cell hl1).trans g2; have h3 := (hb.cell hl1).trans g3; have h4 := (hb.cell hl1).trans g4; have hl2 := Nat.lt_of_lt_of_le hl1 hb.size; clear hb hr1; try go_simp)
    refine hK.out _ _ ⟨h0, h1, h2, h3, h4⟩ (fun hHeld => ?_)
    clear hK K
    (try simp only [Act.put, List.setIfInBounds_toArray, List.set_cons_zero, List.set_cons_succ, List.getElem_toArray, List.getElem_cons_succ, List.getElem_cons_zero])
    refine wpAnyH_ready (rs := [5, 7]) (by kernel_rfl) (by simp) ?_
    refine AllReadyH.cons (o := _) rfl (fun K hK => ?_) ?_
    · go_simp
      refine hK.out _ _ ⟨h0, h1, h2, h3, h4⟩ (fun hHeld => ?_)
      clear hK K
      (try simp only [Act.put, List.setIfInBounds_toArray, List.set_cons_zero, List.set_cons_succ, List.getElem_toArray, List.getElem_cons_succ, List.getElem_cons_zero])
      refine wpAnyH_ready (rs := [7]) (by kernel_rfl) (by simp) ?_
      refine AllReadyH.cons (o := _) rfl (fun K hK => ?_) AllReadyH.nil
      (go_simp; refine (CR.out _ HB2.out HV.out).mono ?_; rintro e W3 ⟨v2, rfl, hr2, hb⟩; have HB3 := Lib.hid (HB2.out.trans (hb.mono HB2.out.size)); obtain ⟨q2, m2, cc2, rfl⟩ := row_val hr2; have htx2 := (bs_of_own hr2).text; have htx3 := (HR1.out.below hb).text; have k0 := (hb.cell hl2).trans h0; have k1 := (hb.cell hl2).trans h1; have k2 := (hb.cell hl2).trans h2; have k3 := (hb.cell hl2).trans h3; have k4 := (hb.cell hl2).trans h4; clear hb hr2; try go_simp)
      refine hK.out _ _ ⟨k0, k1, k2, k3, k4⟩ (fun hHeld => ?_)
      clear hK K
      (try simp only [Act.put, List.setIfInBounds_toArray, List.set_cons_zero, List.set_cons_succ, List.getElem_toArray, List.getElem_cons_succ, List.getElem_cons_zero])
      refine wpAnyH_ready (rs := [8]) (by kernel_rfl) (by simp) ?_
      refine AllReadyH.cons (o := _) rfl (fun K hK => ?_) AllReadyH.nil
      go_simp
      refine hK.out _ _ ⟨k0, k1, k2, k3, k4⟩ (fun hHeld => ?_)
      clear hK K
      (try simp only [Act.put, List.setIfInBounds_toArray, List.set_cons_zero, List.set_cons_succ, List.getElem_toArray, List.getElem_cons_succ, List.getElem_cons_zero])
      refine wpAnyH_take (i := 9) (oi := _) (v := ?_) rfl (by kernel_rfl) (by kernel_rfl) (by kernel_rfl) (fun _ _ _ h => h) (Or.inl ⟨by rfl, ?_⟩) (by assumption) ?_
      rotate_left
      focus (intro w' hSw; (try dsimp only at hSw); go_simp; try with_reducible rfl)
      (try simp only [Act.put, List.setIfInBounds_toArray, List.set_cons_zero, List.set_cons_succ, List.getElem_toArray, List.getElem_cons_succ, List.getElem_cons_zero])
      refine wpAnyH_take (i := 10) (oi := _) (v := ?_) rfl (by kernel_rfl) (by kernel_rfl) (by kernel_rfl) (fun _ _ _ h => h) (Or.inl ⟨by rfl, ?_⟩) (by assumption) ?_
      rotate_left
      focus (intro w' hSw; (try dsimp only at hSw); go_simp; try with_reducible rfl)
      (try simp only [Act.put, List.setIfInBounds_toArray, List.set_cons_zero, List.set_cons_succ, List.getElem_toArray, List.getElem_cons_succ, List.getElem_cons_zero])
      refine wpAnyH_done (by kernel_rfl) ?_ _
      go_upto_region 3 with fail
      refine wp_world (fun Wx => Below w.heap.size w Wx) (by first | exact HB3.out | exact below_drew' HB3.out) (fun X hX => ?_)
      have HX := Lib.hid hX
      clear hX
      go_wp2_with fail
      refine (CC.out X HX.out).mono ?_
      rintro e W4 ⟨v5, rfl, hr5, hb5⟩
      obtain ⟨q5, m5, c5, rfl⟩ := row_val hr5
      obtain rfl : m5 = l.length := ((bs_of_own hr5).len).1
      have HO := Lib.hid hr5
      have HB4 := Lib.hid (HX.out.trans (hb5.mono HX.out.size))
      have CRD : Hid (Calls Tryd.prog 14 #[.slice q5 l.length c5] W4 (RdPost (valD 16 1 4095 l) W4)) := readDatum_any l _ W4 (bs_of_own hr5) hl
      clear hr5 hb5
      go_wp2_with fail
      refine CRD.out.mono ?_
      rintro e W5 ⟨kd1, di1, db1, ds1, p1, n1, c1, k1, e1, rfl, hb5, hd1⟩
      have HD1 := Lib.hid hd1
      obtain ⟨X5, hX5⟩ : ∃ X5, W5.alloc (.cells #[.int .i64 kd1, .int .i64 di1, .int .u64 db1, .string ds1, .slice p1 n1 c1] 25) = X5 := ⟨_, rfl⟩
      have BX4 : Hid (Below W4.heap.size W4 X5) := by show Below _ _ _; rw [← hX5]; exact hb5.alloc hb5.size _
      have BX5 : Hid (Below w.heap.size w X5) := HB4.out.trans (BX4.out.mono HB4.out.size)
      have XC : Hid (X5.heap[W5.heap.size]? = some (.cells #[.int .i64 kd1, .int .i64 di1, .int .u64 db1, .string ds1, .slice p1 n1 c1] 25 (0, 0))) := by show _ = _; rw [← hX5]; exact heap_alloc_new W5 _
      have SZ5 : Hid (W5.heap.size < X5.heap.size ∧ W4.heap.size ≤ W5.heap.size) := ⟨(Array.getElem?_eq_some_iff.1 XC.out).1, hb5.size⟩
      have KX5 : Hid (∀ b, b < W5.heap.size → X5.heap[b]? = W5.heap[b]?) := fun b hb => by rw [← hX5]; exact Below.heap_alloc _ _ _ hb
      have HO5 : Hid (Row X5 X.heap.size (.slice q5 l.length c5) l) := World.ownsRow.kept (row := none) HO.out ⟨BX4.out.os, BX4.out.tape, BX4.out.output, BX4.out.size, fun i hi _ => BX4.out.block i hi⟩ (Decidable.em _)
      have GB : Hid (∀ g, (Value.slice q5 l.length c5).ownBlock = some g → X.heap.size ≤ g ∧ g < W4.heap.size) := fun g hg => HO.out.lt g hg
      have htxo := (bs_of_own HO5.out).text
      have htxb := (HB.out.below BX5.out).text
      have HX5 := Lib.hid hX5
      clear hd1 hb5 hX5
      go_upto_region 5 with fail
      rw [HX5.out]
      by_cases hN : l.length = 0
      · have hlt0 : ¬ (0 : Int) < (l.length : Int) := by omega
        clear hN
        go_wp2_with fail
        go_loopw [9] (fun s9 wr => s9 = .int .i64 0 ∧ wr = X5) (fun _ _ => 0)
        case atStart => exact ⟨rfl, rfl⟩
        case round =>
          obtain ⟨rfl, rfl⟩ := hrel
          have BWT : Hid (Below w.heap.size w wr) := BX5.out
          have XT : Hid (wr.heap[W5.heap.size]? = some (.cells #[.int .i64 kd1, .int .i64 di1, .int .u64 db1, .string ds1, .slice p1 n1 c1] 25 (0, 0))) := XC.out
          have DT : Hid (∀ b, W4.heap.size ≤ b → b < W5.heap.size → wr.heap[b]? = W5.heap[b]?) := fun b _ hb => KX5.out b hb
          have HST : Hid (W5.heap.size < wr.heap.size) := (Array.getElem?_eq_some_iff.1 XT.out).1
          have CRF : Hid (Calls Tryd.prog 15 #[.slice pb l.length capb] wr (RdPost (valD 16 1 4095 l) wr)) := refRead_any l _ wr (HB.out.below BWT.out) hl
          go_wp2_with fail
          refine CRF.out.mono ?_
          rintro e W7 ⟨kd2, di2, db2, ds2, p2, n2, c2, k2, e2, rfl, hb7, hd2⟩
          obtain ⟨z1, z2, z3, z4, z5, z6, z7, z8⟩ := rd_same HD1.out hd2
          subst z1; subst z2; subst z3; subst z4; subst z5; subst z6; subst z7
          obtain ⟨Y7, hY7⟩ : ∃ Y7, W7.alloc (.cells #[.int .i64 kd1, .int .i64 di1, .int .u64 db1, .string ds1, .slice p2 n1 c2] 25) = Y7 := ⟨_, rfl⟩
          have BY : Hid (Below wr.heap.size wr Y7) := by show Below _ _ _; rw [← hY7]; exact hb7.alloc hb7.size _
          have KY : Hid (∀ b, b < W7.heap.size → Y7.heap[b]? = W7.heap[b]?) := fun b hb => by rw [← hY7]; exact Below.heap_alloc _ _ _ hb
          have XY : Hid (Y7.heap[W5.heap.size]? = some (.cells #[.int .i64 kd1, .int .i64 di1, .int .u64 db1, .string ds1, .slice p1 n1 c1] 25 (0, 0))) := (BY.out.block _ HST.out).trans XT.out
          have YY : Hid (Y7.heap[W7.heap.size]? = some (.cells #[.int .i64 kd1, .int .i64 di1, .int .u64 db1, .string ds1, .slice p2 n1 c2] 25 (0, 0))) := by show _ = _; rw [← hY7]; exact heap_alloc_new W7 _
          have BWY : Hid (Below w.heap.size w Y7) := BWT.out.trans (BY.out.mono BWT.out.size)
          have CS : Hid (Calls Tryd.prog 16 #[.agg #[.int .i64 kd1, .int .i64 di1, .int .u64 db1, .string ds1, .slice p1 n1 c1], .agg #[.int .i64 kd1, .int .i64 di1, .int .u64 db1, .string ds1, .slice p2 n1 c2]] Y7 (FtPost Y7)) := by
            rcases z8 with ⟨qs, a1, a2⟩ | ⟨rfl, rfl, rfl, rfl, rfl⟩
            · exact same_any 16 Y7 16 kd1 di1 db1 ds1 p1 n1 c1 p2 c2 qs (a1.kept fun b hb hl => ⟨(BY.out.block b (by have := HST.out; omega)).trans (DT.out b hb hl), trivial⟩ : DvIn (fun _ => True) Y7 16 _ _).is (a2.kept fun b hb hl => ⟨KY.out b hl, trivial⟩ : DvIn (fun _ => True) Y7 16 _ _).is
            · exact same_zero Y7 p1 p2 c1 c2
          have HY7 := Lib.hid hY7
          clear hd2 z8 hb7 hY7
          go_upto_region 12 with fail
          rw [HY7.out]
          obtain ⟨x0, x1, x2, x3, x4, hlx⟩ := cells5 XY.out
          obtain ⟨y0, y1, y2, y3, y4, hly⟩ := cells5 YY.out
          go_wp2_with fail
          refine CS.out.mono ?_
          rintro e W8 ⟨rfl, hb8⟩
          have B8 := Lib.hid (BWY.out.trans (hb8.mono BWY.out.size))
          have CA := Lib.hid (awake_any W8 (HTB.out.below B8.out))
          clear hb8 x0 x1 x2 x3 x4 hlx y0 y1 y2 y3 y4 hly
          go_wp2_with fail
          refine CA.out.mono ?_
          rintro e W9 ⟨rfl, hb9⟩
          have B9 := Lib.hid (B8.out.trans (hb9.mono B8.out.size))
          clear hb9
          go_wp2_with fail
          rw [← HPP.out]
          exact ⟨rfl, B9.out⟩
      · obtain ⟨g, rfl, cur, hg, hcs⟩ : ∃ g, q5 = some ⟨g, 0, none⟩ ∧ ∃ cur : Array Value, X5.heap[g]? = some (.cells cur 5 (0, 0)) ∧ l.length ≤ cur.size := by
          rcases HO5.out.2 with ⟨h, -⟩ | ⟨g, cp, cur, h, hb, hg, hnc, hm, hs, ht⟩
          · injection h with h1 h2; omega
          · injection h with h1 h2 h3
            exact ⟨g, h1, cur, hg, by omega⟩
        obtain ⟨gb1, gb2⟩ := GB.out g rfl
        have HG := Lib.hid hg
        have HCS := Lib.hid hcs
        have HNN := Lib.hid hN
        clear hg hcs hN
        go_wp2_with fail
        go_loopw [9] (fun s9 wr => ∃ (j : Nat) (cs : Array Value), s9 = .int .i64 (j : Nat) ∧ j ≤ l.length ∧ Hid (wr.heap[g]? = some (.cells cs 5 (0, 0))) ∧ Hid (l.length ≤ cs.size) ∧ Hid (But g X5 wr)) (fun s9 _ => l.length - (intOf s9).toNat)
        case atStart => exact ⟨0, cur, rfl, by omega, HG.out, HCS.out, But.refl _ _⟩
        case round =>
          obtain ⟨j, cs, rfl, hj, G1, G2, B1⟩ := hrel
          by_cases hlt : j < l.length
          · have hcc : wr.cell? ⟨g, j, none⟩ = some (cs[j]'(Nat.lt_of_lt_of_le hlt G2.out)) := by rw [cell_of_row _ _ _ _ _ _ G1.out]; simp [Nat.lt_of_lt_of_le hlt G2.out]
            have hff := frozen_of_row _ _ j _ _ G1.out
            have hgl := (Array.getElem?_eq_some_iff.1 G1.out).1
            have hjI : (j : Int) < (l.length : Int) := by omega
            have hj0 : (0 : Int) ≤ (j : Int) := by omega
            go_wp2_with fail
            go_roundw
            case rel => exact ⟨j + 1, cs.set! j (.int .u8 1), by go_num, by omega, heap_setCell_same _ g j _ _ _ G1.out, by show _ ≤ _; simp; exact G2.out, B1.out.set _ _ (.inl rfl)⟩
            case measure => simp [intOf]; omega
          · have hjl : j = l.length := by omega
            have hjn : ¬ (j : Int) < (l.length : Int) := by omega
            have BWT : Hid (Below w.heap.size w wr) := BX5.out.trans ⟨B1.out.os, B1.out.tape, B1.out.output, B1.out.size, fun i hi => B1.out.block i (Nat.lt_of_lt_of_le hi BX5.out.size) (by have := HX.out.size; omega)⟩
            have XT : Hid (wr.heap[W5.heap.size]? = some (.cells #[.int .i64 kd1, .int .i64 di1, .int .u64 db1, .string ds1, .slice p1 n1 c1] 25 (0, 0))) := (B1.out.block _ SZ5.out.1 (by have := SZ5.out.2; omega)).trans XC.out
            have DT : Hid (∀ b, W4.heap.size ≤ b → b < W5.heap.size → wr.heap[b]? = W5.heap[b]?) := fun b h1 hb => (B1.out.block b (by have := SZ5.out.1; omega) (by omega)).trans (KX5.out b hb)
            clear hj hlt hjl
            have HST : Hid (W5.heap.size < wr.heap.size) := (Array.getElem?_eq_some_iff.1 XT.out).1
            have CRF : Hid (Calls Tryd.prog 15 #[.slice pb l.length capb] wr (RdPost (valD 16 1 4095 l) wr)) := refRead_any l _ wr (HB.out.below BWT.out) hl
            go_wp2_with fail
            refine CRF.out.mono ?_
            rintro e W7 ⟨kd2, di2, db2, ds2, p2, n2, c2, k2, e2, rfl, hb7, hd2⟩
            obtain ⟨z1, z2, z3, z4, z5, z6, z7, z8⟩ := rd_same HD1.out hd2
            subst z1; subst z2; subst z3; subst z4; subst z5; subst z6; subst z7
            obtain ⟨Y7, hY7⟩ : ∃ Y7, W7.alloc (.cells #[.int .i64 kd1, .int .i64 di1, .int .u64 db1, .string ds1, .slice p2 n1 c2] 25) = Y7 := ⟨_, rfl⟩
            have BY : Hid (Below wr.heap.size wr Y7) := by show Below _ _ _; rw [← hY7]; exact hb7.alloc hb7.size _
            have KY : Hid (∀ b, b < W7.heap.size → Y7.heap[b]? = W7.heap[b]?) := fun b hb => by rw [← hY7]; exact Below.heap_alloc _ _ _ hb
            have XY : Hid (Y7.heap[W5.heap.size]? = some (.cells #[.int .i64 kd1, .int .i64 di1, .int .u64 db1, .string ds1, .slice p1 n1 c1] 25 (0, 0))) := (BY.out.block _ HST.out).trans XT.out
            have YY : Hid (Y7.heap[W7.heap.size]? = some (.cells #[.int .i64 kd1, .int .i64 di1, .int .u64 db1, .string ds1, .slice p2 n1 c2] 25 (0, 0))) := by show _ = _; rw [← hY7]; exact heap_alloc_new W7 _
            have BWY : Hid (Below w.heap.size w Y7) := BWT.out.trans (BY.out.mono BWT.out.size)
            have CS : Hid (Calls Tryd.prog 16 #[.agg #[.int .i64 kd1, .int .i64 di1, .int .u64 db1, .string ds1, .slice p1 n1 c1], .agg #[.int .i64 kd1, .int .i64 di1, .int .u64 db1, .string ds1, .slice p2 n1 c2]] Y7 (FtPost Y7)) := by
              rcases z8 with ⟨qs, a1, a2⟩ | ⟨rfl, rfl, rfl, rfl, rfl⟩
              · exact same_any 16 Y7 16 kd1 di1 db1 ds1 p1 n1 c1 p2 c2 qs (a1.kept fun b hb hl => ⟨(BY.out.block b (by have := HST.out; omega)).trans (DT.out b hb hl), trivial⟩ : DvIn (fun _ => True) Y7 16 _ _).is (a2.kept fun b hb hl => ⟨KY.out b hl, trivial⟩ : DvIn (fun _ => True) Y7 16 _ _).is
              · exact same_zero Y7 p1 p2 c1 c2
            have HY7 := Lib.hid hY7
            clear hd2 z8 hb7 hY7
            go_upto_region 12 with fail
            rw [HY7.out]
            obtain ⟨x0, x1, x2, x3, x4, hlx⟩ := cells5 XY.out
            obtain ⟨y0, y1, y2, y3, y4, hly⟩ := cells5 YY.out
            go_wp2_with fail
            refine CS.out.mono ?_
            rintro e W8 ⟨rfl, hb8⟩
            have B8 := Lib.hid (BWY.out.trans (hb8.mono BWY.out.size))
            have CA := Lib.hid (awake_any W8 (HTB.out.below B8.out))
            clear hb8 x0 x1 x2 x3 x4 hlx y0 y1 y2 y3 y4 hly
            go_wp2_with fail
            refine CA.out.mono ?_
            rintro e W9 ⟨rfl, hb9⟩
            have B9 := Lib.hid (B8.out.trans (hb9.mono B8.out.size))
            clear hb9
            go_wp2_with fail
            rw [← HPP.out]
            exact ⟨rfl, B9.out⟩
    refine AllReadyH.cons (o := _) rfl (fun K hK => ?_) AllReadyH.nil
    (go_simp; refine (CR.out _ HB2.out HV.out).mono ?_; rintro e W3 ⟨v2, rfl, hr2, hb⟩; have HB3 := Lib.hid (HB2.out.trans (hb.mono HB2.out.size)); obtain ⟨q2, m2, cc2, rfl⟩ := row_val hr2; have htx2 := (bs_of_own hr2).text; have htx3 := (HR1.out.below hb).text; have k0 := (hb.cell hl2).trans h0; have k1 := (hb.cell hl2).trans h1; have k2 := (hb.cell hl2).trans h2; have k3 := (hb.cell hl2).trans h3; have k4 := (hb.cell hl2).trans h4; clear hb hr2; try go_simp)
    refine hK.out _ _ ⟨k0, k1, k2, k3, k4⟩ (fun hHeld => ?_)
    clear hK K
    (try simp only [Act.put, List.setIfInBounds_toArray, List.set_cons_zero, List.set_cons_succ, List.getElem_toArray, List.getElem_cons_succ, List.getElem_cons_zero])
    refine wpAnyH_ready (rs := [5, 8]) (by kernel_rfl) (by simp) ?_
    refine AllReadyH.cons (o := _) rfl (fun K hK => ?_) ?_
    · go_simp
      refine hK.out _ _ ⟨k0, k1, k2, k3, k4⟩ (fun hHeld => ?_)
      clear hK K
      (try simp only [Act.put, List.setIfInBounds_toArray, List.set_cons_zero, List.set_cons_succ, List.getElem_toArray, List.getElem_cons_succ, List.getElem_cons_zero])
      refine wpAnyH_ready (rs := [8]) (by kernel_rfl) (by simp) ?_
      refine AllReadyH.cons (o := _) rfl (fun K hK => ?_) AllReadyH.nil
      go_simp
      refine hK.out _ _ ⟨k0, k1, k2, k3, k4⟩ (fun hHeld => ?_)
      clear hK K
      (try simp only [Act.put, List.setIfInBounds_toArray, List.set_cons_zero, List.set_cons_succ, List.getElem_toArray, List.getElem_cons_succ, List.getElem_cons_zero])
      refine wpAnyH_take (i := 9) (oi := _) (v := ?_) rfl (by kernel_rfl) (by kernel_rfl) (by kernel_rfl) (fun _ _ _ h => h) (Or.inl ⟨by rfl, ?_⟩) (by assumption) ?_
      rotate_left
      focus (intro w' hSw; (try dsimp only at hSw); go_simp; try with_reducible rfl)
      (try simp only [Act.put, List.setIfInBounds_toArray, List.set_cons_zero, List.set_cons_succ, List.getElem_toArray, List.getElem_cons_succ, List.getElem_cons_zero])
      refine wpAnyH_take (i := 10) (oi := _) (v := ?_) rfl (by kernel_rfl) (by kernel_rfl) (by kernel_rfl) (fun _ _ _ h => h) (Or.inl ⟨by rfl, ?_⟩) (by assumption) ?_
      rotate_left
      focus (intro w' hSw; (try dsimp only at hSw); go_simp; try with_reducible rfl)
      (try simp only [Act.put, List.setIfInBounds_toArray, List.set_cons_zero, List.set_cons_succ, List.getElem_toArray, List.getElem_cons_succ, List.getElem_cons_zero])
      refine wpAnyH_done (by kernel_rfl) ?_ _
      go_upto_region 3 with fail
      refine wp_world (fun Wx => Below w.heap.size w Wx) (by first | exact HB3.out | exact below_drew' HB3.out) (fun X hX => ?_)
      have HX := Lib.hid hX
      clear hX
      go_wp2_with fail
      refine (CC.out X HX.out).mono ?_
      rintro e W4 ⟨v5, rfl, hr5, hb5⟩
      obtain ⟨q5, m5, c5, rfl⟩ := row_val hr5
      obtain rfl : m5 = l.length := ((bs_of_own hr5).len).1
      have HO := Lib.hid hr5
      have HB4 := Lib.hid (HX.out.trans (hb5.mono HX.out.size))
      have CRD : Hid (Calls Tryd.prog 14 #[.slice q5 l.length c5] W4 (RdPost (valD 16 1 4095 l) W4)) := readDatum_any l _ W4 (bs_of_own hr5) hl
      clear hr5 hb5
      go_wp2_with fail
      refine CRD.out.mono ?_
      rintro e W5 ⟨kd1, di1, db1, ds1, p1, n1, c1, k1, e1, rfl, hb5, hd1⟩
      have HD1 := Lib.hid hd1
      obtain ⟨X5, hX5⟩ : ∃ X5, W5.alloc (.cells #[.int .i64 kd1, .int .i64 di1, .int .u64 db1, .string ds1, .slice p1 n1 c1] 25) = X5 := ⟨_, rfl⟩
      have BX4 : Hid (Below W4.heap.size W4 X5) := by show Below _ _ _; rw [← hX5]; exact hb5.alloc hb5.size _
      have BX5 : Hid (Below w.heap.size w X5) := HB4.out.trans (BX4.out.mono HB4.out.size)
      have XC : Hid (X5.heap[W5.heap.size]? = some (.cells #[.int .i64 kd1, .int .i64 di1, .int .u64 db1, .string ds1, .slice p1 n1 c1] 25 (0, 0))) := by show _ = _; rw [← hX5]; exact heap_alloc_new W5 _
      have SZ5 : Hid (W5.heap.size < X5.heap.size ∧ W4.heap.size ≤ W5.heap.size) := ⟨(Array.getElem?_eq_some_iff.1 XC.out).1, hb5.size⟩
      have KX5 : Hid (∀ b, b < W5.heap.size → X5.heap[b]? = W5.heap[b]?) := fun b hb => by rw [← hX5]; exact Below.heap_alloc _ _ _ hb
      have HO5 : Hid (Row X5 X.heap.size (.slice q5 l.length c5) l) := World.ownsRow.kept (row := none) HO.out ⟨BX4.out.os, BX4.out.tape, BX4.out.output, BX4.out.size, fun i hi _ => BX4.out.block i hi⟩ (Decidable.em _)
      have GB : Hid (∀ g, (Value.slice q5 l.length c5).ownBlock = some g → X.heap.size ≤ g ∧ g < W4.heap.size) := fun g hg => HO.out.lt g hg
      have htxo := (bs_of_own HO5.out).text
      have htxb := (HB.out.below BX5.out).text
      have HX5 := Lib.hid hX5
      clear hd1 hb5 hX5
      go_upto_region 5 with fail
      rw [HX5.out]
      by_cases hN : l.length = 0
      · have hlt0 : ¬ (0 : Int) < (l.length : Int) := by omega
        clear hN
        go_wp2_with fail
        go_loopw [9] (fun s9 wr => s9 = .int .i64 0 ∧ wr = X5) (fun _ _ => 0)
        case atStart => exact ⟨rfl, rfl⟩
        case round =>
          obtain ⟨rfl, rfl⟩ := hrel
          have BWT : Hid (Below w.heap.size w wr) := BX5.out
          have XT : Hid (wr.heap[W5.heap.size]? = some (.cells #[.int .i64 kd1, .int .i64 di1, .int .u64 db1, .string ds1, .slice p1 n1 c1] 25 (0, 0))) := XC.out
          have DT : Hid (∀ b, W4.heap.size ≤ b → b < W5.heap.size → wr.heap[b]? = W5.heap[b]?) := fun b _ hb => KX5.out b hb
          have HST : Hid (W5.heap.size < wr.heap.size) := (Array.getElem?_eq_some_iff.1 XT.out).1
          have CRF : Hid (Calls Tryd.prog 15 #[.slice pb l.length capb] wr (RdPost (valD 16 1 4095 l) wr)) := refRead_any l _ wr (HB.out.below BWT.out) hl
          go_wp2_with fail
          refine CRF.out.mono ?_
          rintro e W7 ⟨kd2, di2, db2, ds2, p2, n2, c2, k2, e2, rfl, hb7, hd2⟩
          obtain ⟨z1, z2, z3, z4, z5, z6, z7, z8⟩ := rd_same HD1.out hd2
          subst z1; subst z2; subst z3; subst z4; subst z5; subst z6; subst z7
          obtain ⟨Y7, hY7⟩ : ∃ Y7, W7.alloc (.cells #[.int .i64 kd1, .int .i64 di1, .int .u64 db1, .string ds1, .slice p2 n1 c2] 25) = Y7 := ⟨_, rfl⟩
          have BY : Hid (Below wr.heap.size wr Y7) := by show Below _ _ _; rw [← hY7]; exact hb7.alloc hb7.size _
          have KY : Hid (∀ b, b < W7.heap.size → Y7.heap[b]? = W7.heap[b]?) := fun b hb => by rw [← hY7]; exact Below.heap_alloc _ _ _ hb
          have XY : Hid (Y7.heap[W5.heap.size]? = some (.cells #[.int .i64 kd1, .int .i64 di1, .int .u64 db1, .string ds1, .slice p1 n1 c1] 25 (0, 0))) := (BY.out.block _ HST.out).trans XT.out
          have YY : Hid (Y7.heap[W7.heap.size]? = some (.cells #[.int .i64 kd1, .int .i64 di1, .int .u64 db1, .string ds1, .slice p2 n1 c2] 25 (0, 0))) := by show _ = _; rw [← hY7]; exact heap_alloc_new W7 _
          have BWY : Hid (Below w.heap.size w Y7) := BWT.out.trans (BY.out.mono BWT.out.size)
          have CS : Hid (Calls Tryd.prog 16 #[.agg #[.int .i64 kd1, .int .i64 di1, .int .u64 db1, .string ds1, .slice p1 n1 c1], .agg #[.int .i64 kd1, .int .i64 di1, .int .u64 db1, .string ds1, .slice p2 n1 c2]] Y7 (FtPost Y7)) := by
            rcases z8 with ⟨qs, a1, a2⟩ | ⟨rfl, rfl, rfl, rfl, rfl⟩
            · exact same_any 16 Y7 16 kd1 di1 db1 ds1 p1 n1 c1 p2 c2 qs (a1.kept fun b hb hl => ⟨(BY.out.block b (by have := HST.out; omega)).trans (DT.out b hb hl), trivial⟩ : DvIn (fun _ => True) Y7 16 _ _).is (a2.kept fun b hb hl => ⟨KY.out b hl, trivial⟩ : DvIn (fun _ => True) Y7 16 _ _).is
            · exact same_zero Y7 p1 p2 c1 c2
          have HY7 := Lib.hid hY7
          clear hd2 z8 hb7 hY7
          go_upto_region 12 with fail
          rw [HY7.out]
          obtain ⟨x0, x1, x2, x3, x4, hlx⟩ := cells5 XY.out
          obtain ⟨y0, y1, y2, y3, y4, hly⟩ := cells5 YY.out
          go_wp2_with fail
          refine CS.out.mono ?_
          rintro e W8 ⟨rfl, hb8⟩
          have B8 := Lib.hid (BWY.out.trans (hb8.mono BWY.out.size))
          have CA := Lib.hid (awake_any W8 (HTB.out.below B8.out))
          clear hb8 x0 x1 x2 x3 x4 hlx y0 y1 y2 y3 y4 hly
          go_wp2_with fail
          refine CA.out.mono ?_
          rintro e W9 ⟨rfl, hb9⟩
          have B9 := Lib.hid (B8.out.trans (hb9.mono B8.out.size))
          clear hb9
          go_wp2_with fail
          rw [← HPP.out]
          exact ⟨rfl, B9.out⟩
      · obtain ⟨g, rfl, cur, hg, hcs⟩ : ∃ g, q5 = some ⟨g, 0, none⟩ ∧ ∃ cur : Array Value, X5.heap[g]? = some (.cells cur 5 (0, 0)) ∧ l.length ≤ cur.size := by
          rcases HO5.out.2 with ⟨h, -⟩ | ⟨g, cp, cur, h, hb, hg, hnc, hm, hs, ht⟩
          · injection h with h1 h2; omega
          · injection h with h1 h2 h3
            exact ⟨g, h1, cur, hg, by omega⟩
        obtain ⟨gb1, gb2⟩ := GB.out g rfl
        have HG := Lib.hid hg
        have HCS := Lib.hid hcs
        have HNN := Lib.hid hN
        clear hg hcs hN
        go_wp2_with fail
        go_loopw [9] (fun s9 wr => ∃ (j : Nat) (cs : Array Value), s9 = .int .i64 (j : Nat) ∧ j ≤ l.length ∧ Hid (wr.heap[g]? = some (.cells cs 5 (0, 0))) ∧ Hid (l.length ≤ cs.size) ∧ Hid (But g X5 wr)) (fun s9 _ => l.length - (intOf s9).toNat)
        case atStart => exact ⟨0, cur, rfl, by omega, HG.out, HCS.out, But.refl _ _⟩
        case round =>
          obtain ⟨j, cs, rfl, hj, G1, G2, B1⟩ := hrel
          by_cases hlt : j < l.length
          · have hcc : wr.cell? ⟨g, j, none⟩ = some (cs[j]'(Nat.lt_of_lt_of_le hlt G2.out)) := by rw [cell_of_row _ _ _ _ _ _ G1.out]; simp [Nat.lt_of_lt_of_le hlt G2.out]
            have hff := frozen_of_row _ _ j _ _ G1.out
            have hgl := (Array.getElem?_eq_some_iff.1 G1.out).1
            have hjI : (j : Int) < (l.length : Int) := by omega
            have hj0 : (0 : Int) ≤ (j : Int) := by omega
            go_wp2_with fail
            go_roundw
            case rel => exact ⟨j + 1, cs.set! j (.int .u8 1), by go_num, by omega, heap_setCell_same _ g j _ _ _ G1.out, by show _ ≤ _; simp; exact G2.out, B1.out.set _ _ (.inl rfl)⟩
            case measure => simp [intOf]; omega
          · have hjl : j = l.length := by omega
            have hjn : ¬ (j : Int) < (l.length : Int) := by omega
            have BWT : Hid (Below w.heap.size w wr) := BX5.out.trans ⟨B1.out.os, B1.out.tape, B1.out.output, B1.out.size, fun i hi => B1.out.block i (Nat.lt_of_lt_of_le hi BX5.out.size) (by have := HX.out.size; omega)⟩
            have XT : Hid (wr.heap[W5.heap.size]? = some (.cells #[.int .i64 kd1, .int .i64 di1, .int .u64 db1, .string ds1, .slice p1 n1 c1] 25 (0, 0))) := (B1.out.block _ SZ5.out.1 (by have := SZ5.out.2; omega)).trans XC.out
            have DT : Hid (∀ b, W4.heap.size ≤ b → b < W5.heap.size → wr.heap[b]? = W5.heap[b]?) := fun b h1 hb => (B1.out.block b (by have := SZ5.out.1; omega) (by omega)).trans (KX5.out b hb)
            clear hj hlt hjl
            have HST : Hid (W5.heap.size < wr.heap.size) := (Array.getElem?_eq_some_iff.1 XT.out).1
            have CRF : Hid (Calls Tryd.prog 15 #[.slice pb l.length capb] wr (RdPost (valD 16 1 4095 l) wr)) := refRead_any l _ wr (HB.out.below BWT.out) hl
            go_wp2_with fail
            refine CRF.out.mono ?_
            rintro e W7 ⟨kd2, di2, db2, ds2, p2, n2, c2, k2, e2, rfl, hb7, hd2⟩
            obtain ⟨z1, z2, z3, z4, z5, z6, z7, z8⟩ := rd_same HD1.out hd2
            subst z1; subst z2; subst z3; subst z4; subst z5; subst z6; subst z7
            obtain ⟨Y7, hY7⟩ : ∃ Y7, W7.alloc (.cells #[.int .i64 kd1, .int .i64 di1, .int .u64 db1, .string ds1, .slice p2 n1 c2] 25) = Y7 := ⟨_, rfl⟩
            have BY : Hid (Below wr.heap.size wr Y7) := by show Below _ _ _; rw [← hY7]; exact hb7.alloc hb7.size _
            have KY : Hid (∀ b, b < W7.heap.size → Y7.heap[b]? = W7.heap[b]?) := fun b hb => by rw [← hY7]; exact Below.heap_alloc _ _ _ hb
            have XY : Hid (Y7.heap[W5.heap.size]? = some (.cells #[.int .i64 kd1, .int .i64 di1, .int .u64 db1, .string ds1, .slice p1 n1 c1] 25 (0, 0))) := (BY.out.block _ HST.out).trans XT.out
            have YY : Hid (Y7.heap[W7.heap.size]? = some (.cells #[.int .i64 kd1, .int .i64 di1, .int .u64 db1, .string ds1, .slice p2 n1 c2] 25 (0, 0))) := by show _ = _; rw [← hY7]; exact heap_alloc_new W7 _
            have BWY : Hid (Below w.heap.size w Y7) := BWT.out.trans (BY.out.mono BWT.out.size)
            have CS : Hid (Calls Tryd.prog 16 #[.agg #[.int .i64 kd1, .int .i64 di1, .int .u64 db1, .string ds1, .slice p1 n1 c1], .agg #[.int .i64 kd1, .int .i64 di1, .int .u64 db1, .string ds1, .slice p2 n1 c2]] Y7 (FtPost Y7)) := by
              rcases z8 with ⟨qs, a1, a2⟩ | ⟨rfl, rfl, rfl, rfl, rfl⟩
              · exact same_any 16 Y7 16 kd1 di1 db1 ds1 p1 n1 c1 p2 c2 qs (a1.kept fun b hb hl => ⟨(BY.out.block b (by have := HST.out; omega)).trans (DT.out b hb hl), trivial⟩ : DvIn (fun _ => True) Y7 16 _ _).is (a2.kept fun b hb hl => ⟨KY.out b hl, trivial⟩ : DvIn (fun _ => True) Y7 16 _ _).is
              · exact same_zero Y7 p1 p2 c1 c2
            have HY7 := Lib.hid hY7
            clear hd2 z8 hb7 hY7
            go_upto_region 12 with fail
            rw [HY7.out]
            obtain ⟨x0, x1, x2, x3, x4, hlx⟩ := cells5 XY.out
            obtain ⟨y0, y1, y2, y3, y4, hly⟩ := cells5 YY.out
            go_wp2_with fail
            refine CS.out.mono ?_
            rintro e W8 ⟨rfl, hb8⟩
            have B8 := Lib.hid (BWY.out.trans (hb8.mono BWY.out.size))
            have CA := Lib.hid (awake_any W8 (HTB.out.below B8.out))
            clear hb8 x0 x1 x2 x3 x4 hlx y0 y1 y2 y3 y4 hly
            go_wp2_with fail
            refine CA.out.mono ?_
            rintro e W9 ⟨rfl, hb9⟩
            have B9 := Lib.hid (B8.out.trans (hb9.mono B8.out.size))
            clear hb9
            go_wp2_with fail
            rw [← HPP.out]
            exact ⟨rfl, B9.out⟩
    refine AllReadyH.cons (o := _) rfl (fun K hK => ?_) AllReadyH.nil
    go_simp
    refine hK.out _ _ ⟨k0, k1, k2, k3, k4⟩ (fun hHeld => ?_)
    clear hK K
    (try simp only [Act.put, List.setIfInBounds_toArray, List.set_cons_zero, List.set_cons_succ, List.getElem_toArray, List.getElem_cons_succ, List.getElem_cons_zero])
    refine wpAnyH_ready (rs := [5]) (by kernel_rfl) (by simp) ?_
    refine AllReadyH.cons (o := _) rfl (fun K hK => ?_) AllReadyH.nil
    go_simp
    refine hK.out _ _ ⟨k0, k1, k2, k3, k4⟩ (fun hHeld => ?_)
    clear hK K
    (try simp only [Act.put, List.setIfInBounds_toArray, List.set_cons_zero, List.set_cons_succ, List.getElem_toArray, List.getElem_cons_succ, List.getElem_cons_zero])
    refine wpAnyH_take (i := 9) (oi := _) (v := ?_) rfl (by kernel_rfl) (by kernel_rfl) (by kernel_rfl) (fun _ _ _ h => h) (Or.inl ⟨by rfl, ?_⟩) (by assumption) ?_
    rotate_left
    focus (intro w' hSw; (try dsimp only at hSw); go_simp; try with_reducible rfl)
    (try simp only [Act.put, List.setIfInBounds_toArray, List.set_cons_zero, List.set_cons_succ, List.getElem_toArray, List.getElem_cons_succ, List.getElem_cons_zero])
    refine wpAnyH_take (i := 10) (oi := _) (v := ?_) rfl (by kernel_rfl) (by kernel_rfl) (by kernel_rfl) (fun _ _ _ h => h) (Or.inl ⟨by rfl, ?_⟩) (by assumption) ?_
    rotate_left
    focus (intro w' hSw; (try dsimp only at hSw); go_simp; try with_reducible rfl)
    (try simp only [Act.put, List.setIfInBounds_toArray, List.set_cons_zero, List.set_cons_succ, List.getElem_toArray, List.getElem_cons_succ, List.getElem_cons_zero])
    refine wpAnyH_done (by kernel_rfl) ?_ _
    go_upto_region 3 with fail
    refine wp_world (fun Wx => Below w.heap.size w Wx) (by first | exact HB3.out | exact below_drew' HB3.out) (fun X hX => ?_)
    have HX := Lib.hid hX
    clear hX
    go_wp2_with fail
    refine (CC.out X HX.out).mono ?_
    rintro e W4 ⟨v5, rfl, hr5, hb5⟩
    obtain ⟨q5, m5, c5, rfl⟩ := row_val hr5
    obtain rfl : m5 = l.length := ((bs_of_own hr5).len).1
    have HO := Lib.hid hr5
    have HB4 := Lib.hid (HX.out.trans (hb5.mono HX.out.size))
    have CRD : Hid (Calls Tryd.prog 14 #[.slice q5 l.length c5] W4 (RdPost (valD 16 1 4095 l) W4)) := readDatum_any l _ W4 (bs_of_own hr5) hl
    clear hr5 hb5
    go_wp2_with fail
    refine CRD.out.mono ?_
    rintro e W5 ⟨kd1, di1, db1, ds1, p1, n1, c1, k1, e1, rfl, hb5, hd1⟩
    have HD1 := Lib.hid hd1
    obtain ⟨X5, hX5⟩ : ∃ X5, W5.alloc (.cells #[.int .i64 kd1, .int .i64 di1, .int .u64 db1, .string ds1, .slice p1 n1 c1] 25) = X5 := ⟨_, rfl⟩
    have BX4 : Hid (Below W4.heap.size W4 X5) := by show Below _ _ _; rw [← hX5]; exact hb5.alloc hb5.size _
    have BX5 : Hid (Below w.heap.size w X5) := HB4.out.trans (BX4.out.mono HB4.out.size)
    have XC : Hid (X5.heap[W5.heap.size]? = some (.cells #[.int .i64 kd1, .int .i64 di1, .int .u64 db1, .string ds1, .slice p1 n1 c1] 25 (0, 0))) := by show _ = _; rw [← hX5]; exact heap_alloc_new W5 _
    have SZ5 : Hid (W5.heap.size < X5.heap.size ∧ W4.heap.size ≤ W5.heap.size) := ⟨(Array.getElem?_eq_some_iff.1 XC.out).1, hb5.size⟩
    have KX5 : Hid (∀ b, b < W5.heap.size → X5.heap[b]? = W5.heap[b]?) := fun b hb => by rw [← hX5]; exact Below.heap_alloc _ _ _ hb
    have HO5 : Hid (Row X5 X.heap.size (.slice q5 l.length c5) l) := World.ownsRow.kept (row := none) HO.out ⟨BX4.out.os, BX4.out.tape, BX4.out.output, BX4.out.size, fun i hi _ => BX4.out.block i hi⟩ (Decidable.em _)
    have GB : Hid (∀ g, (Value.slice q5 l.length c5).ownBlock = some g → X.heap.size ≤ g ∧ g < W4.heap.size) := fun g hg => HO.out.lt g hg
    have htxo := (bs_of_own HO5.out).text
    have htxb := (HB.out.below BX5.out).text
    have HX5 := Lib.hid hX5
    clear hd1 hb5 hX5
    go_upto_region 5 with fail
    rw [HX5.out]
    by_cases hN : l.length = 0
    · have hlt0 : ¬ (0 : Int) < (l.length : Int) := by omega
      clear hN
      go_wp2_with fail
      go_loopw [9] (fun s9 wr => s9 = .int .i64 0 ∧ wr = X5) (fun _ _ => 0)
      case atStart => exact ⟨rfl, rfl⟩
      case round =>
        obtain ⟨rfl, rfl⟩ := hrel
        have BWT : Hid (Below w.heap.size w wr) := BX5.out
        have XT : Hid (wr.heap[W5.heap.size]? = some (.cells #[.int .i64 kd1, .int .i64 di1, .int .u64 db1, .string ds1, .slice p1 n1 c1] 25 (0, 0))) := XC.out
        have DT : Hid (∀ b, W4.heap.size ≤ b → b < W5.heap.size → wr.heap[b]? = W5.heap[b]?) := fun b _ hb => KX5.out b hb
        have HST : Hid (W5.heap.size < wr.heap.size) := (Array.getElem?_eq_some_iff.1 XT.out).1
        have CRF : Hid (Calls Tryd.prog 15 #[.slice pb l.length capb] wr (RdPost (valD 16 1 4095 l) wr)) := refRead_any l _ wr (HB.out.below BWT.out) hl
        go_wp2_with fail
        refine CRF.out.mono ?_
        rintro e W7 ⟨kd2, di2, db2, ds2, p2, n2, c2, k2, e2, rfl, hb7, hd2⟩
        obtain ⟨z1, z2, z3, z4, z5, z6, z7, z8⟩ := rd_same HD1.out hd2
        subst z1; subst z2; subst z3; subst z4; subst z5; subst z6; subst z7
        obtain ⟨Y7, hY7⟩ : ∃ Y7, W7.alloc (.cells #[.int .i64 kd1, .int .i64 di1, .int .u64 db1, .string ds1, .slice p2 n1 c2] 25) = Y7 := ⟨_, rfl⟩
        have BY : Hid (Below wr.heap.size wr Y7) := by show Below _ _ _; rw [← hY7]; exact hb7.alloc hb7.size _
        have KY : Hid (∀ b, b < W7.heap.size → Y7.heap[b]? = W7.heap[b]?) := fun b hb => by rw [← hY7]; exact Below.heap_alloc _ _ _ hb
        have XY : Hid (Y7.heap[W5.heap.size]? = some (.cells #[.int .i64 kd1, .int .i64 di1, .int .u64 db1, .string ds1, .slice p1 n1 c1] 25 (0, 0))) := (BY.out.block _ HST.out).trans XT.out
        have YY : Hid (Y7.heap[W7.heap.size]? = some (.cells #[.int .i64 kd1, .int .i64 di1, .int .u64 db1, .string ds1, .slice p2 n1 c2] 25 (0, 0))) := by show _ = _; rw [← hY7]; exact heap_alloc_new W7 _
        have BWY : Hid (Below w.heap.size w Y7) := BWT.out.trans (BY.out.mono BWT.out.size)
        have CS : Hid (Calls Tryd.prog 16 #[.agg #[.int .i64 kd1, .int .i64 di1, .int .u64 db1, .string ds1, .slice p1 n1 c1], .agg #[.int .i64 kd1, .int .i64 di1, .int .u64 db1, .string ds1, .slice p2 n1 c2]] Y7 (FtPost Y7)) := by
          rcases z8 with ⟨qs, a1, a2⟩ | ⟨rfl, rfl, rfl, rfl, rfl⟩
          · exact same_any 16 Y7 16 kd1 di1 db1 ds1 p1 n1 c1 p2 c2 qs (a1.kept fun b hb hl => ⟨(BY.out.block b (by have := HST.out; omega)).trans (DT.out b hb hl), trivial⟩ : DvIn (fun _ => True) Y7 16 _ _).is (a2.kept fun b hb hl => ⟨KY.out b hl, trivial⟩ : DvIn (fun _ => True) Y7 16 _ _).is
          · exact same_zero Y7 p1 p2 c1 c2
        have HY7 := Lib.hid hY7
        clear hd2 z8 hb7 hY7
        go_upto_region 12 with fail
        rw [HY7.out]
        obtain ⟨x0, x1, x2, x3, x4, hlx⟩ := cells5 XY.out
        obtain ⟨y0, y1, y2, y3, y4, hly⟩ := cells5 YY.out
        go_wp2_with fail
        refine CS.out.mono ?_
        rintro e W8 ⟨rfl, hb8⟩
        have B8 := Lib.hid (BWY.out.trans (hb8.mono BWY.out.size))
        have CA := Lib.hid (awake_any W8 (HTB.out.below B8.out))
        clear hb8 x0 x1 x2 x3 x4 hlx y0 y1 y2 y3 y4 hly
        go_wp2_with fail
        refine CA.out.mono ?_
        rintro e W9 ⟨rfl, hb9⟩
        have B9 := Lib.hid (B8.out.trans (hb9.mono B8.out.size))
        clear hb9
        go_wp2_with fail
        rw [← HPP.out]
        exact ⟨rfl, B9.out⟩
    · obtain ⟨g, rfl, cur, hg, hcs⟩ : ∃ g, q5 = some ⟨g, 0, none⟩ ∧ ∃ cur : Array Value, X5.heap[g]? = some (.cells cur 5 (0, 0)) ∧ l.length ≤ cur.size := by
        rcases HO5.out.2 with ⟨h, -⟩ | ⟨g, cp, cur, h, hb, hg, hnc, hm, hs, ht⟩
        · injection h with h1 h2; omega
        · injection h with h1 h2 h3
          exact ⟨g, h1, cur, hg, by omega⟩
      obtain ⟨gb1, gb2⟩ := GB.out g rfl
      have HG := Lib.hid hg
      have HCS := Lib.hid hcs
      have HNN := Lib.hid hN
      clear hg hcs hN
      go_wp2_with fail
      go_loopw [9] (fun s9 wr => ∃ (j : Nat) (cs : Array Value), s9 = .int .i64 (j : Nat) ∧ j ≤ l.length ∧ Hid (wr.heap[g]? = some (.cells cs 5 (0, 0))) ∧ Hid (l.length ≤ cs.size) ∧ Hid (But g X5 wr)) (fun s9 _ => l.length - (intOf s9).toNat)
      case atStart => exact ⟨0, cur, rfl, by omega, HG.out, HCS.out, But.refl _ _⟩
      case round =>
        obtain ⟨j, cs, rfl, hj, G1, G2, B1⟩ := hrel
        by_cases hlt : j < l.length
        · have hcc : wr.cell? ⟨g, j, none⟩ = some (cs[j]'(Nat.lt_of_lt_of_le hlt G2.out)) := by rw [cell_of_row _ _ _ _ _ _ G1.out]; simp [Nat.lt_of_lt_of_le hlt G2.out]
          have hff := frozen_of_row _ _ j _ _ G1.out
          have hgl := (Array.getElem?_eq_some_iff.1 G1.out).1
          have hjI : (j : Int) < (l.length : Int) := by omega
          have hj0 : (0 : Int) ≤ (j : Int) := by omega
          go_wp2_with fail
          go_roundw
          case rel => exact ⟨j + 1, cs.set! j (.int .u8 1), by go_num, by omega, heap_setCell_same _ g j _ _ _ G1.out, by show _ ≤ _; simp; exact G2.out, B1.out.set _ _ (.inl rfl)⟩
          case measure => simp [intOf]; omega
        · have hjl : j = l.length := by omega
          have hjn : ¬ (j : Int) < (l.length : Int) := by omega
          have BWT : Hid (Below w.heap.size w wr) := BX5.out.trans ⟨B1.out.os, B1.out.tape, B1.out.output, B1.out.size, fun i hi => B1.out.block i (Nat.lt_of_lt_of_le hi BX5.out.size) (by have := HX.out.size; omega)⟩
          have XT : Hid (wr.heap[W5.heap.size]? = some (.cells #[.int .i64 kd1, .int .i64 di1, .int .u64 db1, .string ds1, .slice p1 n1 c1] 25 (0, 0))) := (B1.out.block _ SZ5.out.1 (by have := SZ5.out.2; omega)).trans XC.out
          have DT : Hid (∀ b, W4.heap.size ≤ b → b < W5.heap.size → wr.heap[b]? = W5.heap[b]?) := fun b h1 hb => (B1.out.block b (by have := SZ5.out.1; omega) (by omega)).trans (KX5.out b hb)
          clear hj hlt hjl
          have HST : Hid (W5.heap.size < wr.heap.size) := (Array.getElem?_eq_some_iff.1 XT.out).1
          have CRF : Hid (Calls Tryd.prog 15 #[.slice pb l.length capb] wr (RdPost (valD 16 1 4095 l) wr)) := refRead_any l _ wr (HB.out.below BWT.out) hl
          go_wp2_with fail
          refine CRF.out.mono ?_
          rintro e W7 ⟨kd2, di2, db2, ds2, p2, n2, c2, k2, e2, rfl, hb7, hd2⟩
          obtain ⟨z1, z2, z3, z4, z5, z6, z7, z8⟩ := rd_same HD1.out hd2
          subst z1; subst z2; subst z3; subst z4; subst z5; subst z6; subst z7
          obtain ⟨Y7, hY7⟩ : ∃ Y7, W7.alloc (.cells #[.int .i64 kd1, .int .i64 di1, .int .u64 db1, .string ds1, .slice p2 n1 c2] 25) = Y7 := ⟨_, rfl⟩
          have BY : Hid (Below wr.heap.size wr Y7) := by show Below _ _ _; rw [← hY7]; exact hb7.alloc hb7.size _
          have KY : Hid (∀ b, b < W7.heap.size → Y7.heap[b]? = W7.heap[b]?) := fun b hb => by rw [← hY7]; exact Below.heap_alloc _ _ _ hb
          have XY : Hid (Y7.heap[W5.heap.size]? = some (.cells #[.int .i64 kd1, .int .i64 di1, .int .u64 db1, .string ds1, .slice p1 n1 c1] 25 (0, 0))) := (BY.out.block _ HST.out).trans XT.out
          have YY : Hid (Y7.heap[W7.heap.size]? = some (.cells #[.int .i64 kd1, .int .i64 di1, .int .u64 db1, .string ds1, .slice p2 n1 c2] 25 (0, 0))) := by show _ = _; rw [← hY7]; exact heap_alloc_new W7 _
          have BWY : Hid (Below w.heap.size w Y7) := BWT.out.trans (BY.out.mono BWT.out.size)
          have CS : Hid (Calls Tryd.prog 16 #[.agg #[.int .i64 kd1, .int .i64 di1, .int .u64 db1, .string ds1, .slice p1 n1 c1], .agg #[.int .i64 kd1, .int .i64 di1, .int .u64 db1, .string ds1, .slice p2 n1 c2]] Y7 (FtPost Y7)) := by
            rcases z8 with ⟨qs, a1, a2⟩ | ⟨rfl, rfl, rfl, rfl, rfl⟩
            · exact same_any 16 Y7 16 kd1 di1 db1 ds1 p1 n1 c1 p2 c2 qs (a1.kept fun b hb hl => ⟨(BY.out.block b (by have := HST.out; omega)).trans (DT.out b hb hl), trivial⟩ : DvIn (fun _ => True) Y7 16 _ _).is (a2.kept fun b hb hl => ⟨KY.out b hl, trivial⟩ : DvIn (fun _ => True) Y7 16 _ _).is
            · exact same_zero Y7 p1 p2 c1 c2
          have HY7 := Lib.hid hY7
          clear hd2 z8 hb7 hY7
          go_upto_region 12 with fail
          rw [HY7.out]
          obtain ⟨x0, x1, x2, x3, x4, hlx⟩ := cells5 XY.out
          obtain ⟨y0, y1, y2, y3, y4, hly⟩ := cells5 YY.out
          go_wp2_with fail
          refine CS.out.mono ?_
          rintro e W8 ⟨rfl, hb8⟩
          have B8 := Lib.hid (BWY.out.trans (hb8.mono BWY.out.size))
          have CA := Lib.hid (awake_any W8 (HTB.out.below B8.out))
          clear hb8 x0 x1 x2 x3 x4 hlx y0 y1 y2 y3 y4 hly
          go_wp2_with fail
          refine CA.out.mono ?_
          rintro e W9 ⟨rfl, hb9⟩
          have B9 := Lib.hid (B8.out.trans (hb9.mono B8.out.size))
          clear hb9
          go_wp2_with fail
          rw [← HPP.out]
          exact ⟨rfl, B9.out⟩
  · have CV1 : Hid (∀ W, Below w.heap.size w W → Calls Tryd.prog 10 #[.agg #[.int .i64 kd, .int .i64 di, .int .u64 db, .string ds, .slice p n cap]] W (fun e w' => e = .returned (.bool false) ∧ Below W.heap.size W w')) := fun W hb => (CV.out W hb).mono fun e w' ⟨b, h1, h2, h3⟩ => ⟨by rw [h1]; cases b with | false => rfl | true => exact absurd (h2.1 rfl) hv, h3⟩
    clear hv
    refine wp_region_held_drew (S := (fun w' => w'.cell? ⟨w.heap.size, 0, none⟩ = some (.int .i64 kd) ∧ w'.cell? ⟨w.heap.size, 1, none⟩ = some (.int .i64 di) ∧ w'.cell? ⟨w.heap.size, 2, none⟩ = some (.int .u64 db) ∧ w'.cell? ⟨w.heap.size, 3, none⟩ = some (.string ds) ∧ w'.cell? ⟨w.heap.size, 4, none⟩ = some (.slice p n cap))) (by kernel_rfl) ⟨c0, c1, c2, c3, c4⟩ (fun hHeld => ?_)
    refine wpAnyH_take (i := 0) (oi := _) (v := ?_) rfl (by kernel_rfl) (by kernel_rfl) (by kernel_rfl) (fun _ _ _ h => h) (Or.inl ⟨by rfl, ?_⟩) (by assumption) ?_
    rotate_left
    focus (intro w' hSw; (try dsimp only at hSw); go_simp; try with_reducible rfl)
    (try simp only [Act.put, List.setIfInBounds_toArray, List.set_cons_zero, List.set_cons_succ, List.getElem_toArray, List.getElem_cons_succ, List.getElem_cons_zero])
    refine wpAnyH_ready (rs := [1]) (by kernel_rfl) (by simp) ?_
    refine AllReadyH.cons (o := _) rfl (fun K hK => ?_) AllReadyH.nil
    (go_simp; refine (CV1.out _ (below_drew' BA.out)).mono ?_; rintro e W1 ⟨rfl, hb⟩; have HB1 := Lib.hid ((below_drew' BA.out).trans (hb.mono BA.out.size)); have g0 := (hb.cell hlA).trans c0; have g1 := (hb.cell hlA).trans c1; have g2 := (hb.cell hlA).trans c2; have g3 := (hb.cell hlA).trans c3; have g4 := (hb.cell hlA).trans c4; clear hb; try go_simp)
    refine hK.out _ _ ⟨g0, g1, g2, g3, g4⟩ (fun hHeld => ?_)
    clear hK K
    (try simp only [Act.put, List.setIfInBounds_toArray, List.set_cons_zero, List.set_cons_succ, List.getElem_toArray, List.getElem_cons_succ, List.getElem_cons_zero])
    refine wpAnyH_take (i := 2) (oi := _) (v := ?_) rfl (by kernel_rfl) (by kernel_rfl) (by kernel_rfl) (fun _ _ _ h => h) (Or.inl ⟨by rfl, ?_⟩) (by assumption) ?_
    rotate_left
    focus (intro w' hSw; (try dsimp only at hSw); go_simp; try with_reducible rfl)
    (try simp only [Act.put, List.setIfInBounds_toArray, List.set_cons_zero, List.set_cons_succ, List.getElem_toArray, List.getElem_cons_succ, List.getElem_cons_zero])
    refine wpAnyH_take (i := 3) (oi := _) (v := undef) rfl (by kernel_rfl) (by kernel_rfl) (by kernel_rfl) (fun _ _ _ h => h) (Or.inr ⟨by rfl, rfl⟩) (by assumption) ?_
    (try simp only [Act.put, List.setIfInBounds_toArray, List.set_cons_zero, List.set_cons_succ, List.getElem_toArray, List.getElem_cons_succ, List.getElem_cons_zero])
    refine wpAnyH_take (i := 4) (oi := _) (v := undef) rfl (by kernel_rfl) (by kernel_rfl) (by kernel_rfl) (fun _ _ _ h => h) (Or.inr ⟨by rfl, rfl⟩) (by assumption) ?_
    (try simp only [Act.put, List.setIfInBounds_toArray, List.set_cons_zero, List.set_cons_succ, List.getElem_toArray, List.getElem_cons_succ, List.getElem_cons_zero])
    refine wpAnyH_take (i := 5) (oi := _) (v := undef) rfl (by kernel_rfl) (by kernel_rfl) (by kernel_rfl) (fun _ _ _ h => h) (Or.inr ⟨by rfl, rfl⟩) (by assumption) ?_
    (try simp only [Act.put, List.setIfInBounds_toArray, List.set_cons_zero, List.set_cons_succ, List.getElem_toArray, List.getElem_cons_succ, List.getElem_cons_zero])
    refine wpAnyH_take (i := 6) (oi := _) (v := undef) rfl (by kernel_rfl) (by kernel_rfl) (by kernel_rfl) (fun _ _ _ h => h) (Or.inr ⟨by rfl, rfl⟩) (by assumption) ?_
    (try simp only [Act.put, List.setIfInBounds_toArray, List.set_cons_zero, List.set_cons_succ, List.getElem_toArray, List.getElem_cons_succ, List.getElem_cons_zero])
    refine wpAnyH_take (i := 7) (oi := _) (v := undef) rfl (by kernel_rfl) (by kernel_rfl) (by kernel_rfl) (fun _ _ _ h => h) (Or.inr ⟨by rfl, rfl⟩) (by assumption) ?_
    (try simp only [Act.put, List.setIfInBounds_toArray, List.set_cons_zero, List.set_cons_succ, List.getElem_toArray, List.getElem_cons_succ, List.getElem_cons_zero])
    refine wpAnyH_take (i := 8) (oi := _) (v := undef) rfl (by kernel_rfl) (by kernel_rfl) (by kernel_rfl) (fun _ _ _ h => h) (Or.inr ⟨by rfl, rfl⟩) (by assumption) ?_
    (try simp only [Act.put, List.setIfInBounds_toArray, List.set_cons_zero, List.set_cons_succ, List.getElem_toArray, List.getElem_cons_succ, List.getElem_cons_zero])
    refine wpAnyH_take (i := 9) (oi := _) (v := undef) rfl (by kernel_rfl) (by kernel_rfl) (by kernel_rfl) (fun _ _ _ h => h) (Or.inr ⟨by rfl, rfl⟩) (by assumption) ?_
    (try simp only [Act.put, List.setIfInBounds_toArray, List.set_cons_zero, List.set_cons_succ, List.getElem_toArray, List.getElem_cons_succ, List.getElem_cons_zero])
    refine wpAnyH_take (i := 10) (oi := _) (v := ?_) rfl (by kernel_rfl) (by kernel_rfl) (by kernel_rfl) (fun _ _ _ h => h) (Or.inl ⟨by rfl, ?_⟩) (by assumption) ?_
    rotate_left
    focus (intro w' hSw; (try dsimp only at hSw); go_simp; try with_reducible rfl)
    (try simp only [Act.put, List.setIfInBounds_toArray, List.set_cons_zero, List.set_cons_succ, List.getElem_toArray, List.getElem_cons_succ, List.getElem_cons_zero])
    refine wpAnyH_done (by kernel_rfl) ?_ _
    go_upto_region 3 with fail
    refine wp_world (fun Wx => Below w.heap.size w Wx) (by first | exact HB1.out | exact below_drew' HB1.out) (fun X hX => ?_)
    have HX := Lib.hid hX
    clear hX
    go_wp2_with fail
    refine (CC.out X HX.out).mono ?_
    rintro e W4 ⟨v5, rfl, hr5, hb5⟩
    obtain ⟨q5, m5, c5, rfl⟩ := row_val hr5
    obtain rfl : m5 = l.length := ((bs_of_own hr5).len).1
    have HO := Lib.hid hr5
    have HB4 := Lib.hid (HX.out.trans (hb5.mono HX.out.size))
    have CRD : Hid (Calls Tryd.prog 14 #[.slice q5 l.length c5] W4 (RdPost (valD 16 1 4095 l) W4)) := readDatum_any l _ W4 (bs_of_own hr5) hl
    clear hr5 hb5
    go_wp2_with fail
    refine CRD.out.mono ?_
    rintro e W5 ⟨kd1, di1, db1, ds1, p1, n1, c1, k1, e1, rfl, hb5, hd1⟩
    have HD1 := Lib.hid hd1
    obtain ⟨X5, hX5⟩ : ∃ X5, W5.alloc (.cells #[.int .i64 kd1, .int .i64 di1, .int .u64 db1, .string ds1, .slice p1 n1 c1] 25) = X5 := ⟨_, rfl⟩
    have BX4 : Hid (Below W4.heap.size W4 X5) := by show Below _ _ _; rw [← hX5]; exact hb5.alloc hb5.size _
    have BX5 : Hid (Below w.heap.size w X5) := HB4.out.trans (BX4.out.mono HB4.out.size)
    have XC : Hid (X5.heap[W5.heap.size]? = some (.cells #[.int .i64 kd1, .int .i64 di1, .int .u64 db1, .string ds1, .slice p1 n1 c1] 25 (0, 0))) := by show _ = _; rw [← hX5]; exact heap_alloc_new W5 _
    have SZ5 : Hid (W5.heap.size < X5.heap.size ∧ W4.heap.size ≤ W5.heap.size) := ⟨(Array.getElem?_eq_some_iff.1 XC.out).1, hb5.size⟩
    have KX5 : Hid (∀ b, b < W5.heap.size → X5.heap[b]? = W5.heap[b]?) := fun b hb => by rw [← hX5]; exact Below.heap_alloc _ _ _ hb
    have HO5 : Hid (Row X5 X.heap.size (.slice q5 l.length c5) l) := World.ownsRow.kept (row := none) HO.out ⟨BX4.out.os, BX4.out.tape, BX4.out.output, BX4.out.size, fun i hi _ => BX4.out.block i hi⟩ (Decidable.em _)
    have GB : Hid (∀ g, (Value.slice q5 l.length c5).ownBlock = some g → X.heap.size ≤ g ∧ g < W4.heap.size) := fun g hg => HO.out.lt g hg
    have htxo := (bs_of_own HO5.out).text
    have htxb := (HB.out.below BX5.out).text
    have HX5 := Lib.hid hX5
    clear hd1 hb5 hX5
    go_upto_region 5 with fail
    rw [HX5.out]
    by_cases hN : l.length = 0
    · have hlt0 : ¬ (0 : Int) < (l.length : Int) := by omega
      clear hN
      go_wp2_with fail
      go_loopw [9] (fun s9 wr => s9 = .int .i64 0 ∧ wr = X5) (fun _ _ => 0)
      case atStart => exact ⟨rfl, rfl⟩
      case round =>
        obtain ⟨rfl, rfl⟩ := hrel
        have BWT : Hid (Below w.heap.size w wr) := BX5.out
        have XT : Hid (wr.heap[W5.heap.size]? = some (.cells #[.int .i64 kd1, .int .i64 di1, .int .u64 db1, .string ds1, .slice p1 n1 c1] 25 (0, 0))) := XC.out
        have DT : Hid (∀ b, W4.heap.size ≤ b → b < W5.heap.size → wr.heap[b]? = W5.heap[b]?) := fun b _ hb => KX5.out b hb
        have HST : Hid (W5.heap.size < wr.heap.size) := (Array.getElem?_eq_some_iff.1 XT.out).1
        have CRF : Hid (Calls Tryd.prog 15 #[.slice pb l.length capb] wr (RdPost (valD 16 1 4095 l) wr)) := refRead_any l _ wr (HB.out.below BWT.out) hl
        go_wp2_with fail
        refine CRF.out.mono ?_
        rintro e W7 ⟨kd2, di2, db2, ds2, p2, n2, c2, k2, e2, rfl, hb7, hd2⟩
        obtain ⟨z1, z2, z3, z4, z5, z6, z7, z8⟩ := rd_same HD1.out hd2
        subst z1; subst z2; subst z3; subst z4; subst z5; subst z6; subst z7
        obtain ⟨Y7, hY7⟩ : ∃ Y7, W7.alloc (.cells #[.int .i64 kd1, .int .i64 di1, .int .u64 db1, .string ds1, .slice p2 n1 c2] 25) = Y7 := ⟨_, rfl⟩
        have BY : Hid (Below wr.heap.size wr Y7) := by show Below _ _ _; rw [← hY7]; exact hb7.alloc hb7.size _
        have KY : Hid (∀ b, b < W7.heap.size → Y7.heap[b]? = W7.heap[b]?) := fun b hb => by rw [← hY7]; exact Below.heap_alloc _ _ _ hb
        have XY : Hid (Y7.heap[W5.heap.size]? = some (.cells #[.int .i64 kd1, .int .i64 di1, .int .u64 db1, .string ds1, .slice p1 n1 c1] 25 (0, 0))) := (BY.out.block _ HST.out).trans XT.out
        have YY : Hid (Y7.heap[W7.heap.size]? = some (.cells #[.int .i64 kd1, .int .i64 di1, .int .u64 db1, .string ds1, .slice p2 n1 c2] 25 (0, 0))) := by show _ = _; rw [← hY7]; exact heap_alloc_new W7 _
        have BWY : Hid (Below w.heap.size w Y7) := BWT.out.trans (BY.out.mono BWT.out.size)
        have CS : Hid (Calls Tryd.prog 16 #[.agg #[.int .i64 kd1, .int .i64 di1, .int .u64 db1, .string ds1, .slice p1 n1 c1], .agg #[.int .i64 kd1, .int .i64 di1, .int .u64 db1, .string ds1, .slice p2 n1 c2]] Y7 (FtPost Y7)) := by
          rcases z8 with ⟨qs, a1, a2⟩ | ⟨rfl, rfl, rfl, rfl, rfl⟩
          · exact same_any 16 Y7 16 kd1 di1 db1 ds1 p1 n1 c1 p2 c2 qs (a1.kept fun b hb hl => ⟨(BY.out.block b (by have := HST.out; omega)).trans (DT.out b hb hl), trivial⟩ : DvIn (fun _ => True) Y7 16 _ _).is (a2.kept fun b hb hl => ⟨KY.out b hl, trivial⟩ : DvIn (fun _ => True) Y7 16 _ _).is
          · exact same_zero Y7 p1 p2 c1 c2
        have HY7 := Lib.hid hY7
        clear hd2 z8 hb7 hY7
        go_upto_region 12 with fail
        rw [HY7.out]
        obtain ⟨x0, x1, x2, x3, x4, hlx⟩ := cells5 XY.out
        obtain ⟨y0, y1, y2, y3, y4, hly⟩ := cells5 YY.out
        go_wp2_with fail
        refine CS.out.mono ?_
        rintro e W8 ⟨rfl, hb8⟩
        have B8 := Lib.hid (BWY.out.trans (hb8.mono BWY.out.size))
        have CA := Lib.hid (awake_any W8 (HTB.out.below B8.out))
        clear hb8 x0 x1 x2 x3 x4 hlx y0 y1 y2 y3 y4 hly
        go_wp2_with fail
        refine CA.out.mono ?_
        rintro e W9 ⟨rfl, hb9⟩
        have B9 := Lib.hid (B8.out.trans (hb9.mono B8.out.size))
        clear hb9
        go_wp2_with fail
        rw [← HPP.out]
        exact ⟨rfl, B9.out⟩
    · obtain ⟨g, rfl, cur, hg, hcs⟩ : ∃ g, q5 = some ⟨g, 0, none⟩ ∧ ∃ cur : Array Value, X5.heap[g]? = some (.cells cur 5 (0, 0)) ∧ l.length ≤ cur.size := by
        rcases HO5.out.2 with ⟨h, -⟩ | ⟨g, cp, cur, h, hb, hg, hnc, hm, hs, ht⟩
        · injection h with h1 h2; omega
        · injection h with h1 h2 h3
          exact ⟨g, h1, cur, hg, by omega⟩
      obtain ⟨gb1, gb2⟩ := GB.out g rfl
      have HG := Lib.hid hg
      have HCS := Lib.hid hcs
      have HNN := Lib.hid hN
      clear hg hcs hN
      go_wp2_with fail
      go_loopw [9] (fun s9 wr => ∃ (j : Nat) (cs : Array Value), s9 = .int .i64 (j : Nat) ∧ j ≤ l.length ∧ Hid (wr.heap[g]? = some (.cells cs 5 (0, 0))) ∧ Hid (l.length ≤ cs.size) ∧ Hid (But g X5 wr)) (fun s9 _ => l.length - (intOf s9).toNat)
      case atStart => exact ⟨0, cur, rfl, by omega, HG.out, HCS.out, But.refl _ _⟩
      case round =>
        obtain ⟨j, cs, rfl, hj, G1, G2, B1⟩ := hrel
        by_cases hlt : j < l.length
        · have hcc : wr.cell? ⟨g, j, none⟩ = some (cs[j]'(Nat.lt_of_lt_of_le hlt G2.out)) := by rw [cell_of_row _ _ _ _ _ _ G1.out]; simp [Nat.lt_of_lt_of_le hlt G2.out]
          have hff := frozen_of_row _ _ j _ _ G1.out
          have hgl := (Array.getElem?_eq_some_iff.1 G1.out).1
          have hjI : (j : Int) < (l.length : Int) := by omega
          have hj0 : (0 : Int) ≤ (j : Int) := by omega
          go_wp2_with fail
          go_roundw
          case rel => exact ⟨j + 1, cs.set! j (.int .u8 1), by go_num, by omega, heap_setCell_same _ g j _ _ _ G1.out, by show _ ≤ _; simp; exact G2.out, B1.out.set _ _ (.inl rfl)⟩
          case measure => simp [intOf]; omega
        · have hjl : j = l.length := by omega
          have hjn : ¬ (j : Int) < (l.length : Int) := by omega
          have BWT : Hid (Below w.heap.size w wr) := BX5.out.trans ⟨B1.out.os, B1.out.tape, B1.out.output, B1.out.size, fun i hi => B1.out.block i (Nat.lt_of_lt_of_le hi BX5.out.size) (by have := HX.out.size; omega)⟩
          have XT : Hid (wr.heap[W5.heap.size]? = some (.cells #[.int .i64 kd1, .int .i64 di1, .int .u64 db1, .string ds1, .slice p1 n1 c1] 25 (0, 0))) := (B1.out.block _ SZ5.out.1 (by have := SZ5.out.2; omega)).trans XC.out
          have DT : Hid (∀ b, W4.heap.size ≤ b → b < W5.heap.size → wr.heap[b]? = W5.heap[b]?) := fun b h1 hb => (B1.out.block b (by have := SZ5.out.1; omega) (by omega)).trans (KX5.out b hb)
          clear hj hlt hjl
          have HST : Hid (W5.heap.size < wr.heap.size) := (Array.getElem?_eq_some_iff.1 XT.out).1
          have CRF : Hid (Calls Tryd.prog 15 #[.slice pb l.length capb] wr (RdPost (valD 16 1 4095 l) wr)) := refRead_any l _ wr (HB.out.below BWT.out) hl
          go_wp2_with fail
          refine CRF.out.mono ?_
          rintro e W7 ⟨kd2, di2, db2, ds2, p2, n2, c2, k2, e2, rfl, hb7, hd2⟩
          obtain ⟨z1, z2, z3, z4, z5, z6, z7, z8⟩ := rd_same HD1.out hd2
          subst z1; subst z2; subst z3; subst z4; subst z5; subst z6; subst z7
          obtain ⟨Y7, hY7⟩ : ∃ Y7, W7.alloc (.cells #[.int .i64 kd1, .int .i64 di1, .int .u64 db1, .string ds1, .slice p2 n1 c2] 25) = Y7 := ⟨_, rfl⟩
          have BY : Hid (Below wr.heap.size wr Y7) := by show Below _ _ _; rw [← hY7]; exact hb7.alloc hb7.size _
          have KY : Hid (∀ b, b < W7.heap.size → Y7.heap[b]? = W7.heap[b]?) := fun b hb => by rw [← hY7]; exact Below.heap_alloc _ _ _ hb
          have XY : Hid (Y7.heap[W5.heap.size]? = some (.cells #[.int .i64 kd1, .int .i64 di1, .int .u64 db1, .string ds1, .slice p1 n1 c1] 25 (0, 0))) := (BY.out.block _ HST.out).trans XT.out
          have YY : Hid (Y7.heap[W7.heap.size]? = some (.cells #[.int .i64 kd1, .int .i64 di1, .int .u64 db1, .string ds1, .slice p2 n1 c2] 25 (0, 0))) := by show _ = _; rw [← hY7]; exact heap_alloc_new W7 _
          have BWY : Hid (Below w.heap.size w Y7) := BWT.out.trans (BY.out.mono BWT.out.size)
          have CS : Hid (Calls Tryd.prog 16 #[.agg #[.int .i64 kd1, .int .i64 di1, .int .u64 db1, .string ds1, .slice p1 n1 c1], .agg #[.int .i64 kd1, .int .i64 di1, .int .u64 db1, .string ds1, .slice p2 n1 c2]] Y7 (FtPost Y7)) := by
            rcases z8 with ⟨qs, a1, a2⟩ | ⟨rfl, rfl, rfl, rfl, rfl⟩
            · exact same_any 16 Y7 16 kd1 di1 db1 ds1 p1 n1 c1 p2 c2 qs (a1.kept fun b hb hl => ⟨(BY.out.block b (by have := HST.out; omega)).trans (DT.out b hb hl), trivial⟩ : DvIn (fun _ => True) Y7 16 _ _).is (a2.kept fun b hb hl => ⟨KY.out b hl, trivial⟩ : DvIn (fun _ => True) Y7 16 _ _).is
            · exact same_zero Y7 p1 p2 c1 c2
          have HY7 := Lib.hid hY7
          clear hd2 z8 hb7 hY7
          go_upto_region 12 with fail
          rw [HY7.out]
          obtain ⟨x0, x1, x2, x3, x4, hlx⟩ := cells5 XY.out
          obtain ⟨y0, y1, y2, y3, y4, hly⟩ := cells5 YY.out
          go_wp2_with fail
          refine CS.out.mono ?_
          rintro e W8 ⟨rfl, hb8⟩
          have B8 := Lib.hid (BWY.out.trans (hb8.mono BWY.out.size))
          have CA := Lib.hid (awake_any W8 (HTB.out.below B8.out))
          clear hb8 x0 x1 x2 x3 x4 hlx y0 y1 y2 y3 y4 hly
          go_wp2_with fail
          refine CA.out.mono ?_
          rintro e W9 ⟨rfl, hb9⟩
          have B9 := Lib.hid (B8.out.trans (hb9.mono B8.out.size))
          clear hb9
          go_wp2_with fail
          rw [← HPP.out]
          exact ⟨rfl, B9.out⟩
end Go.Proofs.YtmncpbfghabamaaDoor
