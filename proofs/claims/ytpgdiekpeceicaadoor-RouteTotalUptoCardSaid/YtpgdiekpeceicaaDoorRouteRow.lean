/- ROUTE: the arguments opened: routes, messages, values. -/
import Derived.Test.YtpgdiekpeceicaaDoorRead
import Derived.Test.YtpgdiekpeceicaaDoorRouteAwake
namespace Go.Proofs.YtpgdiekpeceicaaDoor
open Go Go.ChangeShapes Go.WideShapes Go.ChangeAt Go.RowKit Go.Deep

theorem choose_list {α : Type} {P : Nat → α → Prop} : ∀ n, (∀ i, i < n → ∃ a, P i a) → ∃ l : List α, l.length = n ∧ ∀ j a, l[j]? = some a → P j a := by
  intro n
  induction n with
  | zero => intro _; exact ⟨[], rfl, fun j a h => by simp at h⟩
  | succ n ih =>
    intro h
    obtain ⟨l, hl, hp⟩ := ih fun i hi => h i (by omega)
    obtain ⟨a, ha⟩ := h n (by omega)
    refine ⟨l ++ [a], by simp [hl], fun j b hj => ?_⟩
    rcases Nat.lt_or_ge j n with hjn | hjn
    · rw [List.getElem?_append_left (by omega)] at hj
      exact hp j b hj
    · rw [List.getElem?_append_right (by omega)] at hj
      have hj0 : j - l.length = 0 := by have := (List.getElem?_eq_some_iff.1 hj).1; simp at this; omega
      rw [hj0] at hj
      simp at hj
      subst hj
      obtain rfl : j = n := by omega
      exact ha
theorem WtIs.succ {w : World} : ∀ {k : Nat} {cs : List Value} {t : Wt}, WtIs w k cs t → WtIs w (k + 1) cs t := by
  intro k
  induction k with
  | zero => intro cs t h; exact h.elim
  | succ k ih =>
    intro cs t h
    obtain ⟨op, num, l⟩ := t
    obtain ⟨p, cap, h1, h2, h3, h4⟩ := h
    refine ⟨p, cap, h1, h2, h3, fun hn => ?_⟩
    obtain ⟨b, o, hp, hc⟩ := h4 hn
    refine ⟨b, o, hp, fun j t hj => ?_⟩
    obtain ⟨c0, c1, c2, q0, q1, q2, ht⟩ := hc j t hj
    exact ⟨c0, c1, c2, q0, q1, q2, ih ht⟩
theorem DtIs.succ {w : World} : ∀ {k : Nat} {cs : List Value}, DtIs w k cs → DtIs w (k + 1) cs := by
  intro k
  induction k with
  | zero => intro cs h; exact h.elim
  | succ k ih =>
    intro cs h
    obtain ⟨kd, di, db, ds, p, n, cap, h1, h2, h3, h4⟩ := h
    refine ⟨kd, di, db, ds, p, n, cap, h1, h2, h3, fun hn => ?_⟩
    obtain ⟨b, o, hp, hc⟩ := h4 hn
    refine ⟨b, o, hp, fun j hj => ?_⟩
    obtain ⟨c0, c1, c2, c3, c4, q0, q1, q2, q3, q4, ht⟩ := hc j hj
    exact ⟨c0, c1, c2, c3, c4, q0, q1, q2, q3, q4, ih ht⟩
theorem co_int : Tryd.prog.cellsOf 3 = 1 := by kernel_rfl
theorem co_int64 : Tryd.prog.cellsOf 2 = 1 := by kernel_rfl
theorem co_uint64 : Tryd.prog.cellsOf 23 = 1 := by kernel_rfl
theorem co_string : Tryd.prog.cellsOf 9 = 1 := by kernel_rfl
theorem co_bool : Tryd.prog.cellsOf 4 = 1 := by kernel_rfl
theorem co_slWant : Tryd.prog.cellsOf 38 = 1 := by kernel_rfl
theorem co_slDatum : Tryd.prog.cellsOf 24 = 1 := by kernel_rfl
theorem co_Want : Tryd.prog.cellsOf 40 = 3 := by kernel_rfl
theorem co_Datum : Tryd.prog.cellsOf 26 = 5 := by kernel_rfl
theorem co_Route : Tryd.prog.cellsOf 42 = 6 := by kernel_rfl
theorem co_Msg : Tryd.prog.cellsOf 28 = 13 := by kernel_rfl
section
variable {H : Type} {enc : TypeId × Value → H} {w : World} {spare : Nat → Bool} {held : Bool} {base : Nat}
theorem read_want : ∀ (fuel : Nat) (cs : List Value) (x : DataW H × List MemPlace), DataW.trod enc Tryd.prog w base spare held fuel 40 cs = some x → ∃ t : Wt, WtIs w fuel cs t := by
  intro fuel
  induction fuel using Nat.strongRecOn with
  | ind fuel ih =>
  intro cs x h
  obtain ⟨hlen, m, hm, hf⟩ := rd_struct Tryd.underlying40 h
  rw [co_Want] at hlen
  match cs, hlen with
  | [c0, c1, c2], _ =>
    obtain ⟨y0, b0, Q0⟩ := hf 0 _ rfl
    have q0 : DataW.trod enc Tryd.prog w base spare held m 3 [c0] = some y0 := Q0 1 co_int
    clear Q0
    obtain ⟨y1, b1, Q1⟩ := hf 1 _ rfl
    have q1 : DataW.trod enc Tryd.prog w base spare held m 3 [c1] = some y1 := Q1 1 co_int
    clear Q1
    obtain ⟨y2, b2, Q2⟩ := hf 2 _ rfl
    have q2 : DataW.trod enc Tryd.prog w base spare held m 38 [c2] = some y2 := Q2 1 co_slWant
    clear Q2
    obtain ⟨z0, rfl, -⟩ := rd_int Tryd.underlying3 q0
    obtain ⟨z1, rfl, -⟩ := rd_int Tryd.underlying3 q1
    obtain ⟨n, p, len, cap, hn, rfl, hl, hc, hbk, hel⟩ := rd_slice Tryd.underlying38 co_Want (by decide) q2
    subst hn
    subst hm
    have hE : ∀ i, i < len → ∃ t : Wt, ∃ b o, p = some ⟨b, o, none⟩ ∧ ∃ c0 c1 c2, w.cell? ⟨b, o + i * 3, none⟩ = some c0 ∧ w.cell? ⟨b, o + i * 3 + 1, none⟩ = some c1 ∧ w.cell? ⟨b, o + i * 3 + 2, none⟩ = some c2 ∧ WtIs w n [c0, c1, c2] t := fun i hi => by
      obtain ⟨b, o, rfl, hel2⟩ := hel (by omega)
      obtain ⟨cs', y, hl', -, ht, hat⟩ := hel2 i hi
      match cs', hl' with
      | [c0, c1, c2], _ =>
        obtain ⟨t, ht'⟩ := ih n (by omega) _ _ ht
        exact ⟨t, b, o, rfl, c0, c1, c2, hat 0 _ rfl, hat 1 _ rfl, hat 2 _ rfl, ht'⟩
    obtain ⟨l, hll, hp⟩ := choose_list len hE
    subst hll
    refine ⟨.mk z0 z1 l, p, cap, rfl, hl, hc, fun hpos => ?_⟩
    obtain ⟨b, o, rfl, -⟩ := hel hpos
    refine ⟨b, o, rfl, fun j t hj => ?_⟩
    obtain ⟨b', o', e, c0, c1, c2, g0, g1, g2, ht⟩ := hp j t hj
    injection e with e
    injection e with e1 e2
    subst e1; subst e2
    exact ⟨c0, c1, c2, g0, g1, g2, ht.succ⟩
theorem read_datum : ∀ (fuel : Nat) (cs : List Value) (x : DataW H × List MemPlace), DataW.trod enc Tryd.prog w base spare held fuel 26 cs = some x → DtIs w fuel cs := by
  intro fuel
  induction fuel using Nat.strongRecOn with
  | ind fuel ih =>
  intro cs x h
  obtain ⟨hlen, m, hm, hf⟩ := rd_struct Tryd.underlying26 h
  rw [co_Datum] at hlen
  match cs, hlen with
  | [c0, c1, c2, c3, c4], _ =>
    obtain ⟨y0, b0, Q0⟩ := hf 0 _ rfl
    have q0 : DataW.trod enc Tryd.prog w base spare held m 3 [c0] = some y0 := Q0 1 co_int
    clear Q0
    obtain ⟨y1, b1, Q1⟩ := hf 1 _ rfl
    have q1 : DataW.trod enc Tryd.prog w base spare held m 2 [c1] = some y1 := Q1 1 co_int64
    clear Q1
    obtain ⟨y2, b2, Q2⟩ := hf 2 _ rfl
    have q2 : DataW.trod enc Tryd.prog w base spare held m 23 [c2] = some y2 := Q2 1 co_uint64
    clear Q2
    obtain ⟨y3, b3, Q3⟩ := hf 3 _ rfl
    have q3 : DataW.trod enc Tryd.prog w base spare held m 9 [c3] = some y3 := Q3 1 co_string
    clear Q3
    obtain ⟨y4, b4, Q4⟩ := hf 4 _ rfl
    have q4 : DataW.trod enc Tryd.prog w base spare held m 24 [c4] = some y4 := Q4 1 co_slDatum
    clear Q4
    obtain ⟨z0, rfl, -⟩ := rd_int Tryd.underlying3 q0
    obtain ⟨z1, rfl, -⟩ := rd_int Tryd.underlying2 q1
    obtain ⟨z2, rfl, -⟩ := rd_int Tryd.underlying23 q2
    obtain ⟨s, rfl, -⟩ := rd_string Tryd.underlying9 q3
    obtain ⟨n, p, len, cap, hn, rfl, hl, hc, hbk, hel⟩ := rd_slice Tryd.underlying24 co_Datum (by decide) q4
    subst hn
    subst hm
    refine ⟨z0, z1, z2, s, p, len, cap, rfl, hl, hc, fun hpos => ?_⟩
    obtain ⟨b, o, rfl, hel2⟩ := hel hpos
    refine ⟨b, o, rfl, fun j hj => ?_⟩
    obtain ⟨cs', y, hl', -, ht, hat⟩ := hel2 j hj
    match cs', hl' with
    | [c0, c1, c2, c3, c4], _ => exact ⟨c0, c1, c2, c3, c4, hat 0 _ rfl, hat 1 _ rfl, hat 2 _ rfl, hat 3 _ rfl, hat 4 _ rfl, (ih n (by omega) _ _ ht).succ⟩
set_option maxRecDepth 100000 in
theorem read_route {fuel : Nat} {cs : List Value} {x : DataW H × List MemPlace} (h : DataW.trod enc Tryd.prog w base spare held (fuel + 1) 42 cs = some x) :
    ∃ (fi : ByteArray) (op num : Int) (p : Option Addr) (n c : Nat) (hd : Int) (el : Bool) (t : Wt), cs = [.string fi, .int .i64 op, .int .i64 num, .slice p n c, .int .i64 hd, .bool el] ∧ WtIs w fuel [.int .i64 op, .int .i64 num, .slice p n c] t ∧ fi.size ≤ Rows.uptoBulk x.1 := by
  obtain ⟨hlen, m, hm, hf⟩ := rd_struct Tryd.underlying42 h
  rw [co_Route] at hlen
  match cs, hlen with
  | [c0, c1, c2, c3, c4, c5], _ =>
    obtain ⟨y0, b0, Q0⟩ := hf 0 _ rfl
    have q0 : DataW.trod enc Tryd.prog w base spare held m 9 [c0] = some y0 := Q0 1 co_string
    clear Q0
    obtain ⟨y1, b1, Q1⟩ := hf 1 _ rfl
    have q1 : DataW.trod enc Tryd.prog w base spare held m 40 [c1, c2, c3] = some y1 := Q1 3 co_Want
    clear Q1
    obtain ⟨y2, b2, Q2⟩ := hf 2 _ rfl
    have q2 : DataW.trod enc Tryd.prog w base spare held m 3 [c4] = some y2 := Q2 1 co_int
    clear Q2
    obtain ⟨y3, b3, Q3⟩ := hf 3 _ rfl
    have q3 : DataW.trod enc Tryd.prog w base spare held m 4 [c5] = some y3 := Q3 1 co_bool
    clear Q3
    obtain rfl : m = fuel := by omega
    obtain ⟨s, rfl, hs⟩ := rd_string Tryd.underlying9 q0
    obtain ⟨t, ht⟩ := read_want _ _ _ q1
    obtain ⟨z, rfl, -⟩ := rd_int Tryd.underlying3 q2
    obtain ⟨u, rfl⟩ := rd_bool Tryd.underlying4 q3
    have ht' := ht
    obtain ⟨op, num, l⟩ := t
    cases m with
    | zero => exact ht.elim
    | succ m =>
      obtain ⟨p, cap, e, -⟩ := ht
      injection e with e1 e
      injection e with e2 e
      injection e with e3
      subst e1; subst e2; subst e3
      exact ⟨s, op, num, p, l.length, cap, z, u, _, rfl, ht', Nat.le_trans hs b0⟩
theorem read_routes {fuel : Nat} {c : Value} {x : DataW H × List MemPlace} (h : DataW.trod enc Tryd.prog w base spare held fuel 22 [c] = some x) (hb : Rows.uptoBulk x.1 ≤ 1048576) :
    ∃ (k : Nat) (p : Option Addr) (cap : Nat) (l : List Rt), c = .slice p l.length cap ∧ Rts w k p l ∧ ∀ r ∈ l, r.fi.size ≤ 1048576 := by
  obtain ⟨n, p, len, cap, hn, rfl, hl, hc, hbk, hel⟩ := rd_slice Tryd.underlying22 co_Route (by decide) h
  cases n with
  | zero =>
    rcases Nat.eq_zero_or_pos len with rfl | hpos
    · exact ⟨0, p, cap, [], rfl, ⟨by simp, fun h => absurd h (by simp)⟩, fun r hr => by cases hr⟩
    · obtain ⟨b, o, rfl, hel2⟩ := hel hpos
      obtain ⟨cs', y, hl', -, ht, hat⟩ := hel2 0 hpos
      simp [DataW.trod] at ht
  | succ n =>
    have hE : ∀ i, i < len → ∃ r : Rt, ∃ b o, p = some ⟨b, o, none⟩ ∧ RtAt w n b (o + i * 6) r ∧ r.fi.size ≤ 1048576 := fun i hi => by
      obtain ⟨b, o, rfl, hel2⟩ := hel (by omega)
      obtain ⟨cs', y, hl', hb', ht, hat⟩ := hel2 i hi
      obtain ⟨fi, op, num, q, m, c, hd, el, t, rfl, hw, hs⟩ := read_route ht
      exact ⟨⟨fi, t, hd, el⟩, b, o, rfl, ⟨op, num, q, m, c, hat 0 _ rfl, hat 1 _ rfl, hat 2 _ rfl, hat 3 _ rfl, hat 4 _ rfl, hat 5 _ rfl, hw⟩, Nat.le_trans hs (Nat.le_trans hb' hb)⟩
    obtain ⟨l, hll, hp⟩ := choose_list len hE
    subst hll
    refine ⟨n, p, cap, l, rfl, ⟨Nat.le_trans hbk hb, fun hpos => ?_⟩, fun r hr => ?_⟩
    · obtain ⟨b, o, rfl, -⟩ := hel hpos
      refine ⟨b, o, rfl, fun j r hj => ?_⟩
      obtain ⟨b', o', e, hr, -⟩ := hp j r hj
      injection e with e
      injection e with e1 e2
      subst e1; subst e2
      exact hr
    · obtain ⟨j, hj⟩ := List.getElem?_of_mem hr
      obtain ⟨b', o', e, -, hs⟩ := hp j r hj
      exact hs
set_option maxRecDepth 100000 in
theorem read_msg {fuel : Nat} {cs : List Value} {x : DataW H × List MemPlace} (h : DataW.trod enc Tryd.prog w base spare held fuel 28 cs = some x) (hb : Rows.uptoBulk x.1 ≤ 1048576) :
    ∃ (k : Nat) (id : Int) (tp : ByteArray) (kd di db : Int) (ds : ByteArray) (q : Option Addr) (m c : Nat) (at_ un : Int) (rp : ByteArray) (co pr hp : Int),
      cs = [.int .i64 id, .string tp, .int .i64 kd, .int .i64 di, .int .u64 db, .string ds, .slice q m c, .int .i64 at_, .int .i64 un, .string rp, .int .i64 co, .int .i64 pr, .int .i64 hp] ∧ tp.size ≤ 1048576 ∧ DtIs w k [.int .i64 kd, .int .i64 di, .int .u64 db, .string ds, .slice q m c] := by
  obtain ⟨hlen, m, hm, hf⟩ := rd_struct Tryd.underlying28 h
  rw [co_Msg] at hlen
  match cs, hlen with
  | [c0, c1, c2, c3, c4, c5, c6, c7, c8, c9, c10, c11, c12], _ =>
    obtain ⟨y0, b0, Q0⟩ := hf 0 _ rfl
    have q0 : DataW.trod enc Tryd.prog w base spare held m 2 [c0] = some y0 := Q0 1 co_int64
    clear Q0
    obtain ⟨y1, b1, Q1⟩ := hf 1 _ rfl
    have q1 : DataW.trod enc Tryd.prog w base spare held m 9 [c1] = some y1 := Q1 1 co_string
    clear Q1
    obtain ⟨y2, b2, Q2⟩ := hf 2 _ rfl
    have q2 : DataW.trod enc Tryd.prog w base spare held m 26 [c2, c3, c4, c5, c6] = some y2 := Q2 5 co_Datum
    clear Q2
    obtain ⟨y3, b3, Q3⟩ := hf 3 _ rfl
    have q3 : DataW.trod enc Tryd.prog w base spare held m 2 [c7] = some y3 := Q3 1 co_int64
    clear Q3
    obtain ⟨y4, b4, Q4⟩ := hf 4 _ rfl
    have q4 : DataW.trod enc Tryd.prog w base spare held m 2 [c8] = some y4 := Q4 1 co_int64
    clear Q4
    obtain ⟨y5, b5, Q5⟩ := hf 5 _ rfl
    have q5 : DataW.trod enc Tryd.prog w base spare held m 9 [c9] = some y5 := Q5 1 co_string
    clear Q5
    obtain ⟨y6, b6, Q6⟩ := hf 6 _ rfl
    have q6 : DataW.trod enc Tryd.prog w base spare held m 2 [c10] = some y6 := Q6 1 co_int64
    clear Q6
    obtain ⟨y7, b7, Q7⟩ := hf 7 _ rfl
    have q7 : DataW.trod enc Tryd.prog w base spare held m 3 [c11] = some y7 := Q7 1 co_int
    clear Q7
    obtain ⟨y8, b8, Q8⟩ := hf 8 _ rfl
    have q8 : DataW.trod enc Tryd.prog w base spare held m 3 [c12] = some y8 := Q8 1 co_int
    clear Q8
    obtain ⟨z0, rfl, -⟩ := rd_int Tryd.underlying2 q0
    obtain ⟨s1, rfl, hs1⟩ := rd_string Tryd.underlying9 q1
    have hd := read_datum _ _ _ q2
    obtain ⟨z3, rfl, -⟩ := rd_int Tryd.underlying2 q3
    obtain ⟨z4, rfl, -⟩ := rd_int Tryd.underlying2 q4
    obtain ⟨s5, rfl, hs5⟩ := rd_string Tryd.underlying9 q5
    obtain ⟨z6, rfl, -⟩ := rd_int Tryd.underlying2 q6
    obtain ⟨z7, rfl, -⟩ := rd_int Tryd.underlying3 q7
    obtain ⟨z8, rfl, -⟩ := rd_int Tryd.underlying3 q8
    have hd' := hd
    cases m with
    | zero => exact hd.elim
    | succ m =>
      obtain ⟨kd, di, db, ds, p, n, cap, e, -⟩ := hd
      injection e with e1 e
      injection e with e2 e
      injection e with e3 e
      injection e with e4 e
      injection e with e5
      subst e1; subst e2; subst e3; subst e4; subst e5
      exact ⟨m + 1, z0, s1, kd, di, db, ds, p, n, cap, z3, z4, s5, z6, z7, z8, rfl, by omega, hd'⟩
end
end Go.Proofs.YtpgdiekpeceicaaDoor
