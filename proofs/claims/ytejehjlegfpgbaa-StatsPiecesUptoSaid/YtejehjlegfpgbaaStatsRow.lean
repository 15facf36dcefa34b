/- STATS: ARGUMENTS OF TYPE []api.Event, opened. -/
import Derived.Test.YtejehjlegfpgbaaStatsBase
import Derived.Test.YtejehjlegfpgbaaRows
import Derived.ProofKit
import Derived.OpenShut
import Derived.JoinedCond
import Derived.Deep.Slices
import Derived.Carry
namespace Go.Proofs.Ytejehjlegfpgbaa
open Go Go.ChangeShapes Go.WideShapes Go.ChangeAt Go.RowKit Go.Deep

theorem laidOut : laidOutB Try.prog = true := by kernel_rfl
theorem bulk_one {H : Type} (d : DataW H) : 1 ≤ Rows.uptoBulk d := by
  cases d with
  | lit x => cases x <;> simp [Rows.uptoBulk]
  | _ => simp [Rows.uptoBulk]
theorem bulk_len {H : Type} : ∀ l : List (DataW H), l.length ≤ Rows.uptoBulkAll l := by
  intro l
  induction l with
  | nil => exact Nat.le_refl _
  | cons x r ih =>
    simp only [Rows.uptoBulkAll, List.length_cons]
    have := bulk_one x
    omega
theorem bulk_part {H : Type} : ∀ (l : List (DataW H)) (d : DataW H), d ∈ l → Rows.uptoBulk d ≤ Rows.uptoBulkAll l := by
  intro l
  induction l with
  | nil => intro d h; cases h
  | cons x r ih =>
    intro d h
    simp only [Rows.uptoBulkAll]
    rcases List.mem_cons.1 h with rfl | h
    · omega
    · have := ih d h; omega

section
variable {H : Type} {enc : TypeId × Value → H} {w : World} {base : Nat} {spare : Nat → Bool} {held : Bool}
theorem fld {t : TypeId} {fs : Array Field} {cs : List Value} {fuel : Nat} {x : DataW H × List MemPlace} (ht : Try.prog.underlying t = some (.struct fs)) (h : DataW.trod enc Try.prog w base spare held fuel t cs = some x) :
    cs.length = Try.prog.cellsOf t ∧ ∃ n, ∀ (i : Nat) (f : Field), fs[i]? = some f → ∃ y, ∀ k, Try.prog.cellsOf f.type = k → DataW.trod enc Try.prog w base spare held n f.type ((cs.drop f.offset).take k) = some y := by
  obtain ⟨xs, n, _, _, hlen, hx, hf⟩ := DataW.trod_struct ht h
  refine ⟨hlen, n, fun i f hi => ?_⟩
  have hlt : i < xs.length := by rw [hx]; exact (Array.getElem?_eq_some_iff.1 hi).1
  refine ⟨xs[i], fun k hk => ?_⟩
  subst hk
  rw [hf i f hi]; exact List.getElem?_eq_getElem hlt
theorem one_int {k : IntKind} {t : TypeId} {c : Value} {n : Nat} {y : DataW H × List MemPlace} (ht : Try.prog.underlying t = some (.int k)) (h : DataW.trod enc Try.prog w base spare held n t [c] = some y) : ∃ z, c = .int k z ∧ (Lit.int k z).wf = true := by
  obtain ⟨z, hz, _, hw⟩ := DataW.trod_int ht h
  injection hz with hz
  exact ⟨z, hz, hw⟩
theorem co_int : Try.prog.cellsOf 3 = 1 := by kernel_rfl
theorem co_int64 : Try.prog.cellsOf 2 = 1 := by kernel_rfl
theorem co_uint64 : Try.prog.cellsOf 43 = 1 := by kernel_rfl
theorem co_Errno : Try.prog.cellsOf 40 = 1 := by kernel_rfl
theorem co_bool : Try.prog.cellsOf 4 = 1 := by kernel_rfl
theorem co_string : Try.prog.cellsOf 9 = 1 := by kernel_rfl
theorem co_slDatum : Try.prog.cellsOf 44 = 1 := by kernel_rfl
theorem co_Panic : Try.prog.cellsOf 42 = 2 := by kernel_rfl
theorem co_Datum : Try.prog.cellsOf 46 = 5 := by kernel_rfl
theorem co_Result : Try.prog.cellsOf 48 = 10 := by kernel_rfl
theorem co_Event : Try.prog.cellsOf 50 = 15 := by kernel_rfl
theorem pan_cells {fuel : Nat} {cs : List Value} {x : DataW H × List MemPlace} (h : DataW.trod enc Try.prog w base spare held fuel 42 cs = some x) : ∃ a b, cs = [.int .i64 a, .int .i64 b] := by
  obtain ⟨hlen, n, hf⟩ := fld Try.underlying42 h
  rw [co_Panic] at hlen
  match cs, hlen with
  | [c0, c1], _ =>
    obtain ⟨y0, Q0⟩ := hf 0 _ rfl
    have q0 : DataW.trod enc Try.prog w base spare held n 3 [c0] = some y0 := Q0 1 co_int
    clear Q0
    obtain ⟨y1, Q1⟩ := hf 1 _ rfl
    have q1 : DataW.trod enc Try.prog w base spare held n 2 [c1] = some y1 := Q1 1 co_int64
    clear Q1
    obtain ⟨z0, rfl, hw0⟩ := one_int Try.underlying3 q0
    obtain ⟨z1, rfl, hw1⟩ := one_int Try.underlying2 q1
    exact ⟨z0, z1, rfl⟩
theorem dat_cells {fuel : Nat} {cs : List Value} {x : DataW H × List MemPlace} (h : DataW.trod enc Try.prog w base spare held fuel 46 cs = some x) : ∃ a b c s p n m, cs = [.int .i64 a, .int .i64 b, .int .u64 c, .string s, .slice p n m] := by
  obtain ⟨hlen, n, hf⟩ := fld Try.underlying46 h
  rw [co_Datum] at hlen
  match cs, hlen with
  | [c0, c1, c2, c3, c4], _ =>
    obtain ⟨y0, Q0⟩ := hf 0 _ rfl
    have q0 : DataW.trod enc Try.prog w base spare held n 3 [c0] = some y0 := Q0 1 co_int
    clear Q0
    obtain ⟨y1, Q1⟩ := hf 1 _ rfl
    have q1 : DataW.trod enc Try.prog w base spare held n 2 [c1] = some y1 := Q1 1 co_int64
    clear Q1
    obtain ⟨y2, Q2⟩ := hf 2 _ rfl
    have q2 : DataW.trod enc Try.prog w base spare held n 43 [c2] = some y2 := Q2 1 co_uint64
    clear Q2
    obtain ⟨y3, Q3⟩ := hf 3 _ rfl
    have q3 : DataW.trod enc Try.prog w base spare held n 9 [c3] = some y3 := Q3 1 co_string
    clear Q3
    obtain ⟨y4, Q4⟩ := hf 4 _ rfl
    have q4 : DataW.trod enc Try.prog w base spare held n 44 [c4] = some y4 := Q4 1 co_slDatum
    clear Q4
    obtain ⟨z0, rfl, hw0⟩ := one_int Try.underlying3 q0
    obtain ⟨z1, rfl, hw1⟩ := one_int Try.underlying2 q1
    obtain ⟨z2, rfl, hw2⟩ := one_int Try.underlying43 q2
    obtain ⟨s, hs, _⟩ := DataW.trod_string Try.underlying9 q3
    injection hs with hs
    rcases open_slice Try.underlying44 q4 with ⟨h0, _⟩ | ⟨a, ln, cp, _, _, _, _, h0, _⟩
    · injection h0 with h0; exact ⟨z0, z1, z2, s, none, 0, 0, by rw [hs, h0]⟩
    · injection h0 with h0; exact ⟨z0, z1, z2, s, some a, ln, cp, by rw [hs, h0]⟩
theorem res_cells {fuel : Nat} {cs : List Value} {x : DataW H × List MemPlace} (h : DataW.trod enc Try.prog w base spare held fuel 48 cs = some x) : ∃ er a b c t d e f s p n m, cs = [.int .i64 er, .int .i64 a, .int .i64 b, .int .i64 c, .bool t, .int .i64 d, .int .i64 e, .int .u64 f, .string s, .slice p n m] := by
  obtain ⟨hlen, n, hf⟩ := fld Try.underlying48 h
  rw [co_Result] at hlen
  match cs, hlen with
  | [c0, c1, c2, c3, c4, c5, c6, c7, c8, c9], _ =>
    obtain ⟨y0, Q0⟩ := hf 0 _ rfl
    have q0 : DataW.trod enc Try.prog w base spare held n 40 [c0] = some y0 := Q0 1 co_Errno
    clear Q0
    obtain ⟨y1, Q1⟩ := hf 1 _ rfl
    have q1 : DataW.trod enc Try.prog w base spare held n 2 [c1] = some y1 := Q1 1 co_int64
    clear Q1
    obtain ⟨y2, Q2⟩ := hf 2 _ rfl
    have q2 : DataW.trod enc Try.prog w base spare held n 42 [c2, c3] = some y2 := Q2 2 co_Panic
    clear Q2
    obtain ⟨y3, Q3⟩ := hf 3 _ rfl
    have q3 : DataW.trod enc Try.prog w base spare held n 4 [c4] = some y3 := Q3 1 co_bool
    clear Q3
    obtain ⟨y4, Q4⟩ := hf 4 _ rfl
    have q4 : DataW.trod enc Try.prog w base spare held n 46 [c5, c6, c7, c8, c9] = some y4 := Q4 5 co_Datum
    clear Q4
    obtain ⟨z0, rfl, hw0⟩ := one_int Try.underlying40 q0
    obtain ⟨z1, rfl, hw1⟩ := one_int Try.underlying2 q1
    obtain ⟨b, c, h2⟩ := pan_cells q2
    injection h2 with h20 h2
    injection h2 with h21
    obtain ⟨t, ht, _⟩ := DataW.trod_bool Try.underlying4 q3
    injection ht with ht
    obtain ⟨d, e, f, s, p, n', m, h4⟩ := dat_cells q4
    injection h4 with h40 h4
    injection h4 with h41 h4
    injection h4 with h42 h4
    injection h4 with h43 h4
    injection h4 with h44
    exact ⟨z0, z1, b, c, t, d, e, f, s, p, n', m, by rw [h20, h21, ht, h40, h41, h42, h43, h44]⟩
theorem ev_cells {fuel : Nat} {cs : List Value} {x : DataW H × List MemPlace} (h : DataW.trod enc Try.prog w base spare held fuel 50 cs = some x) : ∃ e : Ev, cs = ec e ∧ Wf e.i := by
  obtain ⟨hlen, n, hf⟩ := fld Try.underlying50 h
  rw [co_Event] at hlen
  match cs, hlen with
  | [c0, c1, c2, c3, c4, c5, c6, c7, c8, c9, c10, c11, c12, c13, c14], _ =>
    obtain ⟨y0, Q0⟩ := hf 0 _ rfl
    have q0 : DataW.trod enc Try.prog w base spare held n 3 [c0] = some y0 := Q0 1 co_int
    clear Q0
    obtain ⟨y1, Q1⟩ := hf 1 _ rfl
    have q1 : DataW.trod enc Try.prog w base spare held n 2 [c1] = some y1 := Q1 1 co_int64
    clear Q1
    obtain ⟨y2, Q2⟩ := hf 2 _ rfl
    have q2 : DataW.trod enc Try.prog w base spare held n 2 [c2] = some y2 := Q2 1 co_int64
    clear Q2
    obtain ⟨y3, Q3⟩ := hf 3 _ rfl
    have q3 : DataW.trod enc Try.prog w base spare held n 3 [c3] = some y3 := Q3 1 co_int
    clear Q3
    obtain ⟨y4, Q4⟩ := hf 4 _ rfl
    have q4 : DataW.trod enc Try.prog w base spare held n 2 [c4] = some y4 := Q4 1 co_int64
    clear Q4
    obtain ⟨y5, Q5⟩ := hf 5 _ rfl
    have q5 : DataW.trod enc Try.prog w base spare held n 48 [c5, c6, c7, c8, c9, c10, c11, c12, c13, c14] = some y5 := Q5 10 co_Result
    clear Q5
    obtain ⟨z0, rfl, hw0⟩ := one_int Try.underlying3 q0
    obtain ⟨z1, rfl, hw1⟩ := one_int Try.underlying2 q1
    obtain ⟨z2, rfl, hw2⟩ := one_int Try.underlying2 q2
    obtain ⟨z3, rfl, hw3⟩ := one_int Try.underlying3 q3
    obtain ⟨z4, rfl, hw4⟩ := one_int Try.underlying2 q4
    obtain ⟨er, a, b, c, t, d, e, f, s, p, n', m, h5⟩ := res_cells q5
    injection h5 with k0 h5
    injection h5 with k1 h5
    injection h5 with k2 h5
    injection h5 with k3 h5
    injection h5 with k4 h5
    injection h5 with k5 h5
    injection h5 with k6 h5
    injection h5 with k7 h5
    injection h5 with k8 h5
    injection h5 with k9
    refine ⟨⟨z0, z1, z2, z3, er, fun i => if i = 4 then z4 else if i = 6 then a else if i = 7 then b else if i = 8 then c else if i = 10 then d else if i = 11 then e else f, t, s, p, n', m⟩, ?_, ?_⟩
    · rw [k0, k1, k2, k3, k4, k5, k6, k7, k8, k9]; rfl
    · simp only [Lit.wf, IntKind.min, IntKind.max, IntKind.signed, IntKind.bits, Bool.and_eq_true, decide_eq_true_eq] at hw2
      unfold Wf; dsimp only; exact ⟨by have := hw2.1; simpa using this, by have := hw2.2; simpa using this⟩
end
theorem plain_addr {w : World} {a : Addr} {v : Value} (h : w.cell? a = some v) : ∃ b o, a = ⟨b, o, none⟩ := by
  obtain ⟨b, o, s⟩ := a
  cases s with
  | none => exact ⟨b, o, rfl⟩
  | some k => simp only [World.cell?] at h; split at h <;> simp at h
theorem add_plain {b o i : Nat} : (⟨b, o, none⟩ : Addr).add i = ⟨b, o + i, none⟩ := by unfold Addr.add; split <;> simp_all
theorem open_evs {H : Type} {enc : TypeId × Value → H} {W : World} {a0 : Option Addr} {len cap : Nat} {d0 : DataW H} {p : List MemPlace}
    (h0 : DataW.Trod enc Try.prog W 0 (fun _ => true) true 22 (.slice a0 len cap) d0 p) :
    ∃ l : List Ev, Evs W (.slice a0 len cap) l ∧ l.length ≤ Rows.uptoBulk d0 ∧ ∀ e ∈ l, Wf e.i := by
  obtain ⟨fuel, hf⟩ := h0
  rcases open_slice Try.underlying22 hf with ⟨hcs, hx⟩ | ⟨a, len', cap', m, n, D, Pl, hcs, _, hl, hm, hmm, hx, hi⟩
  · simp [Value.cells] at hcs
    obtain ⟨rfl, rfl, rfl⟩ := hcs
    exact ⟨[], ⟨none, 0, rfl, Nat.le_refl _, by omega, fun h => by simp at h⟩, Nat.zero_le _, fun e he => by cases he⟩
  · simp [Value.cells] at hcs
    obtain ⟨rfl, rfl, rfl⟩ := hcs
    simp only [if_true] at hmm
    subst hmm
    have hE : ∀ i, i < len → ∃ e : Ev, (∀ j u, (ec e)[j]? = some u → W.cell? (a.add (i * 15 + j)) = some u) ∧ Wf e.i := fun i hil => by
      obtain ⟨cs', hc, ht⟩ := hi i (by omega)
      rw [co_Event] at hc
      obtain ⟨_, hlen, hat⟩ := World.cells?_some hc
      obtain ⟨e, rfl, hw⟩ := ev_cells ht
      refine ⟨e, fun j u hj => ?_, hw⟩
      have hj15 : j < 15 := (List.getElem?_eq_some_iff.1 hj).1
      rw [← hj, ← hat j hj15, add_add]
    have hch : ∃ F : Nat → Ev, ∀ i, i < len → (∀ j u, (ec (F i))[j]? = some u → W.cell? (a.add (i * 15 + j)) = some u) ∧ Wf (F i).i :=
      ⟨fun i => if h : i < len then Classical.choose (hE i h) else ⟨0, 0, 0, 0, 0, fun _ => 0, false, ⟨#[]⟩, none, 0, 0⟩, fun i h => by dsimp only; rw [dif_pos h]; exact Classical.choose_spec (hE i h)⟩
    obtain ⟨F, hF⟩ := hch
    have hlen : ((List.range len).map F).length = len := by simp
    refine ⟨(List.range len).map F, ⟨_, _, by rw [hlen], by rw [hlen]; exact hl, by unfold maxLen at hm; omega, fun h => ?_⟩, ?_, ?_⟩
    · rw [hlen] at h
      have hc0 : W.cell? a = some (.int .i64 (F 0).k) := by
        have h1 := (hF 0 h).1 0 _ rfl
        have e0 : a.add (0 * 15 + 0) = a := if_pos rfl
        rw [e0] at h1; exact h1
      obtain ⟨b, o', rfl⟩ := plain_addr hc0
      refine ⟨b, o', rfl, fun j e hj i u hu => ?_⟩
      obtain ⟨hjl, rfl⟩ : j < len ∧ F j = e := by
        rw [List.getElem?_map, Option.map_eq_some_iff] at hj
        obtain ⟨q, hq, rfl⟩ := hj
        obtain ⟨h1, h2⟩ := List.getElem?_eq_some_iff.1 hq
        simp at h1 h2
        subst h2; exact ⟨h1, rfl⟩
      have := (hF j hjl).1 i u hu
      rwa [add_plain] at this
    · rw [hlen]
      simp only [Prod.mk.injEq] at hx
      rw [hx.1]
      simp only [Rows.uptoBulk]
      have := bulk_len ((List.range len).map D)
      simp at this
      omega
    · intro e he
      obtain ⟨i, hi', rfl⟩ := List.mem_map.1 he
      exact (hF i (by simpa using hi')).2
end Go.Proofs.Ytejehjlegfpgbaa
