/- WIRE: the program's reader: all blocks but one stay; a failure, a byte. -/
import Derived.Test.YtmncpbfghabamaaDoorWireDSt
import Derived.Deep.QuietTactic
import Derived.BigQuiet
namespace Go.Proofs.YtmncpbfghabamaaDoor
open Go Go.RowKit

/-- all blocks but one are as they were -/
structure But (Br : Nat) (W W' : World) : Prop where
  os : W'.os = W.os
  tape : W'.tape = W.tape
  output : W'.output = W.output
  size : W.heap.size ≤ W'.heap.size
  block : ∀ k, k < W.heap.size → k ≠ Br → W'.heap[k]? = W.heap[k]?
theorem But.refl (Br : Nat) (W : World) : But Br W W := ⟨rfl, rfl, rfl, Nat.le_refl _, fun _ _ _ => rfl⟩
theorem But.trans {Br : Nat} {W W1 W2 : World} (h : But Br W W1) (k : But Br W1 W2) : But Br W W2 :=
  ⟨k.os.trans h.os, k.tape.trans h.tape, k.output.trans h.output, Nat.le_trans h.size k.size, fun i hi hn => (k.block i (Nat.lt_of_lt_of_le hi h.size) hn).trans (h.block i hi hn)⟩
theorem But.drewN {Br : Nat} {W W1 : World} (h : But Br W W1) (n : Nat) : But Br W (W1.drewN n) := ⟨h.os, h.tape, h.output, h.size, h.block⟩
theorem But.drew {Br : Nat} {W W1 : World} (h : But Br W W1) : But Br W W1.drew := ⟨h.os, h.tape, h.output, h.size, h.block⟩
theorem But.alloc {Br : Nat} {W W1 : World} (h : But Br W W1) (o : Obj) : But Br W (W1.alloc o) :=
  ⟨h.os, h.tape, h.output, by rw [World.size_alloc]; exact Nat.le_succ_of_le h.size, fun k hk hn => (Below.heap_alloc _ _ _ (Nat.lt_of_lt_of_le hk h.size)).trans (h.block k hk hn)⟩
theorem But.set {Br : Nat} {W W1 : World} (h : But Br W W1) (a : Addr) (v : Value) (ha : a.block = Br ∨ W.heap.size ≤ a.block) : But Br W (W1.setCell a v) := by
  refine ⟨h.os, h.tape, h.output, by simpa [World.setCell] using h.size, fun k hk hn => (Below.heap_setCell _ _ _ _ ?_).trans (h.block k hk hn)⟩
  intro e
  rcases ha with ha | ha <;> omega
theorem But.ofBelow {Br : Nat} {W W1 : World} (h : Below W.heap.size W W1) : But Br W W1 := ⟨h.os, h.tape, h.output, h.size, fun k hk _ => h.block k hk⟩
theorem But.boxed {Br B : Nat} {W W' : World} {o : Obj} (h : But Br W W') (hb : W.heap[B]? = some o) (hn : B ≠ Br) : W'.heap[B]? = some o := (h.block B (Array.getElem?_eq_some_iff.1 hb).1 hn).trans hb
theorem But.cell {Br b o : Nat} {W W' : World} {v : Value} (h : But Br W W') (hb : W.cell? ⟨b, o, none⟩ = some v) (hn : b ≠ Br) : W'.cell? ⟨b, o, none⟩ = some v := by
  have hlt := World.block_lt_of_cell? W _ hb
  have e := h.block b hlt hn
  rw [← hb]
  unfold World.cell?
  simp only [e]
theorem But.below {Br B : Nat} {w0 W W' : World} (h : But Br W W') (hb : Below B w0 W) (h1 : B ≤ Br) (h2 : B ≤ W.heap.size) : Below B w0 W' :=
  hb.trans ⟨h.os, h.tape, h.output, h.size, fun k hk => h.block k (by omega) (by omega)⟩
/-- where a reader stands -/
structure Cs where
  pos : Nat
  err : Int
  parts : Int
  room : Int
/-- a reader in memory -/
def RB (W : World) (Br : Nat) (v : Value) (s : Cs) : Prop := W.heap[Br]? = some (.cells #[v, .int .i64 (s.pos : Nat), .int .i64 s.err, .int .i64 s.parts, .int .i64 s.room] 74 (0, 0))
theorem RB.cells {W : World} {Br : Nat} {v : Value} {s : Cs} (h : RB W Br v s) : W.cell? ⟨Br, 0, none⟩ = some v ∧ W.cell? ⟨Br, 1, none⟩ = some (.int .i64 (s.pos : Nat)) ∧ W.cell? ⟨Br, 2, none⟩ = some (.int .i64 s.err) ∧ W.cell? ⟨Br, 3, none⟩ = some (.int .i64 s.parts) ∧ W.cell? ⟨Br, 4, none⟩ = some (.int .i64 s.room) ∧ Br < W.heap.size := by
  have h' : W.heap[Br]? = some (.cells #[v, .int .i64 (s.pos : Nat), .int .i64 s.err, .int .i64 s.parts, .int .i64 s.room] 74 (0, 0)) := h
  exact cells5 h'
theorem RB.free {W : World} {Br : Nat} {v : Value} {s : Cs} (h : RB W Br v s) (j : Nat) : W.frozen? ⟨Br, j, none⟩ = false := frozen_of_row W Br j _ _ h
theorem RB.drewN {W : World} {Br : Nat} {v : Value} {s : Cs} (h : RB W Br v s) (n : Nat) : RB (W.drewN n) Br v s := h
theorem RB.setPos {W : World} {Br : Nat} {v : Value} {s : Cs} (h : RB W Br v s) (n : Nat) {u : Value} (hu : u = .int .i64 (n : Nat)) : RB (W.setCell ⟨Br, 1, none⟩ u) Br v { s with pos := n } := by subst hu; exact heap_setCell_same W Br 1 _ _ _ h
theorem RB.setErr {W : World} {Br : Nat} {v : Value} {s : Cs} (h : RB W Br v s) (e : Int) : RB (W.setCell ⟨Br, 2, none⟩ (.int .i64 e)) Br v { s with err := e } := heap_setCell_same W Br 2 _ _ _ h
theorem RB.setParts {W : World} {Br : Nat} {v : Value} {s : Cs} (h : RB W Br v s) (e : Int) {u : Value} (hu : u = .int .i64 e) : RB (W.setCell ⟨Br, 3, none⟩ u) Br v { s with parts := e } := by subst hu; exact heap_setCell_same W Br 3 _ _ _ h
theorem RB.setRoom {W : World} {Br : Nat} {v : Value} {s : Cs} (h : RB W Br v s) (e : Int) {u : Value} (hu : u = .int .i64 e) : RB (W.setCell ⟨Br, 4, none⟩ u) Br v { s with room := e } := by subst hu; exact heap_setCell_same W Br 4 _ _ _ h
theorem RB.but {W W' : World} {Br Bx : Nat} {v : Value} {s : Cs} (h : RB W Br v s) (hb : But Bx W W') (hn : Br ≠ Bx) : RB W' Br v s := hb.boxed h hn
/-- bytes are not the reader -/
theorem Bs.but {W W' : World} {Br : Nat} {v vr : Value} {s : Cs} {l : List UInt8} (h : Bs W v l) (hr : RB W Br vr s) (hvr : ∃ q n c, vr = .slice q n c) (hb : But Br W W') : Bs W' v l := by
  obtain ⟨p, cap, hv, h1, h2, h3⟩ := h
  refine ⟨p, cap, hv, h1, h2, fun hn => ?_⟩
  obtain ⟨b, o, hp, hc⟩ := h3 hn
  have hne : b ≠ Br := by
    intro e
    subst e
    obtain ⟨x, hx⟩ : ∃ x, l[0]? = some x := ⟨_, List.getElem?_eq_getElem hn⟩
    have h0 := hc 0 x hx
    rw [cell_of_row W b (o + 0) _ _ _ hr] at h0
    obtain ⟨q, n, c, rfl⟩ := hvr
    match o, h0 with
    | 0, h0 => simp at h0
    | 1, h0 => simp at h0
    | 2, h0 => simp at h0
    | 3, h0 => simp at h0
    | 4, h0 => simp at h0
    | o + 5, h0 => simp at h0
  exact ⟨b, o, hp, fun j x hj => hb.cell (hc j x hj) hne⟩
/-- one byte -/
def byteR (l : List UInt8) (s : Cs) : UInt8 × Cs := if s.err ≠ 0 then (0, s) else if s.pos < l.length then (l.getD s.pos 0, { s with pos := s.pos + 1 }) else (0, { s with err := 260 })
def FailPost (Br : Nat) (v : Value) (s : Cs) (e : Int) (W : World) (r : Ending) (W' : World) : Prop := r = .returned (.tuple #[]) ∧ RB W' Br v (if s.err = 0 then { s with err := e } else s) ∧ But Br W W'
def BytePost (l : List UInt8) (Br : Nat) (v : Value) (s : Cs) (W : World) (r : Ending) (W' : World) : Prop := r = .returned (.int .u8 ((byteR l s).1.toNat : Nat)) ∧ RB W' Br v (byteR l s).2 ∧ But Br W W'

set_option maxHeartbeats 1000000 in
theorem fail_any (Br : Nat) (v : Value) (s : Cs) (e : Int) (W : World) (hr : RB W Br v s) :
    Calls Tryd.prog 44 #[.pointer (some ⟨Br, 0, none⟩), .int .i64 e] W (FailPost Br v s e W) := by
  obtain ⟨c0, c1, c2, c3, c4, hlt⟩ := hr.cells
  have hf := hr.free 2
  have HR := Lib.hid hr
  obtain ⟨PP, hPP⟩ : ∃ PP, FailPost Br v s e W = PP := ⟨_, rfl⟩
  rw [hPP]
  have HPP := Lib.hid hPP
  clear hPP hr
  by_cases h0 : s.err = 0
  · rw [h0] at c2
    have H0 := Lib.hid h0
    clear h0
    go_enter Tryd.func44, Tryd.ntmps44
    go_wp2_with fail
    refine bodyPost_end (results_none rfl _ _ _) rfl ?_
    rw [← HPP.out]
    refine ⟨rfl, ?_, (But.refl _ _).set _ _ (.inl rfl)⟩
    rw [if_pos H0.out]
    exact HR.out.setErr e
  · have hb : (s.err == 0) = false := by simpa using h0
    have H0 := Lib.hid h0
    clear h0
    go_enter Tryd.func44, Tryd.ntmps44
    go_wp2_with fail
    refine bodyPost_end (results_none rfl _ _ _) rfl ?_
    rw [← HPP.out]
    refine ⟨rfl, ?_, But.refl _ _⟩
    rw [if_neg H0.out]
    exact HR.out

set_option maxHeartbeats 2000000 in
theorem byte_any (l : List UInt8) (Br : Nat) (v : Value) (s : Cs) (W : World) (hr : RB W Br v s) (hv : Bs W v l) (hl : l.length ≤ 100000000) (hp : s.pos ≤ 100000000) :
    Calls Tryd.prog 43 #[.pointer (some ⟨Br, 0, none⟩)] W (BytePost l Br v s W) := by
  obtain ⟨c0, c1, c2, c3, c4, hlt⟩ := hr.cells
  have hf := hr.free 1
  have HR := Lib.hid hr
  have HV := Lib.hid hv
  obtain ⟨p, cap, rfl, h1, h2, h3⟩ := hv
  obtain ⟨PP, hPP⟩ : ∃ PP, BytePost l Br (.slice p l.length cap) s W = PP := ⟨_, rfl⟩
  rw [hPP]
  have HPP := Lib.hid hPP
  have H3 := Lib.hid h3
  clear hPP hr h3
  by_cases h0 : s.err = 0
  · rw [h0] at c2
    have H0 := Lib.hid h0
    clear h0
    by_cases hpl : s.pos < l.length
    · have hI : ¬ ((l.length : Nat) : Int) ≤ (s.pos : Nat) := by omega
      have HB : Hid (byteR l s = (l.getD s.pos 0, { s with pos := s.pos + 1 })) := by show _ = _; unfold byteR; rw [if_neg (by simp [H0.out]), if_pos hpl]
      obtain ⟨b, o, rfl, hc⟩ := H3.out (by omega)
      obtain ⟨x, hx⟩ : ∃ x, l[s.pos]? = some x := ⟨_, List.getElem?_eq_getElem hpl⟩
      have q0 := hc s.pos x hx
      have hxx : l.getD s.pos 0 = x := by simp [List.getD, hx]
      have HX := Lib.hid hxx
      have hne : b ≠ Br := by
        intro e
        subst e
        have h0 := q0
        rw [cell_of_row W b _ _ _ _ HR.out] at h0
        match hoo : o + s.pos, h0 with
        | 0, h0 => simp at h0
        | 1, h0 => simp at h0
        | 2, h0 => simp at h0
        | 3, h0 => simp at h0
        | 4, h0 => simp at h0
        | o + 5, h0 => simp at h0
      have hne' : Br ≠ b := fun e => hne e.symm
      have hbl := World.block_lt_of_cell? W _ q0
      generalize s.pos = n at *
      clear hc hx hxx hlt
      go_enter Tryd.func43, Tryd.ntmps43
      go_wp2_with fail
      have hw1 : IntKind.i64.wrap ((n : Int) + 1 - 1) = (n : Int) := by rw [IntWalk.i64_in _ (by omega)]; omega
      have hn0 : (0 : Int) ≤ (n : Int) := by omega
      have hnl : (n : Int) < (l.length : Int) := by omega
      go_quiet (fail)
      go_wp2_with fail
      go_quiet (fail)
      go_wp2_with fail
      rw [← HPP.out]
      refine ⟨?_, ?_, (((But.refl Br W).drewN _).set ⟨Br, 1, none⟩ _ (.inl rfl)).drewN _⟩
      · show Ending.returned (.int .u8 (x.toNat : Nat)) = _
        rw [HB.out, HX.out]
      · rw [HB.out]
        exact ((HR.out.drewN _).setPos (n + 1) (by simp)).drewN _
    · have hI : ((l.length : Nat) : Int) ≤ (s.pos : Nat) := by omega
      have HB : Hid (byteR l s = (0, { s with err := 260 })) := by show _ = _; unfold byteR; rw [if_neg (by simp [H0.out]), if_neg hpl]
      go_enter Tryd.func43, Tryd.ntmps43
      go_wp2_with fail
      go_quiet (fail)
      go_wp2_with fail
      refine (fail_any Br _ s 260 _ (HR.out.drewN _)).mono ?_
      rintro e W2 ⟨rfl, g1, g2⟩
      have G1 := Lib.hid g1
      have G2 := Lib.hid (((But.refl Br W).drewN _).trans g2)
      clear g1 g2
      go_wp2_with fail
      rw [← HPP.out]
      refine ⟨by rw [HB.out]; rfl, ?_, G2.out⟩
      rw [HB.out]
      have h := G1.out
      rw [if_pos H0.out] at h
      exact h
  · have hb : (s.err == 0) = false := by simpa using h0
    have hb2 : (s.err != 0) = true := by simpa using h0
    have HB : Hid (byteR l s = (0, s)) := by show _ = _; unfold byteR; rw [if_pos h0]
    clear h0
    go_enter Tryd.func43, Tryd.ntmps43
    go_wp2_with fail
    rw [← HPP.out]
    refine ⟨by rw [HB.out]; rfl, by rw [HB.out]; exact HR.out, But.refl _ _⟩
end Go.Proofs.YtmncpbfghabamaaDoor
