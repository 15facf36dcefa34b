/- ROUTE: conduitref02.Fit, conduitref21.Zero, Typed. -/
import Derived.Test.YtpgdiekpeceicaaDoorRouteLook
namespace Go.Proofs.YtpgdiekpeceicaaDoor
open Go Go.RowKit

def FitPost (w : World) (F : Prop) (r : Ending) (w' : World) : Prop := ∃ b : Bool, r = .returned (.bool b) ∧ (b = true → F) ∧ Below w.heap.size w w'
theorem refFit2_any (k : Nat) (t : Wt) (w : World) (op num : Int) (p : Option Addr) (n cap : Nat) (hW : WtIs w k [.int .i64 op, .int .i64 num, .slice p n cap] t) :
    Calls Tryd.prog 33 #[.agg #[.int .i64 op, .int .i64 num, .slice p n cap]] w (FitPost w (FitF k t)) := by
  have CL : Hid (∀ W, Below w.heap.size w W → Calls Tryd.prog 42 #[.agg #[.int .i64 op, .int .i64 num, .slice p n cap], .int .i64 1, .int .i64 1] W (LookPost W (FitF k t))) := fun W hb => look_any k t W op num p n cap 1 1 (hW.below hb) (by omega) (by omega) (by omega) (by omega)
  obtain ⟨PP, hPP⟩ : ∃ PP, FitPost w (FitF k t) = PP := ⟨_, rfl⟩
  rw [hPP]
  have HPP := Lib.hid hPP
  clear hPP hW
  have HB0 : Hid (Below w.heap.size w (w.alloc (.cells #[.int .i64 op, .int .i64 num, .slice p n cap] 40))) := (Below.refl _ _).alloc (Nat.le_refl _) _
  go_enter Tryd.func33, Tryd.ntmps33
  go_wp2_with fail
  refine (CL.out _ HB0.out).mono ?_
  rintro r' W ⟨v, rfl, hv, hb2⟩
  have HB2 := Lib.hid (HB0.out.trans (hb2.mono HB0.out.size))
  clear hb2
  rcases hv with hv | ⟨hv3, hv4, hv5⟩
  · subst hv
    go_wp2_with fail
    rw [← HPP.out]
    exact ⟨false, rfl, by simp, HB2.out⟩
  · have HF := Lib.hid hv5
    clear hv5
    go_wp2_with fail
    rw [← HPP.out]
    exact ⟨true, rfl, fun _ => HF.out, HB2.out⟩

def zeroB (op num : Int) (n : Nat) : Bool := op == 0 && num == 0 && n == 0
theorem zero_any (w : World) (op num : Int) (p : Option Addr) (n cap : Nat) :
    Calls Tryd.prog 27 #[.agg #[.int .i64 op, .int .i64 num, .slice p n cap]] w (HoldPost w (zeroB op num n)) := by
  obtain ⟨PP, hPP⟩ : ∃ PP, HoldPost w (zeroB op num n) = PP := ⟨_, rfl⟩
  rw [hPP]
  have HPP := Lib.hid hPP
  clear hPP
  have HB0 : Hid (Below w.heap.size w (w.alloc (.cells #[.int .i64 op, .int .i64 num, .slice p n cap] 40))) := (Below.refl _ _).alloc (Nat.le_refl _) _
  by_cases h1 : op = 0
  · subst h1
    by_cases h2 : num = 0
    · subst h2
      by_cases h3 : n = 0
      · subst h3
        go_enter Tryd.func27, Tryd.ntmps27
        go_wp2_with fail
        rw [← HPP.out]
        exact ⟨rfl, HB0.out⟩
      · have h4 : ¬ ((n : Int) = 0) := by omega
        have HN := Lib.hid h3
        clear h3
        go_enter Tryd.func27, Tryd.ntmps27
        go_wp2_with fail
        rw [← HPP.out]
        exact ⟨congrArg (fun z => Ending.returned (.bool z)) ((beq_eq_false_iff_ne.2 (by have := HN.out; omega)).trans (by show false = (n == 0); exact (beq_eq_false_iff_ne.2 HN.out).symm)), HB0.out⟩
    · have HN := Lib.hid h2
      go_enter Tryd.func27, Tryd.ntmps27
      go_wp2_with fail
      rw [← HPP.out]
      exact ⟨by simp [zeroB, HN.out], HB0.out⟩
  · have HN := Lib.hid h1
    go_enter Tryd.func27, Tryd.ntmps27
    go_wp2_with fail
    rw [← HPP.out]
    exact ⟨by simp [zeroB, HN.out], HB0.out⟩

def OkW (k : Nat) (t : Wt) : Prop := t = .mk 0 0 [] ∨ FitF k t
def typedB (k : Nat) (t : Wt) (dk : Nat) : Bool := t.op == 0 || bit (KnF k t) dk
theorem FitF.op {k : Nat} {t : Wt} (h : FitF k t) : ¬ t.op = 0 := by
  cases k with
  | zero => exact h.elim
  | succ k =>
    obtain ⟨op, num, l⟩ := t
    show ¬ op = 0
    rcases h with ⟨h1, h2, h3⟩ | ⟨h1, h2, h3, h4⟩ | ⟨h1, h2, h3, h4⟩ | ⟨h1, h2, h3, h4⟩ | ⟨h1, h2, h3, h4⟩ <;> omega
theorem WtIs.op {w : World} {k : Nat} {op : Int} {v : Value} {u : Value} {t : Wt} (h : WtIs w k [.int .i64 op, v, u] t) : t.op = op := by
  cases k with
  | zero => exact h.elim
  | succ k =>
    obtain ⟨op', num, l⟩ := t
    obtain ⟨p', cap', e1, k1, k2, _⟩ := h
    injection e1 with e2 e1
    injection e2 with _ e2
    exact e2.symm
theorem WtIs.zero {w : World} {k : Nat} {op num : Int} {p : Option Addr} {n c : Nat} {t : Wt} (h : WtIs w k [.int .i64 op, .int .i64 num, .slice p n c] t) (ht : t = .mk 0 0 []) : op = 0 ∧ num = 0 ∧ n = 0 := by
  cases k with
  | zero => exact h.elim
  | succ k =>
    subst ht
    obtain ⟨p', cap', e1, k1, k2, _⟩ := h
    injection e1 with e2 e1
    injection e1 with e3 e1
    injection e1 with e4
    injection e2 with _ e2
    injection e3 with _ e3
    injection e4 with e4 e5 e6
    exact ⟨e2, e3, e5⟩

theorem refTyped_any (k : Nat) (t : Wt) (w : World) (op num : Int) (p : Option Addr) (n cap : Nat) (hW : WtIs w k [.int .i64 op, .int .i64 num, .slice p n cap] t) (hF : OkW k t) (fi : ByteArray) (hd : Int) (el : Bool)
    (dk : Nat) (hdk : dk < 14) (di : Int) (db : Int) (ds : ByteArray) (q : Option Addr) (m c : Nat) :
    Calls Tryd.prog 15 #[.agg #[.string fi, .int .i64 op, .int .i64 num, .slice p n cap, .int .i64 hd, .bool el], .agg #[.int .i64 (dk : Nat), .int .i64 di, .int .u64 db, .string ds, .slice q m c]] w (HoldPost w (typedB k t dk)) := by
  obtain ⟨PP, hPP⟩ : ∃ PP, HoldPost w (typedB k t dk) = PP := ⟨_, rfl⟩
  rw [hPP]
  have HPP := Lib.hid hPP
  clear hPP
  have CZ := Lib.hid (fun W => zero_any W op num p n cap)
  have CM : Hid (FitF k t → ∀ W, Below w.heap.size w W → Calls Tryd.prog 28 #[.agg #[.int .i64 op, .int .i64 num, .slice p n cap], .agg #[.int .i64 (dk : Nat), .int .i64 di, .int .u64 db, .string ds, .slice q m c]] W (HoldPost W (bit (KnF k t) dk))) :=
    fun hF W hb => refMatch2_any k t W op num p n cap (hW.below hb) hF dk hdk di db ds q m c
  have HW := Lib.hid hW
  clear hW
  rcases hF with hF | hF
  · obtain ⟨rfl, rfl, rfl⟩ := HW.out.zero hF
    subst hF
    have HB : Hid (Below w.heap.size w ((w.alloc (.cells #[.string fi, .int .i64 0, .int .i64 0, .slice p 0 cap, .int .i64 hd, .bool el] 42)).alloc (.cells #[.int .i64 (dk : Nat), .int .i64 di, .int .u64 db, .string ds, .slice q m c] 26))) := ((Below.refl _ _).alloc (Nat.le_refl _) _).alloc (by simp) _
    go_enter Tryd.func15, Tryd.ntmps15
    go_wp2_with fail
    refine (CZ.out _).mono ?_
    rintro r' W ⟨rfl, hb2⟩
    have HB2 := Lib.hid (HB.out.trans (hb2.mono HB.out.size))
    clear hb2
    have hz : zeroB 0 0 0 = true := rfl
    rw [hz]
    go_wp2_with fail
    rw [← HPP.out]
    exact ⟨rfl, HB2.out⟩
  · have hop := hF.op
    have HF := Lib.hid hF
    have hz : zeroB op num n = false := by unfold zeroB; rw [HW.out.op] at hop; simp [hop]
    have htb : typedB k t dk = bit (KnF k t) dk := by unfold typedB; simp [hop]
    rw [htb] at HPP
    clear hF hop htb
    have HB : Hid (Below w.heap.size w ((w.alloc (.cells #[.string fi, .int .i64 op, .int .i64 num, .slice p n cap, .int .i64 hd, .bool el] 42)).alloc (.cells #[.int .i64 (dk : Nat), .int .i64 di, .int .u64 db, .string ds, .slice q m c] 26))) := ((Below.refl _ _).alloc (Nat.le_refl _) _).alloc (by simp) _
    go_enter Tryd.func15, Tryd.ntmps15
    go_wp2_with fail
    refine (CZ.out _).mono ?_
    rintro r' W ⟨rfl, hb2⟩
    have HB2 := Lib.hid (HB.out.trans (hb2.mono HB.out.size))
    have HR := Lib.hid hb2
    clear hb2
    rw [hz]
    clear hz
    have c0 : W.cell? ⟨w.heap.size, 1, none⟩ = some (.int .i64 op) ∧ W.cell? ⟨w.heap.size, 2, none⟩ = some (.int .i64 num) ∧ W.cell? ⟨w.heap.size, 3, none⟩ = some (.slice p n cap) := ⟨by rw [HR.out.cell (by simp; omega)]; go_simp, by rw [HR.out.cell (by simp; omega)]; go_simp, by rw [HR.out.cell (by simp; omega)]; go_simp⟩
    have d0 : W.cell? ⟨w.heap.size + 1, 0, none⟩ = some (.int .i64 (dk : Nat)) ∧ W.cell? ⟨w.heap.size + 1, 1, none⟩ = some (.int .i64 di) ∧ W.cell? ⟨w.heap.size + 1, 2, none⟩ = some (.int .u64 db) ∧ W.cell? ⟨w.heap.size + 1, 3, none⟩ = some (.string ds) ∧ W.cell? ⟨w.heap.size + 1, 4, none⟩ = some (.slice q m c) :=
      ⟨by rw [HR.out.cell (by simp)]; go_simp, by rw [HR.out.cell (by simp)]; go_simp, by rw [HR.out.cell (by simp)]; go_simp, by rw [HR.out.cell (by simp)]; go_simp, by rw [HR.out.cell (by simp)]; go_simp⟩
    obtain ⟨c1, c2, c3⟩ := c0
    obtain ⟨d0, d1, d2, d3, d4⟩ := d0
    go_wp2_with fail
    refine (CM.out HF.out _ HB2.out).mono ?_
    rintro r' W3 ⟨rfl, hb3⟩
    have HB3 := Lib.hid (HB2.out.trans (hb3.mono HB2.out.size))
    clear hb3
    go_wp2_with fail
    rw [← HPP.out]
    exact ⟨rfl, HB3.out⟩
end Go.Proofs.YtpgdiekpeceicaaDoor
