/- WIRE: a reading of the reference's, as a step. WIRE: the reference's message. WIRE: the reference's Decode. -/
import Derived.Test.YtmncpbfghabamaaDoorWireMsgD
import Derived.Test.YtmncpbfghabamaaDoorWireQB
import Derived.Test.YtmncpbfghabamaaDoorWireFit
import Derived.Test.YtmncpbfghabamaaDoorWireWM
import Derived.BigQuiet
namespace Go.Proofs.YtmncpbfghabamaaDoor
open Go Go.RowKit
attribute [local go_sem ↓] Go.wp_at_zero Go.wp_at_succ

theorem QAfter.step {α : Type} {l : List UInt8} {s s' : Qs} {q : Rd α} {d x : α} (h : QAfter l s q d x s') : Step q (s.ok = true) s.pos x (s'.ok = true) s'.pos := by
  obtain ⟨-, -, h⟩ := h
  rcases h with ⟨h1, -, h2, h3⟩ | ⟨h1, h2⟩
  · have e : s'.ok = s.ok := by unfold Qs.ok; rw [h2, h3]
    exact .inr (.inr ⟨by rw [h1]; decide, by rw [e, h1]; decide⟩)
  · cases q with
    | done y n => obtain ⟨rfl, h3, h4⟩ := h2; exact .inl ⟨h1, h4, n, rfl, h3⟩
    | short => exact .inr (.inl ⟨h1, by rw [Qs.not_ok (.inl h2.2.1)]; decide, fun _ _ h => by cases h⟩)
    | bad => exact .inr (.inl ⟨h1, by rw [Qs.not_ok (.inr h2.2)]; decide, fun _ _ h => by cases h⟩)

theorem Bs.butQ' {w W : World} {v : Value} {l : List UInt8} (h : Bs w v l) (hb : Below w.heap.size w W) : Bs W v l := h.below hb
/-- a value's reading by the reference, whether its reader goes on or not -/
def QDAll (l : List UInt8) (Br : Nat) (v : Value) (s : Qs) (W : World) (r : Ending) (W' : World) : Prop :=
  ∃ (kd di db : Int) (ds : ByteArray) (q : Option Addr) (n c : Nat) (s' : Qs) (t : Dv × Nat), r = .returned (.agg #[.int .i64 kd, .int .i64 di, .int .u64 db, .string ds, .slice q n c]) ∧ QB W' Br v s' ∧ But Br W W' ∧ Step (valD 16 1 4095 (l.drop s.pos)) (s.ok = true) s.pos t (s'.ok = true) s'.pos ∧ (s'.ok = true → DvIn (fun b => W.heap.size ≤ b ∧ b < W'.heap.size) W' 16 [.int .i64 kd, .int .i64 di, .int .u64 db, .string ds, .slice q n c] t.1)
theorem qval_all (l : List UInt8) (Br : Nat) (v : Value) (hl : l.length ≤ 100000000) (s : Qs) (W : World) (hr : QB W Br v s) (hv : Bs W v l) (hp : s.pos ≤ l.length) (hpt : s.parts = 1) :
    Calls Tryd.prog 37 #[.pointer (some ⟨Br, 0, none⟩), .int .i64 ((1 : Nat) : Int)] W (QDAll l Br v s W) := by
  cases he : s.ok with
  | true =>
    refine (qvc_all l Br v hl 16 1 4095 s W hr hv he hp (by rw [hpt]; rfl) (by omega) rfl (by omega)).mono ?_
    rintro e W' ⟨kd, di, db, ds, q, n, c, s', rfl, h1, h2, h3, h4⟩
    unfold QAt at h4
    cases hq : valD 16 1 4095 (l.drop s.pos) with
    | done t u =>
      rw [hq] at h4
      exact ⟨kd, di, db, ds, q, n, c, s', t, rfl, h1, h2, by rw [hq]; exact .inl ⟨he, h4.2.1, u, rfl, h4.1⟩, fun _ => h4.2.2.2⟩
    | short =>
      rw [hq] at h4
      have h5 : ¬ s'.ok = true := by rw [Qs.not_ok (.inl h4.1)]; decide
      exact ⟨kd, di, db, ds, q, n, c, s', (.mk 0 0 0 ⟨#[]⟩ [], 0), rfl, h1, h2, by rw [hq]; exact .inr (.inl ⟨he, h5, fun _ _ h => by cases h⟩), fun h => absurd h h5⟩
    | bad =>
      rw [hq] at h4
      have h5 : ¬ s'.ok = true := by rw [Qs.not_ok (.inr h4)]; decide
      exact ⟨kd, di, db, ds, q, n, c, s', (.mk 0 0 0 ⟨#[]⟩ [], 0), rfl, h1, h2, by rw [hq]; exact .inr (.inl ⟨he, h5, fun _ _ h => by cases h⟩), fun h => absurd h h5⟩
  | false =>
    refine (qvalue_stop l Br 1 v s W hr hv hl hp he).mono ?_
    rintro e W' ⟨rfl, h1, h2⟩
    have h5 : ¬ s.ok = true := by rw [he]; decide
    exact ⟨0, 0, 0, ⟨#[]⟩, none, 0, 0, s, (.mk 0 0 0 ⟨#[]⟩ [], 0), rfl, h1, h2, .inr (.inr ⟨h5, h5⟩), fun h => absurd h h5⟩
/-- before the message's box is there -/
structure QNm (w : World) (v : Value) (s : Qs) (wx : World) : Prop where
  rb : QB wx (w.heap.size + 1) v s
  res : wx.heap[w.heap.size]? = some (.cells #[.int .i64 0, .string ⟨#[]⟩, .int .i64 0, .int .i64 0, .int .u64 0, .string ⟨#[]⟩, .slice none 0 0, .int .i64 0, .int .i64 0, .string ⟨#[]⟩, .int .i64 0, .int .i64 0, .int .i64 0] 39 (0, 0))
  below : Below w.heap.size w wx
theorem QNm.but {w wx w2 : World} {v : Value} {s s' : Qs} (h : QNm w v s wx) (hr : QB w2 (w.heap.size + 1) v s') (hb : But (w.heap.size + 1) wx w2) : QNm w v s' w2 :=
  ⟨hr, hb.boxed h.res (by omega), h.below.trans ⟨hb.os, hb.tape, hb.output, hb.size, fun i hi => hb.block i (Nat.lt_of_lt_of_le hi h.below.size) (by omega)⟩⟩
structure QSm (w : World) (M : Nat) (v : Value) (s : Qs) (cs : Array Value) (wx : World) : Prop where
  rb : QB wx (w.heap.size + 1) v s
  res : wx.heap[w.heap.size]? = some (.cells #[.int .i64 0, .string ⟨#[]⟩, .int .i64 0, .int .i64 0, .int .u64 0, .string ⟨#[]⟩, .slice none 0 0, .int .i64 0, .int .i64 0, .string ⟨#[]⟩, .int .i64 0, .int .i64 0, .int .i64 0] 39 (0, 0))
  msg : wx.heap[M]? = some (.cells cs 39 (0, 0))
  below : Below w.heap.size w wx
  far : w.heap.size + 1 < M
theorem QSm.but {w wx w2 : World} {M : Nat} {v : Value} {s s' : Qs} {cs : Array Value} (h : QSm w M v s cs wx) (hr : QB w2 (w.heap.size + 1) v s') (hb : But (w.heap.size + 1) wx w2) : QSm w M v s' cs w2 :=
  ⟨hr, hb.boxed h.res (by omega), hb.boxed h.msg (by have := h.far; omega), h.below.trans ⟨hb.os, hb.tape, hb.output, hb.size, fun i hi => hb.block i (Nat.lt_of_lt_of_le hi h.below.size) (by omega)⟩, h.far⟩
theorem QSm.set {w wx : World} {M : Nat} {v : Value} {s : Qs} {cs : Array Value} (h : QSm w M v s cs wx) (j : Nat) (u : Value) : QSm w M v s (cs.set! j u) (wx.setCell ⟨M, j, none⟩ u) := by
  have hf := h.far
  exact ⟨(Below.heap_setCell _ _ _ _ (by show w.heap.size + 1 ≠ M; omega)).trans h.rb, (Below.heap_setCell _ _ _ _ (by show w.heap.size ≠ M; omega)).trans h.res, heap_setCell_same wx _ j _ _ _ h.msg, h.below.setCell (by show w.heap.size ≤ M; omega) _, h.far⟩
theorem QSm.grow {w wx w2 : World} {M : Nat} {v : Value} {s : Qs} {cs : Array Value} (h : QSm w M v s cs wx) (hb : Below wx.heap.size wx w2) : QSm w M v s cs w2 :=
  ⟨(hb.block _ (Array.getElem?_eq_some_iff.1 h.rb).1).trans h.rb, (hb.block _ (Array.getElem?_eq_some_iff.1 h.res).1).trans h.res, (hb.block _ (Array.getElem?_eq_some_iff.1 h.msg).1).trans h.msg, h.below.trans (hb.mono h.below.size), h.far⟩
theorem res_qmsg {W : World} {B : Nat} {cs : Array Value} {ok : Bool} (h : W.heap[B]? = some (.cells cs 39 (0, 0))) (hs : cs.size = 13) (tmps : Array Value) (h2 : tmps.getD 2 undef = .pointer (some ⟨B, 0, none⟩)) (h3 : tmps.getD 3 undef = .bool ok) :
    (results Tryd.f50 tmps).run Tryd.prog W = .ok (.tuple #[.agg cs, .bool ok]) W := by
  have h2' : tmps[2]?.getD undef = .pointer (some ⟨B, 0, none⟩) := by simpa using h2
  have h3' : tmps[3]?.getD undef = .bool ok := by simpa using h3
  have hl := run_loadVar_row (P := Tryd.prog) W B 39 39 cs (0, 0) _ h Tryd.underlying39 rfl (by rw [hs]; kernel_rfl)
  simp [results, Tryd.results50, h2', h3', asAddr, hl]
set_option maxRecDepth 100000 in
set_option maxHeartbeats 8000000 in
theorem refMessage_any (l : List UInt8) (v : Value) (w : World) (hv : Bs w v l) (hl : l.length ≤ 100000000) (hT : Tabs w) :
    Calls Tryd.prog 50 #[v] w (MOut l w) := by
  obtain ⟨PP, hPP⟩ : ∃ PP, MOut l w = PP := ⟨_, rfl⟩
  rw [hPP]
  have HPP := Lib.hid hPP
  have HV := Lib.hid hv
  have HTB := Lib.hid hT
  obtain ⟨p, cap, rfl, -⟩ := id hv
  have A0 : Hid (QNm w (.slice p l.length cap) ⟨0, 1, false, false⟩ ((w.alloc (.cells #[.int .i64 0, .string ⟨#[]⟩, .int .i64 0, .int .i64 0, .int .u64 0, .string ⟨#[]⟩, .slice none 0 0, .int .i64 0, .int .i64 0, .string ⟨#[]⟩, .int .i64 0, .int .i64 0, .int .i64 0] 39)).alloc (.cells #[.slice p l.length cap, .int .i64 0, .int .i64 1, .bool false, .bool false] 80))) := by
    refine ⟨?_, ?_, ((Below.refl _ _).alloc (Nat.le_refl _) _).alloc (by simp) _⟩
    · have h := heap_alloc_new (w.alloc (.cells #[.int .i64 0, .string ⟨#[]⟩, .int .i64 0, .int .i64 0, .int .u64 0, .string ⟨#[]⟩, .slice none 0 0, .int .i64 0, .int .i64 0, .string ⟨#[]⟩, .int .i64 0, .int .i64 0, .int .i64 0] 39)) (.cells #[.slice p l.length cap, .int .i64 0, .int .i64 1, .bool false, .bool false] 80)
      rw [World.size_alloc] at h
      exact h
    · rw [Below.heap_alloc _ _ _ (by simp)]
      exact heap_alloc_new w _
  have N0 : Hid (NumS l ((⟨0, 1, false, false⟩ : Qs).ok = true) 0 []) := NumS.start l _ rfl
  have P0 : Hid ((⟨0, 1, false, false⟩ : Qs).pos ≤ l.length ∧ (⟨0, 1, false, false⟩ : Qs).parts = 1) := ⟨Nat.zero_le _, rfl⟩
  clear hPP hv hT
  go_enter Tryd.func50, Tryd.ntmps50
  go_wp2_with fail
  refine (qsigned_all l (w.heap.size + 1) (.slice p l.length cap) ⟨0, 1, false, false⟩ _ A0.out.rb (HV.out.butQ' A0.out.below) hl (Nat.zero_le _)).mono ?_
  rintro e W1 ⟨x0, s1, rfl, g1, g2, g3⟩
  have A1 := Lib.hid (A0.out.but g1 g2)
  have N1 := Lib.hid (N0.out.step (by simp) g3.step)
  have P1 : Hid (s1.pos ≤ l.length ∧ s1.parts = 1) := ⟨g3.2.1, g3.1.trans rfl⟩
  clear g1 g2 g3
  go_wp2_with fail
  refine (qsigned_all l (w.heap.size + 1) (.slice p l.length cap) s1 W1 A1.out.rb (HV.out.butQ' A1.out.below) hl P1.out.1).mono ?_
  rintro e W2 ⟨x1, s2, rfl, g1, g2, g3⟩
  have A2 := Lib.hid (A1.out.but g1 g2)
  have N2 := Lib.hid (N1.out.step (by simp) g3.step)
  have P2 : Hid (s2.pos ≤ l.length ∧ s2.parts = 1) := ⟨g3.2.1, g3.1.trans P1.out.2⟩
  clear g1 g2 g3
  go_wp2_with fail
  refine (qsigned_all l (w.heap.size + 1) (.slice p l.length cap) s2 W2 A2.out.rb (HV.out.butQ' A2.out.below) hl P2.out.1).mono ?_
  rintro e W3 ⟨x2, s3, rfl, g1, g2, g3⟩
  have A3 := Lib.hid (A2.out.but g1 g2)
  have N3 := Lib.hid (N2.out.step (by simp) g3.step)
  have P3 : Hid (s3.pos ≤ l.length ∧ s3.parts = 1) := ⟨g3.2.1, g3.1.trans P2.out.2⟩
  clear g1 g2 g3
  go_wp2_with fail
  refine (qsigned_all l (w.heap.size + 1) (.slice p l.length cap) s3 W3 A3.out.rb (HV.out.butQ' A3.out.below) hl P3.out.1).mono ?_
  rintro e W4 ⟨x3, s4, rfl, g1, g2, g3⟩
  have A4 := Lib.hid (A3.out.but g1 g2)
  have N4 := Lib.hid (N3.out.step (by simp) g3.step)
  have P4 : Hid (s4.pos ≤ l.length ∧ s4.parts = 1) := ⟨g3.2.1, g3.1.trans P3.out.2⟩
  clear g1 g2 g3
  have M4 : Hid (QSm w W4.heap.size (.slice p l.length cap) s4 #[.int .i64 x0, .string ⟨#[]⟩, .int .i64 0, .int .i64 0, .int .u64 0, .string ⟨#[]⟩, .slice none 0 0, .int .i64 x1, .int .i64 x2, .string ⟨#[]⟩, .int .i64 x3, .int .i64 0, .int .i64 0] (W4.alloc (.cells #[.int .i64 x0, .string ⟨#[]⟩, .int .i64 0, .int .i64 0, .int .u64 0, .string ⟨#[]⟩, .slice none 0 0, .int .i64 x1, .int .i64 x2, .string ⟨#[]⟩, .int .i64 x3, .int .i64 0, .int .i64 0] 39))) := ⟨A4.out.rb.alloc _, (Below.heap_alloc _ _ _ (Array.getElem?_eq_some_iff.1 A4.out.res).1).trans A4.out.res, heap_alloc_new W4 _, A4.out.below.alloc A4.out.below.size _, A4.out.rb.cells.2.2.2.2.2⟩
  go_wp2_with fail
  refine (qsigned_all l (w.heap.size + 1) (.slice p l.length cap) s4 _ M4.out.rb (HV.out.butQ' M4.out.below) hl P4.out.1).mono ?_
  rintro e W5 ⟨x4, s5, rfl, g1, g2, g3⟩
  have M5a := Lib.hid (M4.out.but g1 g2)
  have N5 := Lib.hid (N4.out.step (by simp) g3.step)
  have P5 : Hid (s5.pos ≤ l.length ∧ s5.parts = 1) := ⟨g3.2.1, g3.1.trans P4.out.2⟩
  clear g1 g2 g3
  obtain ⟨E5, hE5⟩ : ∃ E, W5.setCell ⟨W4.heap.size, 11, none⟩ (.int .i64 x4) = E := ⟨_, rfl⟩
  have M5 : Hid (QSm w W4.heap.size (.slice p l.length cap) s5 #[.int .i64 x0, .string ⟨#[]⟩, .int .i64 0, .int .i64 0, .int .u64 0, .string ⟨#[]⟩, .slice none 0 0, .int .i64 x1, .int .i64 x2, .string ⟨#[]⟩, .int .i64 x3, .int .i64 x4, .int .i64 0] E5) := by show QSm _ _ _ _ _ _; rw [← hE5]; exact M5a.out.set 11 (.int .i64 x4)
  have HE5 := Lib.hid hE5
  clear hE5
  obtain ⟨c0, c1, c2, c3, c4, c5, c6, c7, c8, c9, c10, c11, c12, hcl⟩ := cells13 M5a.out.msg
  have hff := frozen_of_row _ _ 11 _ _ M5a.out.msg
  go_upto_region 4 with fail
  rw [HE5.out]
  clear hff c0 c1 c2 c3 c4 c5 c6 c7 c8 c9 c10 c11 c12 hcl
  go_wp2_with fail
  refine (qsigned_all l (w.heap.size + 1) (.slice p l.length cap) s5 E5 M5.out.rb (HV.out.butQ' M5.out.below) hl P5.out.1).mono ?_
  rintro e W6 ⟨x5, s6, rfl, g1, g2, g3⟩
  have M6a := Lib.hid (M5.out.but g1 g2)
  have N6 := Lib.hid (N5.out.step (by simp) g3.step)
  have P6 : Hid (s6.pos ≤ l.length ∧ s6.parts = 1) := ⟨g3.2.1, g3.1.trans P5.out.2⟩
  clear g1 g2 g3
  obtain ⟨E6, hE6⟩ : ∃ E, W6.setCell ⟨W4.heap.size, 12, none⟩ (.int .i64 x5) = E := ⟨_, rfl⟩
  have M6 : Hid (QSm w W4.heap.size (.slice p l.length cap) s6 #[.int .i64 x0, .string ⟨#[]⟩, .int .i64 0, .int .i64 0, .int .u64 0, .string ⟨#[]⟩, .slice none 0 0, .int .i64 x1, .int .i64 x2, .string ⟨#[]⟩, .int .i64 x3, .int .i64 x4, .int .i64 x5] E6) := by show QSm _ _ _ _ _ _; rw [← hE6]; exact M6a.out.set 12 (.int .i64 x5)
  have HE6 := Lib.hid hE6
  clear hE6
  obtain ⟨c0, c1, c2, c3, c4, c5, c6, c7, c8, c9, c10, c11, c12, hcl⟩ := cells13 M6a.out.msg
  have hff := frozen_of_row _ _ 12 _ _ M6a.out.msg
  go_upto_region 5 with fail
  rw [HE6.out]
  clear hff c0 c1 c2 c3 c4 c5 c6 c7 c8 c9 c10 c11 c12 hcl
  go_wp2_with fail
  refine (qtext_all l (w.heap.size + 1) (.slice p l.length cap) s6 65535 E6 M6.out.rb (HV.out.butQ' M6.out.below) hl P6.out.1 (by omega)).mono ?_
  rintro e W7 ⟨tp, s7, rfl, g1, g2, g3⟩
  have M7a := Lib.hid (M6.out.but g1 g2)
  have T1 := Lib.hid ((N6.out.six rfl).step g3.step)
  have P7 : Hid (s7.pos ≤ l.length ∧ s7.parts = 1) := ⟨g3.2.1, g3.1.trans P6.out.2⟩
  clear g1 g2 g3
  obtain ⟨E7, hE7⟩ : ∃ E, W7.setCell ⟨W4.heap.size, 1, none⟩ (.string tp) = E := ⟨_, rfl⟩
  have M7 : Hid (QSm w W4.heap.size (.slice p l.length cap) s7 #[.int .i64 x0, .string tp, .int .i64 0, .int .i64 0, .int .u64 0, .string ⟨#[]⟩, .slice none 0 0, .int .i64 x1, .int .i64 x2, .string ⟨#[]⟩, .int .i64 x3, .int .i64 x4, .int .i64 x5] E7) := by show QSm _ _ _ _ _ _; rw [← hE7]; exact M7a.out.set 1 (.string tp)
  have HE7 := Lib.hid hE7
  clear hE7
  obtain ⟨c0, c1, c2, c3, c4, c5, c6, c7, c8, c9, c10, c11, c12, hcl⟩ := cells13 M7a.out.msg
  have hff := frozen_of_row _ _ 1 _ _ M7a.out.msg
  go_upto_region 6 with fail
  rw [HE7.out]
  clear hff c0 c1 c2 c3 c4 c5 c6 c7 c8 c9 c10 c11 c12 hcl
  go_wp2_with fail
  refine (qtext_all l (w.heap.size + 1) (.slice p l.length cap) s7 65535 E7 M7.out.rb (HV.out.butQ' M7.out.below) hl P7.out.1 (by omega)).mono ?_
  rintro e W8 ⟨rp, s8, rfl, g1, g2, g3⟩
  have M8a := Lib.hid (M7.out.but g1 g2)
  have T2 := Lib.hid (T1.out.step g3.step)
  have P8 : Hid (s8.pos ≤ l.length ∧ s8.parts = 1) := ⟨g3.2.1, g3.1.trans P7.out.2⟩
  clear g1 g2 g3
  obtain ⟨E8, hE8⟩ : ∃ E, W8.setCell ⟨W4.heap.size, 9, none⟩ (.string rp) = E := ⟨_, rfl⟩
  have M8 : Hid (QSm w W4.heap.size (.slice p l.length cap) s8 #[.int .i64 x0, .string tp, .int .i64 0, .int .i64 0, .int .u64 0, .string ⟨#[]⟩, .slice none 0 0, .int .i64 x1, .int .i64 x2, .string rp, .int .i64 x3, .int .i64 x4, .int .i64 x5] E8) := by show QSm _ _ _ _ _ _; rw [← hE8]; exact M8a.out.set 9 (.string rp)
  have HE8 := Lib.hid hE8
  clear hE8
  obtain ⟨c0, c1, c2, c3, c4, c5, c6, c7, c8, c9, c10, c11, c12, hcl⟩ := cells13 M8a.out.msg
  have hff := frozen_of_row _ _ 9 _ _ M8a.out.msg
  go_upto_region 7 with fail
  rw [HE8.out]
  clear hff c0 c1 c2 c3 c4 c5 c6 c7 c8 c9 c10 c11 c12 hcl
  go_wp2_with fail
  refine (qval_all l (w.heap.size + 1) (.slice p l.length cap) hl s8 E8 M8.out.rb (HV.out.butQ' M8.out.below) P8.out.1 P8.out.2).mono ?_
  rintro e W9 ⟨kd, di, db, ds, q, n, c, s9, t, rfl, g1, g2, g3, g4⟩
  have M9a := Lib.hid (M8.out.but g1 g2)
  have T5 := Lib.hid (T2.out.step g3)
  have HM8 : Hid (W4.heap.size < E8.heap.size) := (Array.getElem?_eq_some_iff.1 M8.out.msg).1
  have G4 : Hid (s9.ok = true → DvIn (fun b => E8.heap.size ≤ b ∧ b < W9.heap.size) W9 16 [.int .i64 kd, .int .i64 di, .int .u64 db, .string ds, .slice q n c] t.1) := g4
  clear g1 g2 g3 g4
  obtain ⟨E9, hE9⟩ : ∃ E, (((((W9.setCell ⟨W4.heap.size, 2, none⟩ (.int .i64 kd)).setCell ⟨W4.heap.size, 3, none⟩ (.int .i64 di)).setCell ⟨W4.heap.size, 4, none⟩ (.int .u64 db)).setCell ⟨W4.heap.size, 5, none⟩ (.string ds)).setCell ⟨W4.heap.size, 6, none⟩ (.slice q n c)) = E := ⟨_, rfl⟩
  have M9 : Hid (QSm w W4.heap.size (.slice p l.length cap) s9 #[.int .i64 x0, .string tp, .int .i64 kd, .int .i64 di, .int .u64 db, .string ds, .slice q n c, .int .i64 x1, .int .i64 x2, .string rp, .int .i64 x3, .int .i64 x4, .int .i64 x5] E9) := by show QSm _ _ _ _ _ _; rw [← hE9]; exact (((((M9a.out.set 2 (.int .i64 kd)).set 3 (.int .i64 di)).set 4 (.int .u64 db)).set 5 (.string ds)).set 6 (.slice q n c))
  have G6 : Hid (s9.ok = true → DvIn (fun b => E8.heap.size ≤ b ∧ b < E9.heap.size) E9 16 [.int .i64 kd, .int .i64 di, .int .u64 db, .string ds, .slice q n c] t.1) := fun h => (G4.out h).kept fun b hb _ => by
    have hne : b ≠ W4.heap.size := by have := HM8.out; omega
    rw [← hE9]
    refine ⟨?_, hb.1, by simp [World.setCell]; exact hb.2⟩
    rw [Below.heap_setCell _ _ _ _ hne, Below.heap_setCell _ _ _ _ hne, Below.heap_setCell _ _ _ _ hne, Below.heap_setCell _ _ _ _ hne, Below.heap_setCell _ _ _ _ hne]
  have HE9 := Lib.hid hE9
  clear hE9
  obtain ⟨c0, c1, c2, c3, c4, c5, c6, c7, c8, c9, c10, c11, c12, hcl⟩ := cells13 M9a.out.msg
  have ff2 := frozen_of_row _ _ 2 _ _ M9a.out.msg
  have ff3 := frozen_of_row _ _ 3 _ _ M9a.out.msg
  have ff4 := frozen_of_row _ _ 4 _ _ M9a.out.msg
  have ff5 := frozen_of_row _ _ 5 _ _ M9a.out.msg
  have ff6 := frozen_of_row _ _ 6 _ _ M9a.out.msg
  go_upto_region 8 with fail
  rw [HE9.out]
  clear ff2 ff3 ff4 ff5 ff6 c0 c1 c2 c3 c4 c5 c6 c7 c8 c9 c10 c11 c12 hcl
  have CO : Hid (Calls Tryd.prog 48 #[.pointer (some ⟨w.heap.size + 1, 0, none⟩)] E9 fun e w' => e = .returned (.bool s9.ok) ∧ w' = E9) := (qok_any (w.heap.size + 1) _ s9 E9 M9.out.rb).mono fun _ _ ⟨h1, h2⟩ => ⟨h1, h2.symm⟩
  obtain ⟨r0, r1, r2, r3, r4, hlr⟩ := M9.out.rb.cells
  cases hok : s9.ok with
  | false =>
    rw [hok] at CO
    have HOK : Hid (¬ s9.ok = true) := by show ¬ _; rw [hok]; decide
    clear hok
    go_wp2_with fail
    refine CO.out.mono ?_
    rintro e w' ⟨rfl, rfl⟩
    obtain ⟨z0, z1, z2, z3, z4, z5, z6, z7, z8, z9, z10, z11, z12, hlz⟩ := cells13 M9.out.res
    have f0 := frozen_of_row _ _ 0 _ _ M9.out.res
    have f1 := frozen_of_row _ _ 1 _ _ M9.out.res
    have f2 := frozen_of_row _ _ 2 _ _ M9.out.res
    have f3 := frozen_of_row _ _ 3 _ _ M9.out.res
    have f4 := frozen_of_row _ _ 4 _ _ M9.out.res
    have f5 := frozen_of_row _ _ 5 _ _ M9.out.res
    have f6 := frozen_of_row _ _ 6 _ _ M9.out.res
    have f7 := frozen_of_row _ _ 7 _ _ M9.out.res
    have f8 := frozen_of_row _ _ 8 _ _ M9.out.res
    have f9 := frozen_of_row _ _ 9 _ _ M9.out.res
    have f10 := frozen_of_row _ _ 10 _ _ M9.out.res
    have f11 := frozen_of_row _ _ 11 _ _ M9.out.res
    have f12 := frozen_of_row _ _ 12 _ _ M9.out.res
    go_wp2_with fail
    refine bodyPost_ret (res_qmsg (B := w.heap.size) (ok := false) (set13 ?hres1 _ _ _ _ _ _ _ _ _ _ _ _ _) rfl _ rfl rfl) rfl ?_
    case hres1 => exact M9.out.res
    rw [← HPP.out]
    refine ⟨0, 0, 0, 0, 0, 0, ⟨#[]⟩, ⟨#[]⟩, 0, 0, 0, ⟨#[]⟩, none, 0, 0, false, rfl, bel13 ?hbel1 (Nat.le_refl _) _ _ _ _ _ _ _ _ _ _ _ _ _, fun h => (by cases h), fun _ => T5.out.not_ok fun h => HOK.out h.1⟩
    case hbel1 => exact M9.out.below
  | true =>
    rw [hok] at CO
    have HOK : Hid (s9.ok = true) := hok
    clear hok
    by_cases hpos : s9.pos = l.length
    · have HPO : Hid (s9.pos = l.length) := hpos
      rw [hpos] at r1
      clear hpos
      obtain ⟨-, y1, y2, y3, y4, y5, y6⟩ : s9.ok = true ∧ msgD l = .done ([x0, x1, x2, x3, x4, x5], tp, rp, t.1) s9.pos ∧ t.1.Right ∧ t.1.deep ≤ 16 ∧ t.1.size ≤ 4096 ∧ tp.size ≤ 65535 ∧ rp.size ≤ 65535 := by
        rcases T5.out with h | h
        · exact h
        · exact absurd HOK.out h.1
      have GD := G6.out HOK.out
      obtain ⟨ps, hps⟩ : ∃ ps, t.1 = .mk kd di db ds ps := GD.mk
      rw [hps] at y2 y3 y4 GD
      have HVB : Hid (VB (.mk kd di db ds ps)) := ⟨⟨y4, y3⟩, right_fair _ y2⟩
      have CF : Hid (Calls Tryd.prog 18 #[.agg #[.int .i64 x0, .string tp, .int .i64 kd, .int .i64 di, .int .u64 db, .string ds, .slice q n c, .int .i64 x1, .int .i64 x2, .string rp, .int .i64 x3, .int .i64 x4, .int .i64 x5]] E9 (FmPost (FtX (.mk kd di db ds ps) [x0, x1, x2, x3, x4, x5] tp rp) E9)) := fit26_any 16 E9 x0 x1 x2 x3 x4 x5 tp rp kd di db ds q n c ps GD.is (by omega) (by omega) (HTB.out.below M9.out.below)
      clear y1 y2 y3 y4 y5 y6 GD hps
      obtain ⟨c0, c1, c2, c3, c4, c5, c6, c7, c8, c9, c10, c11, c12, hcl⟩ := cells13 M9.out.msg
      go_wp2_with fail
      refine CO.out.mono ?_
      rintro e w' ⟨rfl, rfl⟩
      go_wp2_with fail
      refine CF.out.mono ?_
      rintro e W10 ⟨b, rfl, hiff, hb⟩
      have M10 := Lib.hid (M9.out.grow hb)
      have B10 := Lib.hid hb
      have HI := Lib.hid hiff
      clear hb hiff c0 c1 c2 c3 c4 c5 c6 c7 c8 c9 c10 c11 c12 hcl r0 r1 r2 r3 r4 hlr
      cases b with
      | false =>
        obtain ⟨z0, z1, z2, z3, z4, z5, z6, z7, z8, z9, z10, z11, z12, hlz⟩ := cells13 M10.out.res
        have f0 := frozen_of_row _ _ 0 _ _ M10.out.res
        have f1 := frozen_of_row _ _ 1 _ _ M10.out.res
        have f2 := frozen_of_row _ _ 2 _ _ M10.out.res
        have f3 := frozen_of_row _ _ 3 _ _ M10.out.res
        have f4 := frozen_of_row _ _ 4 _ _ M10.out.res
        have f5 := frozen_of_row _ _ 5 _ _ M10.out.res
        have f6 := frozen_of_row _ _ 6 _ _ M10.out.res
        have f7 := frozen_of_row _ _ 7 _ _ M10.out.res
        have f8 := frozen_of_row _ _ 8 _ _ M10.out.res
        have f9 := frozen_of_row _ _ 9 _ _ M10.out.res
        have f10 := frozen_of_row _ _ 10 _ _ M10.out.res
        have f11 := frozen_of_row _ _ 11 _ _ M10.out.res
        have f12 := frozen_of_row _ _ 12 _ _ M10.out.res
        go_wp2_with fail
        refine bodyPost_ret (res_qmsg (B := w.heap.size) (ok := false) (set13 ?hres2 _ _ _ _ _ _ _ _ _ _ _ _ _) rfl _ rfl rfl) rfl ?_
        case hres2 => exact M10.out.res
        rw [← HPP.out]
        refine ⟨0, 0, 0, 0, 0, 0, ⟨#[]⟩, ⟨#[]⟩, 0, 0, 0, ⟨#[]⟩, none, 0, 0, false, rfl, bel13 ?hbel2 (Nat.le_refl _) _ _ _ _ _ _ _ _ _ _ _ _ _, fun h => (by cases h), fun _ => T5.out.not_ok fun h => by have h9 := HI.out.2 ⟨HVB.out, h.2.2⟩; cases h9⟩
        case hbel2 => exact M10.out.below
      | true =>
        have HFB := Lib.hid (HI.out.1 rfl).2
        obtain ⟨c0, c1, c2, c3, c4, c5, c6, c7, c8, c9, c10, c11, c12, hcl⟩ := cells13 M10.out.msg
        have hn1 : ¬ W4.heap.size = w.heap.size := by have := M10.out.far; omega
        have hn2 : ¬ w.heap.size = W4.heap.size := by have := M10.out.far; omega
        obtain ⟨z0, z1, z2, z3, z4, z5, z6, z7, z8, z9, z10, z11, z12, hlz⟩ := cells13 M10.out.res
        have f0 := frozen_of_row _ _ 0 _ _ M10.out.res
        have f1 := frozen_of_row _ _ 1 _ _ M10.out.res
        have f2 := frozen_of_row _ _ 2 _ _ M10.out.res
        have f3 := frozen_of_row _ _ 3 _ _ M10.out.res
        have f4 := frozen_of_row _ _ 4 _ _ M10.out.res
        have f5 := frozen_of_row _ _ 5 _ _ M10.out.res
        have f6 := frozen_of_row _ _ 6 _ _ M10.out.res
        have f7 := frozen_of_row _ _ 7 _ _ M10.out.res
        have f8 := frozen_of_row _ _ 8 _ _ M10.out.res
        have f9 := frozen_of_row _ _ 9 _ _ M10.out.res
        have f10 := frozen_of_row _ _ 10 _ _ M10.out.res
        have f11 := frozen_of_row _ _ 11 _ _ M10.out.res
        have f12 := frozen_of_row _ _ 12 _ _ M10.out.res
        go_wp2_with fail
        refine bodyPost_ret (res_qmsg (B := w.heap.size) (ok := true) (set13 ?hres3 _ _ _ _ _ _ _ _ _ _ _ _ _) rfl _ rfl rfl) rfl ?_
        case hres3 => exact M10.out.res
        rw [← HPP.out]
        refine ⟨x0, x1, x2, x3, x4, x5, tp, rp, kd, di, db, ds, q, n, c, true, rfl, bel13 ?hbel3 (Nat.le_refl _) _ _ _ _ _ _ _ _ _ _ _ _ _, fun _ => ⟨t.1, T5.out.ok HOK.out HPO.out HFB.out, (G6.out HOK.out).kept fun b hb hl => ⟨(heap13_other (by have := hb.1; have := HM8.out; have := M10.out.far; omega) _ _ _ _ _ _ _ _ _ _ _ _ _).trans (B10.out.block b hl), by have := hb.1; have := HM8.out; have := M10.out.far; omega⟩⟩, fun h => (by cases h)⟩
        case hbel3 => exact M10.out.below
    · have hI : ((s9.pos : Int) == (l.length : Int)) = false := by simp; omega
      have hI2 : ((s9.pos : Int) != (l.length : Int)) = true := by simp [bne, hI]
      have HPO : Hid (¬ s9.pos = l.length) := hpos
      clear hpos
      go_wp2_with fail
      refine CO.out.mono ?_
      rintro e w' ⟨rfl, rfl⟩
      obtain ⟨z0, z1, z2, z3, z4, z5, z6, z7, z8, z9, z10, z11, z12, hlz⟩ := cells13 M9.out.res
      have f0 := frozen_of_row _ _ 0 _ _ M9.out.res
      have f1 := frozen_of_row _ _ 1 _ _ M9.out.res
      have f2 := frozen_of_row _ _ 2 _ _ M9.out.res
      have f3 := frozen_of_row _ _ 3 _ _ M9.out.res
      have f4 := frozen_of_row _ _ 4 _ _ M9.out.res
      have f5 := frozen_of_row _ _ 5 _ _ M9.out.res
      have f6 := frozen_of_row _ _ 6 _ _ M9.out.res
      have f7 := frozen_of_row _ _ 7 _ _ M9.out.res
      have f8 := frozen_of_row _ _ 8 _ _ M9.out.res
      have f9 := frozen_of_row _ _ 9 _ _ M9.out.res
      have f10 := frozen_of_row _ _ 10 _ _ M9.out.res
      have f11 := frozen_of_row _ _ 11 _ _ M9.out.res
      have f12 := frozen_of_row _ _ 12 _ _ M9.out.res
      go_wp2_with fail
      refine bodyPost_ret (res_qmsg (B := w.heap.size) (ok := false) (set13 ?hres4 _ _ _ _ _ _ _ _ _ _ _ _ _) rfl _ rfl rfl) rfl ?_
      case hres4 => exact M9.out.res
      rw [← HPP.out]
      refine ⟨0, 0, 0, 0, 0, 0, ⟨#[]⟩, ⟨#[]⟩, 0, 0, 0, ⟨#[]⟩, none, 0, 0, false, rfl, bel13 ?hbel4 (Nat.le_refl _) _ _ _ _ _ _ _ _ _ _ _ _ _, fun h => (by cases h), fun _ => T5.out.not_ok fun h => HPO.out h.2.1⟩
      case hbel4 => exact M9.out.below

/-- one byte of the head -/
def headStep (l : List UInt8) (C : Nat) (s : Qs) : Qs :=
  if (byteQ l s).1.toNat ≠ C ∧ (byteQ l s).2.ok = true then { (byteQ l s).2 with bad := true } else (byteQ l s).2
def hdB (i : Nat) : Nat := if i = 0 then 167 else 1
def hq (l : List UInt8) : Nat → Qs
  | 0 => ⟨0, 0, false, false⟩
  | i + 1 => headStep l (hdB i) (hq l i)
theorem byteQ_pos {l : List UInt8} {s : Qs} (h : s.pos ≤ l.length) : (byteQ l s).2.pos ≤ l.length := by
  unfold byteQ
  split
  · exact h
  · split
    · rename_i h2; exact h2
    · exact h
theorem hq_pos (l : List UInt8) : ∀ i, (hq l i).pos ≤ l.length
  | 0 => Nat.zero_le _
  | i + 1 => by
    show (headStep l (hdB i) (hq l i)).pos ≤ _
    unfold headStep
    split
    · exact byteQ_pos (hq_pos l i)
    · exact byteQ_pos (hq_pos l i)
theorem hq_one_nil {l : List UInt8} (h : l.length = 0) : hq l 1 = ⟨0, 0, true, false⟩ := by
  show headStep l 167 ⟨0, 0, false, false⟩ = _
  have e : byteQ l ⟨0, 0, false, false⟩ = (0, ⟨0, 0, true, false⟩) := by
    unfold byteQ; rw [if_neg (by decide), if_neg (by show ¬ 0 < l.length; omega)]
  unfold headStep
  rw [e, if_neg (by rintro ⟨-, h2⟩; cases h2)]
theorem hq_one_bad {l : List UInt8} (h : 0 < l.length) (h1 : (l.getD 0 0).toNat ≠ 167) : hq l 1 = ⟨1, 0, false, true⟩ := by
  show headStep l 167 ⟨0, 0, false, false⟩ = _
  have e : byteQ l ⟨0, 0, false, false⟩ = (l.getD 0 0, ⟨1, 0, false, false⟩) := by
    unfold byteQ; rw [if_neg (by decide), if_pos (by show 0 < l.length; omega)]
  unfold headStep
  rw [e, if_pos ⟨h1, rfl⟩]
theorem hq_one_ok {l : List UInt8} (h : 0 < l.length) (h1 : (l.getD 0 0).toNat = 167) : hq l 1 = ⟨1, 0, false, false⟩ := by
  show headStep l 167 ⟨0, 0, false, false⟩ = _
  have e : byteQ l ⟨0, 0, false, false⟩ = (l.getD 0 0, ⟨1, 0, false, false⟩) := by
    unfold byteQ; rw [if_neg (by decide), if_pos (by show 0 < l.length; omega)]
  unfold headStep
  rw [e, if_neg (fun h2 => h2.1 h1)]
theorem headStep_stop {l : List UInt8} {s : Qs} (C : Nat) (h : s.ok = false) : headStep l C s = s := by
  have e : byteQ l s = (0, s) := by unfold byteQ; rw [if_pos h]
  unfold headStep
  rw [e, if_neg (by rintro ⟨-, h2⟩; rw [h] at h2; cases h2)]
/-- behind the head: on; nothing can come; short -/
theorem hq_two (l : List UInt8) : (hq l 2 = ⟨2, 0, false, false⟩ ∧ 2 ≤ l.length ∧ decD l = decM l) ∨ ((hq l 2).ok = false ∧ (hq l 2).bad = true ∧ decD l = .err 262) ∨ ((hq l 2).ok = false ∧ (hq l 2).bad = false ∧ (hq l 2).short = true ∧ decD l = .err 260) := by
  have e2 : hq l 2 = headStep l 1 (hq l 1) := rfl
  unfold decD
  by_cases h0 : l.length = 0
  · rw [if_pos h0, e2, hq_one_nil h0, headStep_stop 1 rfl]
    exact .inr (.inr ⟨rfl, rfl, rfl, rfl⟩)
  rw [if_neg h0]
  by_cases h1 : (l.getD 0 0).toNat ≠ 167
  · rw [if_pos h1, e2, hq_one_bad (by omega) h1, headStep_stop 1 rfl]
    exact .inr (.inl ⟨rfl, rfl, rfl⟩)
  have h1' : (l.getD 0 0).toNat = 167 := Classical.not_not.1 h1
  rw [if_neg h1, e2, hq_one_ok (by omega) h1']
  by_cases h2 : l.length = 1
  · rw [if_pos h2]
    have e : byteQ l ⟨1, 0, false, false⟩ = (0, ⟨1, 0, true, false⟩) := by
      unfold byteQ; rw [if_neg (by decide), if_neg (by show ¬ 1 < l.length; omega)]
    unfold headStep
    rw [e, if_neg (by rintro ⟨-, h3⟩; cases h3)]
    exact .inr (.inr ⟨rfl, rfl, rfl, rfl⟩)
  rw [if_neg h2]
  have e : byteQ l ⟨1, 0, false, false⟩ = (l.getD 1 0, ⟨2, 0, false, false⟩) := by
    unfold byteQ; rw [if_neg (by decide), if_pos (by show 1 < l.length; omega)]
  unfold headStep
  rw [e]
  by_cases h3 : (l.getD 1 0).toNat ≠ 1
  · rw [if_pos h3, if_pos ⟨h3, rfl⟩]
    exact .inr (.inl ⟨rfl, rfl, rfl⟩)
  · rw [if_neg h3, if_neg (fun h4 => h3 h4.1)]
    exact .inl ⟨rfl, by omega, rfl⟩
/-- while a frame is read -/
structure PQ (w : World) (v : Value) (s : Qs) (wx : World) : Prop where
  rb : QB wx (w.heap.size + 1) v s
  res : wx.heap[w.heap.size]? = some (.cells #[.int .i64 0, .string ⟨#[]⟩, .int .i64 0, .int .i64 0, .int .u64 0, .string ⟨#[]⟩, .slice none 0 0, .int .i64 0, .int .i64 0, .string ⟨#[]⟩, .int .i64 0, .int .i64 0, .int .i64 0] 39 (0, 0))
  hd : wx.heap[w.heap.size + 1 + 1]? = some (.cells #[.int .u8 167, .int .u8 1] 5 (0, 0))
  below : Below w.heap.size w wx
theorem PQ.but {w wx w2 : World} {v : Value} {s s' : Qs} (h : PQ w v s wx) (hr : QB w2 (w.heap.size + 1) v s') (hb : But (w.heap.size + 1) wx w2) : PQ w v s' w2 :=
  ⟨hr, hb.boxed h.res (by omega), hb.boxed h.hd (by omega), h.below.trans ⟨hb.os, hb.tape, hb.output, hb.size, fun i hi => hb.block i (Nat.lt_of_lt_of_le hi h.below.size) (by omega)⟩⟩
theorem PQ.drewN {w wx : World} {v : Value} {s : Qs} (h : PQ w v s wx) (n : Nat) : PQ w v s (wx.drewN n) := ⟨h.rb, h.res, h.hd, ⟨h.below.os, h.below.tape, h.below.output, h.below.size, h.below.block⟩⟩
theorem PQ.drew {w wx : World} {v : Value} {s : Qs} (h : PQ w v s wx) : PQ w v s wx.drew := ⟨h.rb, h.res, h.hd, ⟨h.below.os, h.below.tape, h.below.output, h.below.size, h.below.block⟩⟩
theorem PQ.setBad {w wx : World} {v : Value} {s : Qs} (h : PQ w v s wx) : PQ w v { s with bad := true } (wx.setCell ⟨w.heap.size + 1, 4, none⟩ (.bool true)) :=
  ⟨h.rb.setBad true, (Below.heap_setCell _ _ _ _ (by show w.heap.size ≠ w.heap.size + 1; omega)).trans h.res, (Below.heap_setCell _ _ _ _ (by show w.heap.size + 1 + 1 ≠ w.heap.size + 1; omega)).trans h.hd, h.below.setCell (by show w.heap.size ≤ w.heap.size + 1; omega) _⟩
theorem PQ.grow {w wx w2 : World} {v : Value} {s : Qs} (h : PQ w v s wx) (hb : Below wx.heap.size wx w2) : PQ w v s w2 :=
  ⟨(hb.block _ (Array.getElem?_eq_some_iff.1 h.rb).1).trans h.rb, (hb.block _ (Array.getElem?_eq_some_iff.1 h.res).1).trans h.res, (hb.block _ (Array.getElem?_eq_some_iff.1 h.hd).1).trans h.hd, h.below.trans (hb.mono h.below.size)⟩
theorem PQ.head {w wx : World} {v : Value} {s : Qs} (h : PQ w v s wx) (i : Nat) (hi : i < 2) : wx.cell? ⟨w.heap.size + 1 + 1, i, none⟩ = some (.int .u8 (hdB i : Nat)) := by
  rw [cell_of_row wx _ i _ _ _ h.hd]
  match i, hi with
  | 0, _ => rfl
  | 1, _ => rfl
theorem res_qdec {W : World} {B : Nat} {cs : Array Value} {k e : Int} (h : W.heap[B]? = some (.cells cs 39 (0, 0))) (hs : cs.size = 13) (tmps : Array Value) (h2 : tmps.getD 2 undef = .pointer (some ⟨B, 0, none⟩)) (h3 : tmps.getD 3 undef = .int .i64 k) (h4 : tmps.getD 4 undef = .int .i64 e) :
    (results Tryd.f23 tmps).run Tryd.prog W = .ok (.tuple #[.agg cs, .int .i64 k, .int .i64 e]) W := by
  have h2' : tmps[2]?.getD undef = .pointer (some ⟨B, 0, none⟩) := by simpa using h2
  have h3' : tmps[3]?.getD undef = .int .i64 k := by simpa using h3
  have h4' : tmps[4]?.getD undef = .int .i64 e := by simpa using h4
  have hl := run_loadVar_row (P := Tryd.prog) W B 39 39 cs (0, 0) _ h Tryd.underlying39 rfl (by rw [hs]; kernel_rfl)
  simp [results, Tryd.results23, h2', h3', h4', asAddr, hl]
set_option linter.unusedSimpArgs false in
set_option maxRecDepth 100000 in
set_option maxHeartbeats 8000000 in
theorem refDecode_any (l : List UInt8) (v : Value) (w : World) (hv : Bs w v l) (hl : l.length ≤ 100000000) (hT : Tabs w) :
    Calls Tryd.prog 23 #[v] w (DecOut l w) := by
  obtain ⟨PP, hPP⟩ : ∃ PP, DecOut l w = PP := ⟨_, rfl⟩
  rw [hPP]
  have HPP := Lib.hid hPP
  have HV := Lib.hid hv
  have HTB := Lib.hid hT
  obtain ⟨p, cap, rfl, -⟩ := id hv
  have P0 : Hid (PQ w (.slice p l.length cap) (hq l 0) (((w.alloc (.cells #[.int .i64 0, .string ⟨#[]⟩, .int .i64 0, .int .i64 0, .int .u64 0, .string ⟨#[]⟩, .slice none 0 0, .int .i64 0, .int .i64 0, .string ⟨#[]⟩, .int .i64 0, .int .i64 0, .int .i64 0] 39)).alloc (.cells #[.slice p l.length cap, .int .i64 0, .int .i64 0, .bool false, .bool false] 80)).alloc (.cells #[.int .u8 167, .int .u8 1] 5))) := by
    refine ⟨?_, ?_, ?_, (((Below.refl _ _).alloc (Nat.le_refl _) _).alloc (by simp) _).alloc (by simp; omega) _⟩
    · have h := heap_alloc_new (w.alloc (.cells #[.int .i64 0, .string ⟨#[]⟩, .int .i64 0, .int .i64 0, .int .u64 0, .string ⟨#[]⟩, .slice none 0 0, .int .i64 0, .int .i64 0, .string ⟨#[]⟩, .int .i64 0, .int .i64 0, .int .i64 0] 39)) (.cells #[.slice p l.length cap, .int .i64 0, .int .i64 0, .bool false, .bool false] 80)
      rw [World.size_alloc] at h
      exact QB.alloc (s := ⟨0, 0, false, false⟩) h _
    · rw [Below.heap_alloc _ _ _ (by simp; omega), Below.heap_alloc _ _ _ (by simp)]
      exact heap_alloc_new w _
    · have h := heap_alloc_new ((w.alloc (.cells #[.int .i64 0, .string ⟨#[]⟩, .int .i64 0, .int .i64 0, .int .u64 0, .string ⟨#[]⟩, .slice none 0 0, .int .i64 0, .int .i64 0, .string ⟨#[]⟩, .int .i64 0, .int .i64 0, .int .i64 0] 39)).alloc (.cells #[.slice p l.length cap, .int .i64 0, .int .i64 0, .bool false, .bool false] 80)) (.cells #[.int .u8 167, .int .u8 1] 5)
      rw [World.size_alloc, World.size_alloc] at h
      exact h
  clear hPP hv hT
  go_enter Tryd.func23, Tryd.ntmps23
  go_wp2_with fail
  go_loopw [7] (fun s7 wr => ∃ i : Nat, s7 = .int .i64 (i : Nat) ∧ i ≤ 2 ∧ Hid (PQ w (.slice p l.length cap) (hq l i) wr)) (fun s7 _ => (2 - intOf s7).toNat)
  case atStart => exact ⟨0, rfl, by omega, P0.out⟩
  case round =>
    obtain ⟨i, rfl, hi, P1⟩ := hrel
    by_cases hi2 : i = 2
    · subst hi2
      rcases hq_two l with ⟨h2, h3, h4⟩ | ⟨h2, h3, h4⟩ | ⟨h2, h3, h4, h5⟩
      · rw [h2] at P1
        have HD0 := Lib.hid h4
        have hl2 := h3
        clear h2 h3 h4
        have CK : Hid (∀ W, PQ w (.slice p l.length cap) ⟨2, 0, false, false⟩ W → Calls Tryd.prog 48 #[.pointer (some ⟨w.heap.size + 1, 0, none⟩)] W (fun e w' => e = .returned (.bool true) ∧ w' = W)) := fun W hp => (qok_any (w.heap.size + 1) _ ⟨2, 0, false, false⟩ W hp.rb).mono fun _ _ ⟨h1, h9⟩ => ⟨h1, h9.symm⟩
        obtain ⟨c0, c1, c2, c3, c4, hlc⟩ := P1.out.rb.cells
        go_wp2_with fail
        refine (CK.out _ P1.out).mono ?_
        rintro e w9 ⟨rfl, rfl⟩
        clear c0 c1 c2 c3 c4 hlc
        go_wp2_with fail
        refine (qnumber_all l (w.heap.size + 1) (.slice p l.length cap) ⟨2, 0, false, false⟩ 16777216 _ P1.out.rb (HV.out.below P1.out.below) hl hl2 (by omega)).mono ?_
        rintro e W4 ⟨x, s', rfl, g1, g2, g3⟩
        obtain ⟨a1, a2, a4⟩ := g3
        have P4 : Hid (PQ w (.slice p l.length cap) s' W4) := P1.out.but g1 g2
        clear g1 g2
        have a5 : (s'.bad = true ∧ x = 0 ∧ decD l = .err 262) ∨ (s'.bad = false ∧ s'.short = true ∧ x = 0 ∧ decD l = .err 260) ∨ (s'.bad = false ∧ s'.short = false ∧ ∃ u, numD 16777216 0 0 (l.drop 2) = .done x u ∧ s'.pos = 2 + u) := by
          rcases a4 with ⟨h, -⟩ | ⟨-, h⟩
          · cases h
          · have e : l.drop (⟨2, 0, false, false⟩ : Qs).pos = l.drop 2 := rfl
            rw [e] at h
            rw [HD0.out]
            unfold decM
            cases hn : numD 16777216 0 0 (l.drop 2) with
            | short => rw [hn] at h; exact .inr (.inl ⟨h.2.2, h.2.1, h.1, rfl⟩)
            | bad => rw [hn] at h; exact .inl ⟨h.2, h.1, rfl⟩
            | done y u => rw [hn] at h; obtain ⟨rfl, h2, h3⟩ := h; unfold Qs.ok at h3; simp at h3; exact .inr (.inr ⟨h3.2, h3.1, u, rfl, h2⟩)
        clear a1 a4
        rcases a5 with ⟨h1, rfl, h3⟩ | ⟨h1, h2, rfl, h3⟩ | ⟨h1, h2, u, h3, h4⟩
        · have HDV := Lib.hid h3
          have hw0 : IntKind.i64.wrap 0 = 0 := rfl
          obtain ⟨c0, c1, c2, c3, c4, hlc⟩ := P4.out.rb.cells
          rw [h1] at c4
          clear h1 h3
          obtain ⟨z0, z1, z2, z3, z4, z5, z6, z7, z8, z9, z10, z11, z12, hlz⟩ := cells13 P4.out.res
          have f0 := frozen_of_row _ _ 0 _ _ P4.out.res
          have f1 := frozen_of_row _ _ 1 _ _ P4.out.res
          have f2 := frozen_of_row _ _ 2 _ _ P4.out.res
          have f3 := frozen_of_row _ _ 3 _ _ P4.out.res
          have f4 := frozen_of_row _ _ 4 _ _ P4.out.res
          have f5 := frozen_of_row _ _ 5 _ _ P4.out.res
          have f6 := frozen_of_row _ _ 6 _ _ P4.out.res
          have f7 := frozen_of_row _ _ 7 _ _ P4.out.res
          have f8 := frozen_of_row _ _ 8 _ _ P4.out.res
          have f9 := frozen_of_row _ _ 9 _ _ P4.out.res
          have f10 := frozen_of_row _ _ 10 _ _ P4.out.res
          have f11 := frozen_of_row _ _ 11 _ _ P4.out.res
          have f12 := frozen_of_row _ _ 12 _ _ P4.out.res
          go_wp2_with fail
          refine bodyPost_ret (res_qdec (B := w.heap.size) (k := 0) (e := 262) (set13 ?hres3 _ _ _ _ _ _ _ _ _ _ _ _ _) rfl _ rfl rfl rfl) rfl ?_
          case hres3 => exact P4.out.res
          rw [← HPP.out]
          refine ⟨0, 0, 0, 0, 0, 0, ⟨#[]⟩, ⟨#[]⟩, 0, 0, 0, ⟨#[]⟩, none, 0, 0, 0, 262, rfl, bel13 ?hbel3 (Nat.le_refl _) _ _ _ _ _ _ _ _ _ _ _ _ _, ?_⟩
          case hbel3 => exact P4.out.below
          rw [HDV.out]
          exact ⟨rfl, rfl, rfl⟩
        · have HDV := Lib.hid h3
          have hw0 : IntKind.i64.wrap 0 = 0 := rfl
          obtain ⟨c0, c1, c2, c3, c4, hlc⟩ := P4.out.rb.cells
          rw [h1] at c4
          rw [h2] at c3
          clear h1 h2 h3
          obtain ⟨z0, z1, z2, z3, z4, z5, z6, z7, z8, z9, z10, z11, z12, hlz⟩ := cells13 P4.out.res
          have f0 := frozen_of_row _ _ 0 _ _ P4.out.res
          have f1 := frozen_of_row _ _ 1 _ _ P4.out.res
          have f2 := frozen_of_row _ _ 2 _ _ P4.out.res
          have f3 := frozen_of_row _ _ 3 _ _ P4.out.res
          have f4 := frozen_of_row _ _ 4 _ _ P4.out.res
          have f5 := frozen_of_row _ _ 5 _ _ P4.out.res
          have f6 := frozen_of_row _ _ 6 _ _ P4.out.res
          have f7 := frozen_of_row _ _ 7 _ _ P4.out.res
          have f8 := frozen_of_row _ _ 8 _ _ P4.out.res
          have f9 := frozen_of_row _ _ 9 _ _ P4.out.res
          have f10 := frozen_of_row _ _ 10 _ _ P4.out.res
          have f11 := frozen_of_row _ _ 11 _ _ P4.out.res
          have f12 := frozen_of_row _ _ 12 _ _ P4.out.res
          go_wp2_with fail
          refine bodyPost_ret (res_qdec (B := w.heap.size) (k := 0) (e := 260) (set13 ?hres4 _ _ _ _ _ _ _ _ _ _ _ _ _) rfl _ rfl rfl rfl) rfl ?_
          case hres4 => exact P4.out.res
          rw [← HPP.out]
          refine ⟨0, 0, 0, 0, 0, 0, ⟨#[]⟩, ⟨#[]⟩, 0, 0, 0, ⟨#[]⟩, none, 0, 0, 0, 260, rfl, bel13 ?hbel4 (Nat.le_refl _) _ _ _ _ _ _ _ _ _ _ _ _ _, ?_⟩
          case hbel4 => exact P4.out.below
          rw [HDV.out]
          exact ⟨rfl, rfl, rfl⟩
        · have hx := (numD_len _ _ _ _ _ _ h3).2.2
          have hxw : IntKind.i64.wrap (x : Int) = (x : Int) := i64_wrap_nat (by omega)
          have HDN : Hid (decD l = decN l x u) := by show _ = _; rw [HD0.out]; unfold decM; rw [h3]
          obtain ⟨P, hP⟩ : ∃ P, 2 + u = P := ⟨_, rfl⟩
          have HP := Lib.hid hP
          rw [hP] at h4
          have HPOS : Hid (s'.pos = P) := h4
          have HSB : Hid (s'.bad = false ∧ s'.short = false) := ⟨h1, h2⟩
          have hPl : P ≤ l.length := by omega
          obtain ⟨b0, o0, rfl, hcl⟩ := (HV.out.below P4.out.below).addr (by omega)
          have HCL := Lib.hid hcl
          obtain ⟨c0, c1, c2, c3, c4, hlc⟩ := P4.out.rb.cells
          rw [h4] at c1
          rw [h2] at c3
          rw [h1] at c4
          clear h1 h2 h3 h4 hP hcl a2 CK
          by_cases hsh : l.length < P + x + 2
          · have hI : (l.length : Int) - (P : Int) < (x : Int) + 2 := by omega
            have HDV : Hid (decD l = .err 260) := by show _ = _; rw [HDN.out]; unfold decN; rw [HP.out, if_pos hsh]
            clear hsh
            obtain ⟨z0, z1, z2, z3, z4, z5, z6, z7, z8, z9, z10, z11, z12, hlz⟩ := cells13 P4.out.res
            have f0 := frozen_of_row _ _ 0 _ _ P4.out.res
            have f1 := frozen_of_row _ _ 1 _ _ P4.out.res
            have f2 := frozen_of_row _ _ 2 _ _ P4.out.res
            have f3 := frozen_of_row _ _ 3 _ _ P4.out.res
            have f4 := frozen_of_row _ _ 4 _ _ P4.out.res
            have f5 := frozen_of_row _ _ 5 _ _ P4.out.res
            have f6 := frozen_of_row _ _ 6 _ _ P4.out.res
            have f7 := frozen_of_row _ _ 7 _ _ P4.out.res
            have f8 := frozen_of_row _ _ 8 _ _ P4.out.res
            have f9 := frozen_of_row _ _ 9 _ _ P4.out.res
            have f10 := frozen_of_row _ _ 10 _ _ P4.out.res
            have f11 := frozen_of_row _ _ 11 _ _ P4.out.res
            have f12 := frozen_of_row _ _ 12 _ _ P4.out.res
            go_wp2_with fail
            refine bodyPost_ret (res_qdec (B := w.heap.size) (k := 0) (e := 260) (set13 ?hres5 _ _ _ _ _ _ _ _ _ _ _ _ _) rfl _ rfl rfl rfl) rfl ?_
            case hres5 => exact P4.out.res
            rw [← HPP.out]
            refine ⟨0, 0, 0, 0, 0, 0, ⟨#[]⟩, ⟨#[]⟩, 0, 0, 0, ⟨#[]⟩, none, 0, 0, 0, 260, rfl, bel13 ?hbel5 (Nat.le_refl _) _ _ _ _ _ _ _ _ _ _ _ _ _, ?_⟩
            case hbel5 => exact P4.out.below
            rw [HDV.out]
            exact ⟨rfl, rfl, rfl⟩
          · have hI : ¬ (l.length : Int) - (P : Int) < (x : Int) + 2 := by omega
            obtain ⟨K, hK⟩ : ∃ K, P + x = K := ⟨_, rfl⟩
            obtain ⟨q0, cq, hsl, hbs⟩ := (HV.out.below P4.out.below).window (i := P) (j := K) (by omega) (by omega)
            rw [show K - P = x by omega] at hsl hbs
            have HBS := Lib.hid hbs
            have hPK : (P : Int) + (x : Int) = (K : Int) := by omega
            have hKw : IntKind.i64.wrap (K : Int) = (K : Int) := i64_wrap_nat (by omega)
            obtain ⟨C, hC⟩ : ∃ C, (crc ((l.drop P).take x)).toNat = C := ⟨_, rfl⟩
            have hC6 : C < 65536 := by rw [← hC]; exact (crc _).isLt
            have HC := Lib.hid hC
            have HKL : Hid (K + 2 ≤ l.length ∧ P + x = K) := by show _ ∧ _; omega
            have hbl : ((l.drop P).take x).length = x := by rw [List.length_take, List.length_drop]; omega
            have CS : Hid (∀ n, Calls Tryd.prog 26 #[.slice q0 x cq] (W4.drewN n) fun e w' => e = .returned (.int .u16 (C : Nat)) ∧ w' = W4.drewN n) := fun n => by
              have h := refSum_any q0 cq ((l.drop P).take x) (W4.drewN n) (by rw [hbl]; exact hbs.drewN n)
              rw [hbl, hC] at h
              exact h
            obtain ⟨y1, hy1⟩ : ∃ y, l[K]? = some y := ⟨_, List.getElem?_eq_getElem (by omega)⟩
            obtain ⟨y2, hy2⟩ : ∃ y, l[K + 1]? = some y := ⟨_, List.getElem?_eq_getElem (by omega)⟩
            have q1 := HCL.out K y1 hy1
            have q2 := HCL.out (K + 1) y2 hy2
            have HY : Hid (l.getD K 0 = y1 ∧ l.getD (K + 1) 0 = y2) := by show _ ∧ _; simp [List.getD, hy1, hy2]
            obtain ⟨Y1, hY1⟩ : ∃ Y, y1.toNat = Y := ⟨_, rfl⟩
            obtain ⟨Y2, hY2⟩ : ∃ Y, y2.toNat = Y := ⟨_, rfl⟩
            rw [hY1] at q1
            rw [hY2] at q2
            have hk0 : (0 : Int) ≤ (K : Int) := by omega
            have hk1 : (K : Int) < (l.length : Int) := by omega
            have hk2 : (K : Int) + 1 < (l.length : Int) := by omega
            have HDV0 : Hid (decD l = if crcB ((l.drop P).take x) ≠ [y1, y2] then .err 261 else match msgF ((l.drop P).take x) with | none => .err 262 | some x => .ok x (K + 2)) := by
              show _ = _
              rw [HDN.out]
              unfold decN
              rw [HP.out, if_neg (by omega), hK, HY.out.1, HY.out.2]
              rfl
            have hb8 : ((Y1 : Int) == (C : Int) / 256) = decide (C / 256 = Y1) ∧ ((Y2 : Int) == (C : Int) % 256) = decide (C % 256 = Y2) := by
              constructor <;> (rw [Bool.eq_iff_iff]; simp only [beq_iff_eq, decide_eq_true_eq]; omega)
            obtain ⟨hb8, hb9⟩ := hb8
            have hb7 : ((C : Int) / 256) % 256 = (C : Int) / 256 := by omega
            have HCB : Hid (crcB ((l.drop P).take x) = [y1, y2] ↔ C / 256 = Y1 ∧ C % 256 = Y2) := by show _ ↔ _; rw [crcB_eq, hC, hY1, hY2]
            have HP4 : Hid (∀ n, PQ w (.slice (some ⟨b0, o0, none⟩) l.length cap) s' (W4.drewN n)) := fun n => P4.out.drewN n
            clear hC hbs hbl hy1 hy2 hY1 hY2 hsh hK
            by_cases e1 : C / 256 = Y1
            · rw [decide_eq_true e1] at hb8
              have hb8' : ((Y1 : Int) != (C : Int) / 256) = false := by simp [bne, hb8]
              by_cases e2 : C % 256 = Y2
              · rw [decide_eq_true e2] at hb9
                have hb9' : ((Y2 : Int) != (C : Int) % 256) = false := by simp [bne, hb9]
                have HDV : Hid (decD l = match msgF ((l.drop P).take x) with | none => .err 262 | some x => .ok x (K + 2)) := by show _ = _; rw [HDV0.out, if_neg (by rw [Classical.not_not]; exact HCB.out.2 ⟨e1, e2⟩)]
                clear e1 e2
                go_upto_region 15 with fail
                go_quiet (fail)
                go_wp2_with fail
                refine (CS.out _).mono ?_
                rintro e w' ⟨rfl, rfl⟩
                go_upto_region 19 with fail
                refine wp_world (fun Wx => PQ w (.slice (some ⟨b0, o0, none⟩) l.length cap) s' Wx ∧ Bs Wx (.slice q0 x cq) ((l.drop P).take x)) (by exact ⟨HP4.out _, HBS.out.drewN _⟩) (fun W5 hx5 => ?_)
                have P5 := Lib.hid hx5.1
                have CM : Hid (Calls Tryd.prog 50 #[.slice q0 x cq] W5 (MOut ((l.drop P).take x) W5)) := refMessage_any ((l.drop P).take x) _ W5 hx5.2 (by rw [List.length_take, List.length_drop]; omega) (HTB.out.below P5.out.below)
                clear hx5 c0 c1 c2 c3 c4 hlc q1 q2
                go_wp2_with fail
                refine CM.out.mono ?_
                rintro e W6 ⟨n0, n1, n2, n3, n4, n5, tp, rp, kd, di, db, ds, q, n, c, ok, rfl, hb, hok1, hok2⟩
                have P6 := Lib.hid (P5.out.grow hb)
                have K1 := Lib.hid hok1
                have K2 := Lib.hid hok2
                have HB6 := Lib.hid hb
                clear hb hok1 hok2
                have P7 : Hid (PQ w (.slice (some ⟨b0, o0, none⟩) l.length cap) s' (W6.alloc (.cells #[.int .i64 n0, .string tp, .int .i64 kd, .int .i64 di, .int .u64 db, .string ds, .slice q n c, .int .i64 n1, .int .i64 n2, .string rp, .int .i64 n3, .int .i64 n4, .int .i64 n5] 39))) := P6.out.grow ((Below.refl _ _).alloc (Nat.le_refl _) _)
                have M7 : Hid ((W6.alloc (.cells #[.int .i64 n0, .string tp, .int .i64 kd, .int .i64 di, .int .u64 db, .string ds, .slice q n c, .int .i64 n1, .int .i64 n2, .string rp, .int .i64 n3, .int .i64 n4, .int .i64 n5] 39)).heap[W6.heap.size]? = some (.cells #[.int .i64 n0, .string tp, .int .i64 kd, .int .i64 di, .int .u64 db, .string ds, .slice q n c, .int .i64 n1, .int .i64 n2, .string rp, .int .i64 n3, .int .i64 n4, .int .i64 n5] 39 (0, 0))) := heap_alloc_new W6 _
                have B7 : Hid (Below W6.heap.size W6 (W6.alloc (.cells #[.int .i64 n0, .string tp, .int .i64 kd, .int .i64 di, .int .u64 db, .string ds, .slice q n c, .int .i64 n1, .int .i64 n2, .string rp, .int .i64 n3, .int .i64 n4, .int .i64 n5] 39))) := (Below.refl _ _).alloc (Nat.le_refl _) _
                go_upto_region 20 with fail
                refine wp_world (fun Wx => PQ w (.slice (some ⟨b0, o0, none⟩) l.length cap) s' Wx ∧ Wx.heap[W6.heap.size]? = some (.cells #[.int .i64 n0, .string tp, .int .i64 kd, .int .i64 di, .int .u64 db, .string ds, .slice q n c, .int .i64 n1, .int .i64 n2, .string rp, .int .i64 n3, .int .i64 n4, .int .i64 n5] 39 (0, 0)) ∧ Below W6.heap.size W6 Wx) (by exact ⟨P7.out, M7.out, B7.out⟩) (fun W7 hx7 => ?_)
                have P8 := Lib.hid hx7.1
                have M8 := Lib.hid hx7.2.1
                have B8 := Lib.hid hx7.2.2
                obtain ⟨D, hD⟩ : ∃ D, D = W6.heap.size := ⟨_, rfl⟩
                have HD6 := Lib.hid hD
                rw [← hD] at M8 ⊢
                clear hx7 P7 M7 B7 hD
                cases ok with
                | false =>
                  have HNO : Hid (decD l = .err 262) := by
                    show _ = _
                    rw [HDV.out]
                    cases hm : msgF ((l.drop P).take x) with
                    | none => rfl
                    | some y => exact absurd (msgF_iff.2 hm) (K2.out rfl _ _ _ _)
                  obtain ⟨z0, z1, z2, z3, z4, z5, z6, z7, z8, z9, z10, z11, z12, hlz⟩ := cells13 P8.out.res
                  have f0 := frozen_of_row _ _ 0 _ _ P8.out.res
                  have f1 := frozen_of_row _ _ 1 _ _ P8.out.res
                  have f2 := frozen_of_row _ _ 2 _ _ P8.out.res
                  have f3 := frozen_of_row _ _ 3 _ _ P8.out.res
                  have f4 := frozen_of_row _ _ 4 _ _ P8.out.res
                  have f5 := frozen_of_row _ _ 5 _ _ P8.out.res
                  have f6 := frozen_of_row _ _ 6 _ _ P8.out.res
                  have f7 := frozen_of_row _ _ 7 _ _ P8.out.res
                  have f8 := frozen_of_row _ _ 8 _ _ P8.out.res
                  have f9 := frozen_of_row _ _ 9 _ _ P8.out.res
                  have f10 := frozen_of_row _ _ 10 _ _ P8.out.res
                  have f11 := frozen_of_row _ _ 11 _ _ P8.out.res
                  have f12 := frozen_of_row _ _ 12 _ _ P8.out.res
                  go_wp2_with fail
                  refine bodyPost_ret (res_qdec (B := w.heap.size) (k := 0) (e := 262) (set13 ?hres8 _ _ _ _ _ _ _ _ _ _ _ _ _) rfl _ rfl rfl rfl) rfl ?_
                  case hres8 => exact P8.out.res
                  rw [← HPP.out]
                  refine ⟨0, 0, 0, 0, 0, 0, ⟨#[]⟩, ⟨#[]⟩, 0, 0, 0, ⟨#[]⟩, none, 0, 0, 0, 262, rfl, bel13 ?hbel8 (Nat.le_refl _) _ _ _ _ _ _ _ _ _ _ _ _ _, ?_⟩
                  case hbel8 => exact P8.out.below
                  rw [HNO.out]
                  exact ⟨rfl, rfl, rfl⟩
                | true =>
                  obtain ⟨t, ht1, ht2⟩ := K1.out rfl
                  have HM := Lib.hid (msgF_iff.1 ht1)
                  have HD := Lib.hid ht2
                  clear ht1 ht2
                  have hK2w : IntKind.i64.wrap ((K : Int) + 2) = ((K + 2 : Nat) : Int) := by rw [IntWalk.i64_in _ (by have := HKL.out.1; omega)]; omega
                  have hDs : w.heap.size + 1 < D := by have h1 := HD6.out; have h2 := (Array.getElem?_eq_some_iff.1 P6.out.rb).1; omega
                  obtain ⟨c0, c1, c2, c3, c4, hlc⟩ := P8.out.rb.cells
                  rw [HPOS.out] at c1
                  obtain ⟨z0, z1, z2, z3, z4, z5, z6, z7, z8, z9, z10, z11, z12, hlz⟩ := cells13 M8.out
                  obtain ⟨y0, y1', y2', y3, y4, y5, y6, y7, y8, y9, y10, y11, y12, hly⟩ := cells13 P8.out.res
                  have f0 := frozen_of_row _ _ 0 _ _ P8.out.res
                  have f1 := frozen_of_row _ _ 1 _ _ P8.out.res
                  have f2 := frozen_of_row _ _ 2 _ _ P8.out.res
                  have f3 := frozen_of_row _ _ 3 _ _ P8.out.res
                  have f4 := frozen_of_row _ _ 4 _ _ P8.out.res
                  have f5 := frozen_of_row _ _ 5 _ _ P8.out.res
                  have f6 := frozen_of_row _ _ 6 _ _ P8.out.res
                  have f7 := frozen_of_row _ _ 7 _ _ P8.out.res
                  have f8 := frozen_of_row _ _ 8 _ _ P8.out.res
                  have f9 := frozen_of_row _ _ 9 _ _ P8.out.res
                  have f10 := frozen_of_row _ _ 10 _ _ P8.out.res
                  have f11 := frozen_of_row _ _ 11 _ _ P8.out.res
                  have f12 := frozen_of_row _ _ 12 _ _ P8.out.res
                  have hn1 : ¬ w.heap.size + 1 = w.heap.size := by omega
                  have hn2 : ¬ w.heap.size = w.heap.size + 1 := by omega
                  have hn3 : ¬ D = w.heap.size := by omega
                  have hn4 : ¬ w.heap.size = D := by omega
                  go_upto_region 22 with fail
                  go_region_held3 (fun w' => w'.cell? ⟨w.heap.size + 1, 1, none⟩ = some (.int .i64 (P : Nat)) ∧ w'.cell? ⟨D, 0, none⟩ = some (.int .i64 n0) ∧ w'.cell? ⟨D, 1, none⟩ = some (.string tp) ∧ w'.cell? ⟨D, 2, none⟩ = some (.int .i64 kd) ∧ w'.cell? ⟨D, 3, none⟩ = some (.int .i64 di) ∧ w'.cell? ⟨D, 4, none⟩ = some (.int .u64 db) ∧ w'.cell? ⟨D, 5, none⟩ = some (.string ds) ∧ w'.cell? ⟨D, 6, none⟩ = some (.slice q n c) ∧ w'.cell? ⟨D, 7, none⟩ = some (.int .i64 n1) ∧ w'.cell? ⟨D, 8, none⟩ = some (.int .i64 n2) ∧ w'.cell? ⟨D, 9, none⟩ = some (.string rp) ∧ w'.cell? ⟨D, 10, none⟩ = some (.int .i64 n3) ∧ w'.cell? ⟨D, 11, none⟩ = some (.int .i64 n4) ∧ w'.cell? ⟨D, 12, none⟩ = some (.int .i64 n5)) (go_keep) (fail)
                  go_wp2_with fail
                  refine bodyPost_ret (res_qdec (B := w.heap.size) (k := ((K + 2 : Nat) : Int)) (e := 0) (heap_drew1 (set13 ?hres99 _ _ _ _ _ _ _ _ _ _ _ _ _)) rfl _ rfl rfl rfl) rfl ?_
                  case hres99 => exact P8.out.res
                  rw [← HPP.out]
                  refine ⟨n0, n1, n2, n3, n4, n5, tp, rp, kd, di, db, ds, q, n, c, ((K + 2 : Nat) : Int), 0, rfl, below_drew (bel13 ?hbel99 (Nat.le_refl _) _ _ _ _ _ _ _ _ _ _ _ _ _), ?_⟩
                  case hbel99 => exact P8.out.below
                  rw [HDV.out, HM.out]
                  refine ⟨rfl, rfl, rfl, rfl, rfl, HD.out.kept fun b hb hl => ⟨(heap_drew2 (heap13_other ?hb9 _ _ _ _ _ _ _ _ _ _ _ _ _)).trans (B8.out.block b hl), ?hb11⟩⟩
                  all_goals
                    have h1 : W5.heap.size ≤ b := hb
                    have h2 := (Array.getElem?_eq_some_iff.1 P5.out.rb).1
                    omega
              · rw [decide_eq_false e2] at hb9
                have hb9' : ((Y2 : Int) != (C : Int) % 256) = true := by simp [bne, hb9]
                have HDV : Hid (decD l = .err 261) := by show _ = _; rw [HDV0.out, if_pos (fun h => e2 (HCB.out.1 h).2)]
                clear e1 e2
                go_upto_region 15 with fail
                go_quiet (fail)
                go_wp2_with fail
                refine (CS.out _).mono ?_
                rintro e w' ⟨rfl, rfl⟩
                go_upto_region 18 with fail
                refine wp_world (fun Wx => PQ w (.slice (some ⟨b0, o0, none⟩) l.length cap) s' Wx) (by exact HP4.out _) (fun W5 hx5 => ?_)
                have P5 := Lib.hid hx5
                clear hx5 c0 c1 c2 c3 c4 hlc q1 q2
                obtain ⟨z0, z1, z2, z3, z4, z5, z6, z7, z8, z9, z10, z11, z12, hlz⟩ := cells13 P5.out.res
                have f0 := frozen_of_row _ _ 0 _ _ P5.out.res
                have f1 := frozen_of_row _ _ 1 _ _ P5.out.res
                have f2 := frozen_of_row _ _ 2 _ _ P5.out.res
                have f3 := frozen_of_row _ _ 3 _ _ P5.out.res
                have f4 := frozen_of_row _ _ 4 _ _ P5.out.res
                have f5 := frozen_of_row _ _ 5 _ _ P5.out.res
                have f6 := frozen_of_row _ _ 6 _ _ P5.out.res
                have f7 := frozen_of_row _ _ 7 _ _ P5.out.res
                have f8 := frozen_of_row _ _ 8 _ _ P5.out.res
                have f9 := frozen_of_row _ _ 9 _ _ P5.out.res
                have f10 := frozen_of_row _ _ 10 _ _ P5.out.res
                have f11 := frozen_of_row _ _ 11 _ _ P5.out.res
                have f12 := frozen_of_row _ _ 12 _ _ P5.out.res
                go_wp2_with fail
                refine bodyPost_ret (res_qdec (B := w.heap.size) (k := 0) (e := 261) (set13 ?hres6 _ _ _ _ _ _ _ _ _ _ _ _ _) rfl _ rfl rfl rfl) rfl ?_
                case hres6 => exact P5.out.res
                rw [← HPP.out]
                refine ⟨0, 0, 0, 0, 0, 0, ⟨#[]⟩, ⟨#[]⟩, 0, 0, 0, ⟨#[]⟩, none, 0, 0, 0, 261, rfl, bel13 ?hbel6 (Nat.le_refl _) _ _ _ _ _ _ _ _ _ _ _ _ _, ?_⟩
                case hbel6 => exact P5.out.below
                rw [HDV.out]
                exact ⟨rfl, rfl, rfl⟩
            · rw [decide_eq_false e1] at hb8
              have hb8' : ((Y1 : Int) != (C : Int) / 256) = true := by simp [bne, hb8]
              have HDV : Hid (decD l = .err 261) := by show _ = _; rw [HDV0.out, if_pos (fun h => e1 (HCB.out.1 h).1)]
              clear e1
              go_upto_region 15 with fail
              go_quiet (fail)
              go_wp2_with fail
              refine (CS.out _).mono ?_
              rintro e w' ⟨rfl, rfl⟩
              go_upto_region 18 with fail
              refine wp_world (fun Wx => PQ w (.slice (some ⟨b0, o0, none⟩) l.length cap) s' Wx) (by exact HP4.out _) (fun W5 hx5 => ?_)
              have P5 := Lib.hid hx5
              clear hx5 c0 c1 c2 c3 c4 hlc q1 q2
              obtain ⟨z0, z1, z2, z3, z4, z5, z6, z7, z8, z9, z10, z11, z12, hlz⟩ := cells13 P5.out.res
              have f0 := frozen_of_row _ _ 0 _ _ P5.out.res
              have f1 := frozen_of_row _ _ 1 _ _ P5.out.res
              have f2 := frozen_of_row _ _ 2 _ _ P5.out.res
              have f3 := frozen_of_row _ _ 3 _ _ P5.out.res
              have f4 := frozen_of_row _ _ 4 _ _ P5.out.res
              have f5 := frozen_of_row _ _ 5 _ _ P5.out.res
              have f6 := frozen_of_row _ _ 6 _ _ P5.out.res
              have f7 := frozen_of_row _ _ 7 _ _ P5.out.res
              have f8 := frozen_of_row _ _ 8 _ _ P5.out.res
              have f9 := frozen_of_row _ _ 9 _ _ P5.out.res
              have f10 := frozen_of_row _ _ 10 _ _ P5.out.res
              have f11 := frozen_of_row _ _ 11 _ _ P5.out.res
              have f12 := frozen_of_row _ _ 12 _ _ P5.out.res
              go_wp2_with fail
              refine bodyPost_ret (res_qdec (B := w.heap.size) (k := 0) (e := 261) (set13 ?hres7 _ _ _ _ _ _ _ _ _ _ _ _ _) rfl _ rfl rfl rfl) rfl ?_
              case hres7 => exact P5.out.res
              rw [← HPP.out]
              refine ⟨0, 0, 0, 0, 0, 0, ⟨#[]⟩, ⟨#[]⟩, 0, 0, 0, ⟨#[]⟩, none, 0, 0, 0, 261, rfl, bel13 ?hbel7 (Nat.le_refl _) _ _ _ _ _ _ _ _ _ _ _ _ _, ?_⟩
              case hbel7 => exact P5.out.below
              rw [HDV.out]
              exact ⟨rfl, rfl, rfl⟩
      · obtain ⟨s, hs⟩ : ∃ s, hq l 2 = s := ⟨_, rfl⟩
        rw [hs] at h2 h3 P1
        clear hs
        have HDV := Lib.hid h4
        have CK : Hid (∀ W, PQ w (.slice p l.length cap) s W → Calls Tryd.prog 48 #[.pointer (some ⟨w.heap.size + 1, 0, none⟩)] W (fun e w' => e = .returned (.bool false) ∧ w' = W)) := fun W hp => (qok_any (w.heap.size + 1) _ s W hp.rb).mono fun _ _ ⟨h1, h9⟩ => ⟨by rw [h1, h2], h9.symm⟩
        obtain ⟨c0, c1, c2, c3, c4, hlc⟩ := P1.out.rb.cells
        rw [h3] at c4
        clear h2 h3 h4
        go_wp2_with fail
        refine (CK.out _ P1.out).mono ?_
        rintro e w9 ⟨rfl, rfl⟩
        obtain ⟨z0, z1, z2, z3, z4, z5, z6, z7, z8, z9, z10, z11, z12, hlz⟩ := cells13 P1.out.res
        have f0 := frozen_of_row _ _ 0 _ _ P1.out.res
        have f1 := frozen_of_row _ _ 1 _ _ P1.out.res
        have f2 := frozen_of_row _ _ 2 _ _ P1.out.res
        have f3 := frozen_of_row _ _ 3 _ _ P1.out.res
        have f4 := frozen_of_row _ _ 4 _ _ P1.out.res
        have f5 := frozen_of_row _ _ 5 _ _ P1.out.res
        have f6 := frozen_of_row _ _ 6 _ _ P1.out.res
        have f7 := frozen_of_row _ _ 7 _ _ P1.out.res
        have f8 := frozen_of_row _ _ 8 _ _ P1.out.res
        have f9 := frozen_of_row _ _ 9 _ _ P1.out.res
        have f10 := frozen_of_row _ _ 10 _ _ P1.out.res
        have f11 := frozen_of_row _ _ 11 _ _ P1.out.res
        have f12 := frozen_of_row _ _ 12 _ _ P1.out.res
        go_wp2_with fail
        refine bodyPost_ret (res_qdec (B := w.heap.size) (k := 0) (e := 262) (set13 ?hres1 _ _ _ _ _ _ _ _ _ _ _ _ _) rfl _ rfl rfl rfl) rfl ?_
        case hres1 => exact P1.out.res
        rw [← HPP.out]
        refine ⟨0, 0, 0, 0, 0, 0, ⟨#[]⟩, ⟨#[]⟩, 0, 0, 0, ⟨#[]⟩, none, 0, 0, 0, 262, rfl, bel13 ?hbel1 (Nat.le_refl _) _ _ _ _ _ _ _ _ _ _ _ _ _, ?_⟩
        case hbel1 => exact P1.out.below
        rw [HDV.out]
        exact ⟨rfl, rfl, rfl⟩
      · obtain ⟨s, hs⟩ : ∃ s, hq l 2 = s := ⟨_, rfl⟩
        rw [hs] at h2 h3 h4 P1
        clear hs
        have HDV := Lib.hid h5
        have CK : Hid (∀ W, PQ w (.slice p l.length cap) s W → Calls Tryd.prog 48 #[.pointer (some ⟨w.heap.size + 1, 0, none⟩)] W (fun e w' => e = .returned (.bool false) ∧ w' = W)) := fun W hp => (qok_any (w.heap.size + 1) _ s W hp.rb).mono fun _ _ ⟨h1, h9⟩ => ⟨by rw [h1, h2], h9.symm⟩
        obtain ⟨c0, c1, c2, c3, c4, hlc⟩ := P1.out.rb.cells
        rw [h3] at c4
        rw [h4] at c3
        clear h2 h3 h4 h5
        go_wp2_with fail
        refine (CK.out _ P1.out).mono ?_
        rintro e w9 ⟨rfl, rfl⟩
        obtain ⟨z0, z1, z2, z3, z4, z5, z6, z7, z8, z9, z10, z11, z12, hlz⟩ := cells13 P1.out.res
        have f0 := frozen_of_row _ _ 0 _ _ P1.out.res
        have f1 := frozen_of_row _ _ 1 _ _ P1.out.res
        have f2 := frozen_of_row _ _ 2 _ _ P1.out.res
        have f3 := frozen_of_row _ _ 3 _ _ P1.out.res
        have f4 := frozen_of_row _ _ 4 _ _ P1.out.res
        have f5 := frozen_of_row _ _ 5 _ _ P1.out.res
        have f6 := frozen_of_row _ _ 6 _ _ P1.out.res
        have f7 := frozen_of_row _ _ 7 _ _ P1.out.res
        have f8 := frozen_of_row _ _ 8 _ _ P1.out.res
        have f9 := frozen_of_row _ _ 9 _ _ P1.out.res
        have f10 := frozen_of_row _ _ 10 _ _ P1.out.res
        have f11 := frozen_of_row _ _ 11 _ _ P1.out.res
        have f12 := frozen_of_row _ _ 12 _ _ P1.out.res
        go_wp2_with fail
        refine bodyPost_ret (res_qdec (B := w.heap.size) (k := 0) (e := 260) (set13 ?hres2 _ _ _ _ _ _ _ _ _ _ _ _ _) rfl _ rfl rfl rfl) rfl ?_
        case hres2 => exact P1.out.res
        rw [← HPP.out]
        refine ⟨0, 0, 0, 0, 0, 0, ⟨#[]⟩, ⟨#[]⟩, 0, 0, 0, ⟨#[]⟩, none, 0, 0, 0, 260, rfl, bel13 ?hbel2 (Nat.le_refl _) _ _ _ _ _ _ _ _ _ _ _ _ _, ?_⟩
        case hbel2 => exact P1.out.below
        rw [HDV.out]
        exact ⟨rfl, rfl, rfl⟩
    · have hiI : (i : Int) < 2 := by omega
      have hi0 : (0 : Int) ≤ (i : Int) := by omega
      have hq0 := P1.out.head i (by omega)
      obtain ⟨C, hC⟩ : ∃ C, hdB i = C := ⟨_, rfl⟩
      obtain ⟨s, hs⟩ : ∃ s, hq l i = s := ⟨_, rfl⟩
      have hps := hq_pos l i
      have hst : hq l (i + 1) = headStep l C s := by show headStep l (hdB i) (hq l i) = _; rw [hC, hs]
      have HST := Lib.hid hst
      rw [hC] at hq0
      rw [hs] at P1 hps
      obtain ⟨c, s2, hcs⟩ : ∃ c s2, byteQ l s = (c, s2) := ⟨_, _, rfl⟩
      have hHS : headStep l C s = if c.toNat ≠ C ∧ s2.ok = true then { s2 with bad := true } else s2 := by unfold headStep; rw [hcs]
      obtain ⟨X, hX⟩ : ∃ X, c.toNat = X := ⟨_, rfl⟩
      rw [hX] at hHS
      have HHS := Lib.hid hHS
      have CB : Hid (∀ W, PQ w (.slice p l.length cap) s W → Calls Tryd.prog 47 #[.pointer (some ⟨w.heap.size + 1, 0, none⟩)] W (fun e W' => e = .returned (.int .u8 (X : Nat)) ∧ PQ w (.slice p l.length cap) s2 W')) := fun W hp => (qbyte_any l (w.heap.size + 1) (.slice p l.length cap) s W hp.rb (HV.out.below hp.below) hl hps).mono (by
        rintro e W' ⟨rfl, g1, g2⟩
        rw [hcs] at g1
        rw [hcs]
        exact ⟨by rw [← hX], hp.but g1 g2⟩)
      have CK : Hid (∀ W, PQ w (.slice p l.length cap) s2 W → Calls Tryd.prog 48 #[.pointer (some ⟨w.heap.size + 1, 0, none⟩)] W (fun e w' => e = .returned (.bool s2.ok) ∧ w' = W)) := fun W hp => (qok_any (w.heap.size + 1) _ s2 W hp.rb).mono fun _ _ ⟨h1, h2⟩ => ⟨h1, h2.symm⟩
      have HQH : Hid (∀ (s' : Qs) W, PQ w (.slice p l.length cap) s' W → W.cell? ⟨w.heap.size + 1 + 1, i, none⟩ = some (.int .u8 (C : Nat))) := fun s' W hp => by rw [← hC]; exact hp.head i (by omega)
      clear hcs hHS hst hX hs hC hps
      by_cases hXC : X = C
      · subst hXC
        have HNX : Hid (hq l (i + 1) = s2) := by show _ = _; rw [HST.out, HHS.out, if_neg (fun h => h.1 rfl)]
        have hb1 : ((X : Int) == (X : Int)) = true := by simp
        have hb2 : ((X : Int) != (X : Int)) = false := by simp [bne]
        go_upto_region 6 with fail
        refine wp_region_held_drew (S := (fun w' => w'.cell? ⟨w.heap.size + 1 + 1, i, none⟩ = some (.int .u8 (X : Nat)))) (by kernel_rfl) hq0 (fun hHeld => ?_)
        refine wpAnyH_take (i := 0) (oi := _) (v := ?_) rfl (by kernel_rfl) (by kernel_rfl) (by kernel_rfl) (fun _ _ _ h => h) (Or.inl ⟨by rfl, ?_⟩) (by assumption) ?_
        rotate_left
        focus (intro w' hSw; (try dsimp only at hSw); go_simp; try with_reducible rfl)
        (try simp only [Act.put, List.setIfInBounds_toArray, List.set_cons_zero, List.set_cons_succ, List.getElem_toArray, List.getElem_cons_succ, List.getElem_cons_zero])
        refine wpAnyH_take (i := 2) (oi := _) (v := ?_) rfl (by kernel_rfl) (by kernel_rfl) (by kernel_rfl) (fun _ _ _ h => h) (Or.inl ⟨by rfl, ?_⟩) (by assumption) ?_
        rotate_left
        focus (intro w' hSw; (try dsimp only at hSw); go_simp; try with_reducible rfl)
        (try simp only [Act.put, List.setIfInBounds_toArray, List.set_cons_zero, List.set_cons_succ, List.getElem_toArray, List.getElem_cons_succ, List.getElem_cons_zero])
        refine wpAnyH_take (i := 3) (oi := _) (v := ?_) rfl (by kernel_rfl) (by kernel_rfl) (by kernel_rfl) (fun _ _ _ h => h) (Or.inl ⟨by rfl, ?_⟩) (by assumption) ?_
        rotate_left
        focus (intro w' hSw; (try dsimp only at hSw); go_simp; try with_reducible rfl)
        (try simp only [Act.put, List.setIfInBounds_toArray, List.set_cons_zero, List.set_cons_succ, List.getElem_toArray, List.getElem_cons_succ, List.getElem_cons_zero])
        refine wpAnyH_take (i := 4) (oi := _) (v := ?_) rfl (by kernel_rfl) (by kernel_rfl) (by kernel_rfl) (fun _ _ _ h => h) (Or.inl ⟨by rfl, ?_⟩) (by assumption) ?_
        rotate_left
        focus (intro w' hSw; (try dsimp only at hSw); go_simp; try with_reducible rfl)
        (try simp only [Act.put, List.setIfInBounds_toArray, List.set_cons_zero, List.set_cons_succ, List.getElem_toArray, List.getElem_cons_succ, List.getElem_cons_zero])
        refine wpAnyH_take (i := 5) (oi := _) (v := ?_) rfl (by kernel_rfl) (by kernel_rfl) (by kernel_rfl) (fun _ _ _ h => h) (Or.inl ⟨by rfl, ?_⟩) (by assumption) ?_
        rotate_left
        focus (intro w' hSw; (try dsimp only at hSw); go_simp; try with_reducible rfl)
        (try simp only [Act.put, List.setIfInBounds_toArray, List.set_cons_zero, List.set_cons_succ, List.getElem_toArray, List.getElem_cons_succ, List.getElem_cons_zero])
        refine wpAnyH_ready (rs := [1]) (by kernel_rfl) (by simp) ?_
        refine AllReadyH.cons (o := _) rfl (fun K hK => ?_) AllReadyH.nil
        (go_simp; refine (CB.out _ P1.out.drew).mono ?_; rintro e W2 ⟨rfl, p2⟩; have q2 := HQH.out _ _ p2; have P2 := Lib.hid p2; clear p2; try go_simp)
        refine hK.out _ _ q2 (fun hHeld => ?_)
        clear hK K
        (try simp only [Act.put, List.setIfInBounds_toArray, List.set_cons_zero, List.set_cons_succ, List.getElem_toArray, List.getElem_cons_succ, List.getElem_cons_zero])
        refine wpAnyH_take (i := 6) (oi := _) (v := ?_) rfl (by kernel_rfl) (by kernel_rfl) (by kernel_rfl) (fun _ _ _ h => h) (Or.inl ⟨by rfl, ?_⟩) (by assumption) ?_
        rotate_left
        focus (intro w' hSw; (try dsimp only at hSw); go_simp; try with_reducible rfl)
        (try simp only [Act.put, List.setIfInBounds_toArray, List.set_cons_zero, List.set_cons_succ, List.getElem_toArray, List.getElem_cons_succ, List.getElem_cons_zero])
        refine wpAnyH_take (i := 7) (oi := _) (v := ?_) rfl (by kernel_rfl) (by kernel_rfl) (by kernel_rfl) (fun _ _ _ h => h) (Or.inl ⟨by rfl, ?_⟩) (by assumption) ?_
        rotate_left
        focus (intro w' hSw; (try dsimp only at hSw); go_simp; try with_reducible rfl)
        (try simp only [Act.put, List.setIfInBounds_toArray, List.set_cons_zero, List.set_cons_succ, List.getElem_toArray, List.getElem_cons_succ, List.getElem_cons_zero])
        refine wpAnyH_take (i := 8) (oi := _) (v := undef) rfl (by kernel_rfl) (by kernel_rfl) (by kernel_rfl) (fun _ _ _ h => h) (Or.inr ⟨by rfl, rfl⟩) (by assumption) ?_
        (try simp only [Act.put, List.setIfInBounds_toArray, List.set_cons_zero, List.set_cons_succ, List.getElem_toArray, List.getElem_cons_succ, List.getElem_cons_zero])
        refine wpAnyH_ready (rs := [9]) (by kernel_rfl) (by simp) ?_
        refine AllReadyH.cons (o := _) rfl (fun K hK => ?_) AllReadyH.nil
        go_simp
        refine hK.out _ _ q2 (fun hHeld => ?_)
        clear hK K
        (try simp only [Act.put, List.setIfInBounds_toArray, List.set_cons_zero, List.set_cons_succ, List.getElem_toArray, List.getElem_cons_succ, List.getElem_cons_zero])
        refine wpAnyH_take (i := 10) (oi := _) (v := ?_) rfl (by kernel_rfl) (by kernel_rfl) (by kernel_rfl) (fun _ _ _ h => h) (Or.inl ⟨by rfl, ?_⟩) (by assumption) ?_
        rotate_left
        focus (intro w' hSw; (try dsimp only at hSw); go_simp; try with_reducible rfl)
        (try simp only [Act.put, List.setIfInBounds_toArray, List.set_cons_zero, List.set_cons_succ, List.getElem_toArray, List.getElem_cons_succ, List.getElem_cons_zero])
        refine wpAnyH_done (by kernel_rfl) ?_ _
        go_wp2_with fail
        go_roundw
        case rel => exact ⟨i + 1, by go_num, by omega, by rw [HNX.out]; exact P2.out⟩
        case measure => simp [intOf]; omega
      · have hb1 : ((X : Int) == (C : Int)) = false := by simp; omega
        have hb2 : ((X : Int) != (C : Int)) = true := by simp [bne, hb1]
        cases hok : s2.ok with
        | true =>
          have HNX : Hid (hq l (i + 1) = { s2 with bad := true }) := by show _ = _; rw [HST.out, HHS.out, if_pos ⟨hXC, hok⟩]
          rw [hok] at CK
          clear hXC hok
          go_upto_region 6 with fail
          refine wp_region_held_drew (S := (fun w' => w'.cell? ⟨w.heap.size + 1 + 1, i, none⟩ = some (.int .u8 (C : Nat)))) (by kernel_rfl) hq0 (fun hHeld => ?_)
          refine wpAnyH_take (i := 0) (oi := _) (v := ?_) rfl (by kernel_rfl) (by kernel_rfl) (by kernel_rfl) (fun _ _ _ h => h) (Or.inl ⟨by rfl, ?_⟩) (by assumption) ?_
          rotate_left
          focus (intro w' hSw; (try dsimp only at hSw); go_simp; try with_reducible rfl)
          (try simp only [Act.put, List.setIfInBounds_toArray, List.set_cons_zero, List.set_cons_succ, List.getElem_toArray, List.getElem_cons_succ, List.getElem_cons_zero])
          refine wpAnyH_take (i := 2) (oi := _) (v := ?_) rfl (by kernel_rfl) (by kernel_rfl) (by kernel_rfl) (fun _ _ _ h => h) (Or.inl ⟨by rfl, ?_⟩) (by assumption) ?_
          rotate_left
          focus (intro w' hSw; (try dsimp only at hSw); go_simp; try with_reducible rfl)
          (try simp only [Act.put, List.setIfInBounds_toArray, List.set_cons_zero, List.set_cons_succ, List.getElem_toArray, List.getElem_cons_succ, List.getElem_cons_zero])
          refine wpAnyH_take (i := 3) (oi := _) (v := ?_) rfl (by kernel_rfl) (by kernel_rfl) (by kernel_rfl) (fun _ _ _ h => h) (Or.inl ⟨by rfl, ?_⟩) (by assumption) ?_
          rotate_left
          focus (intro w' hSw; (try dsimp only at hSw); go_simp; try with_reducible rfl)
          (try simp only [Act.put, List.setIfInBounds_toArray, List.set_cons_zero, List.set_cons_succ, List.getElem_toArray, List.getElem_cons_succ, List.getElem_cons_zero])
          refine wpAnyH_take (i := 4) (oi := _) (v := ?_) rfl (by kernel_rfl) (by kernel_rfl) (by kernel_rfl) (fun _ _ _ h => h) (Or.inl ⟨by rfl, ?_⟩) (by assumption) ?_
          rotate_left
          focus (intro w' hSw; (try dsimp only at hSw); go_simp; try with_reducible rfl)
          (try simp only [Act.put, List.setIfInBounds_toArray, List.set_cons_zero, List.set_cons_succ, List.getElem_toArray, List.getElem_cons_succ, List.getElem_cons_zero])
          refine wpAnyH_take (i := 5) (oi := _) (v := ?_) rfl (by kernel_rfl) (by kernel_rfl) (by kernel_rfl) (fun _ _ _ h => h) (Or.inl ⟨by rfl, ?_⟩) (by assumption) ?_
          rotate_left
          focus (intro w' hSw; (try dsimp only at hSw); go_simp; try with_reducible rfl)
          (try simp only [Act.put, List.setIfInBounds_toArray, List.set_cons_zero, List.set_cons_succ, List.getElem_toArray, List.getElem_cons_succ, List.getElem_cons_zero])
          refine wpAnyH_ready (rs := [1]) (by kernel_rfl) (by simp) ?_
          refine AllReadyH.cons (o := _) rfl (fun K hK => ?_) AllReadyH.nil
          (go_simp; refine (CB.out _ P1.out.drew).mono ?_; rintro e W2 ⟨rfl, p2⟩; have q2 := HQH.out _ _ p2; have P2 := Lib.hid p2; clear p2; try go_simp)
          refine hK.out _ _ q2 (fun hHeld => ?_)
          clear hK K
          (try simp only [Act.put, List.setIfInBounds_toArray, List.set_cons_zero, List.set_cons_succ, List.getElem_toArray, List.getElem_cons_succ, List.getElem_cons_zero])
          refine wpAnyH_take (i := 6) (oi := _) (v := ?_) rfl (by kernel_rfl) (by kernel_rfl) (by kernel_rfl) (fun _ _ _ h => h) (Or.inl ⟨by rfl, ?_⟩) (by assumption) ?_
          rotate_left
          focus (intro w' hSw; (try dsimp only at hSw); go_simp; try with_reducible rfl)
          (try simp only [Act.put, List.setIfInBounds_toArray, List.set_cons_zero, List.set_cons_succ, List.getElem_toArray, List.getElem_cons_succ, List.getElem_cons_zero])
          refine wpAnyH_take (i := 7) (oi := _) (v := ?_) rfl (by kernel_rfl) (by kernel_rfl) (by kernel_rfl) (fun _ _ _ h => h) (Or.inl ⟨by rfl, ?_⟩) (by assumption) ?_
          rotate_left
          focus (intro w' hSw; (try dsimp only at hSw); go_simp; try with_reducible rfl)
          (try simp only [Act.put, List.setIfInBounds_toArray, List.set_cons_zero, List.set_cons_succ, List.getElem_toArray, List.getElem_cons_succ, List.getElem_cons_zero])
          refine wpAnyH_take (i := 8) (oi := _) (v := ?_) rfl (by kernel_rfl) (by kernel_rfl) (by kernel_rfl) (fun _ _ _ h => h) (Or.inl ⟨by rfl, ?_⟩) (by assumption) ?_
          rotate_left
          focus (intro w' hSw; (try dsimp only at hSw); go_simp; try with_reducible rfl)
          (try simp only [Act.put, List.setIfInBounds_toArray, List.set_cons_zero, List.set_cons_succ, List.getElem_toArray, List.getElem_cons_succ, List.getElem_cons_zero])
          refine wpAnyH_ready (rs := [9]) (by kernel_rfl) (by simp) ?_
          refine AllReadyH.cons (o := _) rfl (fun K hK => ?_) AllReadyH.nil
          (go_simp; refine (CK.out _ P2.out).mono ?_; rintro e w9 ⟨rfl, rfl⟩; try go_simp)
          refine hK.out _ _ q2 (fun hHeld => ?_)
          clear hK K
          (try simp only [Act.put, List.setIfInBounds_toArray, List.set_cons_zero, List.set_cons_succ, List.getElem_toArray, List.getElem_cons_succ, List.getElem_cons_zero])
          refine wpAnyH_take (i := 10) (oi := _) (v := ?_) rfl (by kernel_rfl) (by kernel_rfl) (by kernel_rfl) (fun _ _ _ h => h) (Or.inl ⟨by rfl, ?_⟩) (by assumption) ?_
          rotate_left
          focus (intro w' hSw; (try dsimp only at hSw); go_simp; try with_reducible rfl)
          (try simp only [Act.put, List.setIfInBounds_toArray, List.set_cons_zero, List.set_cons_succ, List.getElem_toArray, List.getElem_cons_succ, List.getElem_cons_zero])
          refine wpAnyH_done (by kernel_rfl) ?_ _
          obtain ⟨r0, r1, r2, r3, r4, hlr⟩ := P2.out.rb.cells
          have hff := P2.out.rb.free 4
          go_wp2_with fail
          go_roundw
          case rel => exact ⟨i + 1, by go_num, by omega, by rw [HNX.out]; exact P2.out.setBad⟩
          case measure => simp [intOf]; omega
        | false =>
          have HNX : Hid (hq l (i + 1) = s2) := by show _ = _; rw [HST.out, HHS.out, if_neg (by rw [hok]; rintro ⟨-, h⟩; cases h)]
          rw [hok] at CK
          clear hXC hok
          go_upto_region 6 with fail
          refine wp_region_held_drew (S := (fun w' => w'.cell? ⟨w.heap.size + 1 + 1, i, none⟩ = some (.int .u8 (C : Nat)))) (by kernel_rfl) hq0 (fun hHeld => ?_)
          refine wpAnyH_take (i := 0) (oi := _) (v := ?_) rfl (by kernel_rfl) (by kernel_rfl) (by kernel_rfl) (fun _ _ _ h => h) (Or.inl ⟨by rfl, ?_⟩) (by assumption) ?_
          rotate_left
          focus (intro w' hSw; (try dsimp only at hSw); go_simp; try with_reducible rfl)
          (try simp only [Act.put, List.setIfInBounds_toArray, List.set_cons_zero, List.set_cons_succ, List.getElem_toArray, List.getElem_cons_succ, List.getElem_cons_zero])
          refine wpAnyH_take (i := 2) (oi := _) (v := ?_) rfl (by kernel_rfl) (by kernel_rfl) (by kernel_rfl) (fun _ _ _ h => h) (Or.inl ⟨by rfl, ?_⟩) (by assumption) ?_
          rotate_left
          focus (intro w' hSw; (try dsimp only at hSw); go_simp; try with_reducible rfl)
          (try simp only [Act.put, List.setIfInBounds_toArray, List.set_cons_zero, List.set_cons_succ, List.getElem_toArray, List.getElem_cons_succ, List.getElem_cons_zero])
          refine wpAnyH_take (i := 3) (oi := _) (v := ?_) rfl (by kernel_rfl) (by kernel_rfl) (by kernel_rfl) (fun _ _ _ h => h) (Or.inl ⟨by rfl, ?_⟩) (by assumption) ?_
          rotate_left
          focus (intro w' hSw; (try dsimp only at hSw); go_simp; try with_reducible rfl)
          (try simp only [Act.put, List.setIfInBounds_toArray, List.set_cons_zero, List.set_cons_succ, List.getElem_toArray, List.getElem_cons_succ, List.getElem_cons_zero])
          refine wpAnyH_take (i := 4) (oi := _) (v := ?_) rfl (by kernel_rfl) (by kernel_rfl) (by kernel_rfl) (fun _ _ _ h => h) (Or.inl ⟨by rfl, ?_⟩) (by assumption) ?_
          rotate_left
          focus (intro w' hSw; (try dsimp only at hSw); go_simp; try with_reducible rfl)
          (try simp only [Act.put, List.setIfInBounds_toArray, List.set_cons_zero, List.set_cons_succ, List.getElem_toArray, List.getElem_cons_succ, List.getElem_cons_zero])
          refine wpAnyH_take (i := 5) (oi := _) (v := ?_) rfl (by kernel_rfl) (by kernel_rfl) (by kernel_rfl) (fun _ _ _ h => h) (Or.inl ⟨by rfl, ?_⟩) (by assumption) ?_
          rotate_left
          focus (intro w' hSw; (try dsimp only at hSw); go_simp; try with_reducible rfl)
          (try simp only [Act.put, List.setIfInBounds_toArray, List.set_cons_zero, List.set_cons_succ, List.getElem_toArray, List.getElem_cons_succ, List.getElem_cons_zero])
          refine wpAnyH_ready (rs := [1]) (by kernel_rfl) (by simp) ?_
          refine AllReadyH.cons (o := _) rfl (fun K hK => ?_) AllReadyH.nil
          (go_simp; refine (CB.out _ P1.out.drew).mono ?_; rintro e W2 ⟨rfl, p2⟩; have q2 := HQH.out _ _ p2; have P2 := Lib.hid p2; clear p2; try go_simp)
          refine hK.out _ _ q2 (fun hHeld => ?_)
          clear hK K
          (try simp only [Act.put, List.setIfInBounds_toArray, List.set_cons_zero, List.set_cons_succ, List.getElem_toArray, List.getElem_cons_succ, List.getElem_cons_zero])
          refine wpAnyH_take (i := 6) (oi := _) (v := ?_) rfl (by kernel_rfl) (by kernel_rfl) (by kernel_rfl) (fun _ _ _ h => h) (Or.inl ⟨by rfl, ?_⟩) (by assumption) ?_
          rotate_left
          focus (intro w' hSw; (try dsimp only at hSw); go_simp; try with_reducible rfl)
          (try simp only [Act.put, List.setIfInBounds_toArray, List.set_cons_zero, List.set_cons_succ, List.getElem_toArray, List.getElem_cons_succ, List.getElem_cons_zero])
          refine wpAnyH_take (i := 7) (oi := _) (v := ?_) rfl (by kernel_rfl) (by kernel_rfl) (by kernel_rfl) (fun _ _ _ h => h) (Or.inl ⟨by rfl, ?_⟩) (by assumption) ?_
          rotate_left
          focus (intro w' hSw; (try dsimp only at hSw); go_simp; try with_reducible rfl)
          (try simp only [Act.put, List.setIfInBounds_toArray, List.set_cons_zero, List.set_cons_succ, List.getElem_toArray, List.getElem_cons_succ, List.getElem_cons_zero])
          refine wpAnyH_take (i := 8) (oi := _) (v := ?_) rfl (by kernel_rfl) (by kernel_rfl) (by kernel_rfl) (fun _ _ _ h => h) (Or.inl ⟨by rfl, ?_⟩) (by assumption) ?_
          rotate_left
          focus (intro w' hSw; (try dsimp only at hSw); go_simp; try with_reducible rfl)
          (try simp only [Act.put, List.setIfInBounds_toArray, List.set_cons_zero, List.set_cons_succ, List.getElem_toArray, List.getElem_cons_succ, List.getElem_cons_zero])
          refine wpAnyH_ready (rs := [9]) (by kernel_rfl) (by simp) ?_
          refine AllReadyH.cons (o := _) rfl (fun K hK => ?_) AllReadyH.nil
          (go_simp; refine (CK.out _ P2.out).mono ?_; rintro e w9 ⟨rfl, rfl⟩; try go_simp)
          refine hK.out _ _ q2 (fun hHeld => ?_)
          clear hK K
          (try simp only [Act.put, List.setIfInBounds_toArray, List.set_cons_zero, List.set_cons_succ, List.getElem_toArray, List.getElem_cons_succ, List.getElem_cons_zero])
          refine wpAnyH_take (i := 10) (oi := _) (v := ?_) rfl (by kernel_rfl) (by kernel_rfl) (by kernel_rfl) (fun _ _ _ h => h) (Or.inl ⟨by rfl, ?_⟩) (by assumption) ?_
          rotate_left
          focus (intro w' hSw; (try dsimp only at hSw); go_simp; try with_reducible rfl)
          (try simp only [Act.put, List.setIfInBounds_toArray, List.set_cons_zero, List.set_cons_succ, List.getElem_toArray, List.getElem_cons_succ, List.getElem_cons_zero])
          refine wpAnyH_done (by kernel_rfl) ?_ _
          go_wp2_with fail
          go_roundw
          case rel => exact ⟨i + 1, by go_num, by omega, by rw [HNX.out]; exact P2.out⟩
          case measure => simp [intOf]; omega
end Go.Proofs.YtmncpbfghabamaaDoor
