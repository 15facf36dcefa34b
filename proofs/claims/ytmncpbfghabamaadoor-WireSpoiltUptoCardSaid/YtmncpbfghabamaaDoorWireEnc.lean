/- WIRE: the program's Datum, the reference's Datum. -/
import Derived.Test.YtmncpbfghabamaaDoorWirePut
import Derived.Test.YtmncpbfghabamaaDoorWireRead
namespace Go.Proofs.YtmncpbfghabamaaDoor
open Go Go.RowKit
attribute [local go_sem ↓] Go.wp_at_zero Go.wp_at_succ

/-- a row of bytes is answered -/
def BPost (l : List UInt8) (w : World) (r : Ending) (W' : World) : Prop := ∃ v, r = .returned v ∧ Row W' w.heap.size v l ∧ Below w.heap.size w W'
set_option maxHeartbeats 1000000 in
theorem wdatum_top (k : Nat) (w : World) (kd di db : Int) (ds : ByteArray) (p : Option Addr) (n cap : Nat) (ps : List Dv) (hd : DvIs w k [.int .i64 kd, .int .i64 di, .int .u64 db, .string ds, .slice p n cap] (.mk kd di db ds ps)) (hl : (enc (.mk kd di db ds ps)).length ≤ 100000000) :
    Calls Tryd.prog 11 #[.agg #[.int .i64 kd, .int .i64 di, .int .u64 db, .string ds, .slice p n cap]] w (BPost (enc (.mk kd di db ds ps)) w) := by
  obtain ⟨PP, hPP⟩ : ∃ PP, BPost (enc (.mk kd di db ds ps)) w = PP := ⟨_, rfl⟩
  rw [hPP]
  have HPP := Lib.hid hPP
  have HD := Lib.hid hd
  clear hPP hd
  go_enter Tryd.func11, Tryd.ntmps11
  go_wp2_with fail
  have HB : Hid (Below w.heap.size w ((w.alloc (.cells #[.int .i64 kd, .int .i64 di, .int .u64 db, .string ds, .slice p n cap] 25)).alloc (.cells #[.slice none 0 0] 67))) := ((Below.refl _ _).alloc (Nat.le_refl _) _).alloc (by simp) _
  have HX : Hid (Boxed ((w.alloc (.cells #[.int .i64 kd, .int .i64 di, .int .u64 db, .string ds, .slice p n cap] 25)).alloc (.cells #[.slice none 0 0] 67)) (w.heap.size + 1) 67 (.slice none 0 0)) := by
    have h := heap_alloc_new (w.alloc (.cells #[.int .i64 kd, .int .i64 di, .int .u64 db, .string ds, .slice p n cap] 25)) (.cells #[.slice none 0 0] 67)
    rw [World.size_alloc] at h
    exact h
  refine (datum_any k w _ (w.heap.size + 1) (.slice none 0 0) [] kd di db ds p n cap ps HD.out HB.out (by omega) HX.out (World.ownsRow_nil _ _ _ _) (by simpa using hl)).mono ?_
  rintro e W1 ⟨v', rfl, h1, h2, h3⟩
  have H2 := Lib.hid h2
  have H3 := Lib.hid (h3.below HB.out (by simp; omega) (fun k e => by injection e with e; omega) (fun k e => by simp [Value.ownBlock] at e))
  obtain ⟨q, m, c, rfl⟩ := row_val h2
  have hc := h1.cell
  have hlt := h1.lt
  clear h1 h2 h3
  go_wp2_with fail
  rw [← HPP.out]
  exact ⟨_, rfl, H2.out, H3.out⟩
set_option maxHeartbeats 1000000 in
theorem rdatum_top (k : Nat) (w : World) (kd di db : Int) (ds : ByteArray) (p : Option Addr) (n cap : Nat) (ps : List Dv) (hd : DvIs w k [.int .i64 kd, .int .i64 di, .int .u64 db, .string ds, .slice p n cap] (.mk kd di db ds ps)) (hr : (Dv.mk kd di db ds ps).Right) (hl : (enc (.mk kd di db ds ps)).length ≤ 100000000) :
    Calls Tryd.prog 12 #[.agg #[.int .i64 kd, .int .i64 di, .int .u64 db, .string ds, .slice p n cap]] w (BPost (enc (.mk kd di db ds ps)) w) := by
  obtain ⟨PP, hPP⟩ : ∃ PP, BPost (enc (.mk kd di db ds ps)) w = PP := ⟨_, rfl⟩
  rw [hPP]
  have HPP := Lib.hid hPP
  have HD := Lib.hid hd
  have HR := Lib.hid hr
  clear hPP hd hr
  go_enter Tryd.func12, Tryd.ntmps12
  go_wp2_with fail
  have HB : Hid (Below w.heap.size w (w.alloc (.cells #[.int .i64 kd, .int .i64 di, .int .u64 db, .string ds, .slice p n cap] 25))) := (Below.refl _ _).alloc (Nat.le_refl _) _
  refine (put_any k w _ (.slice none 0 0) [] kd di db ds p n cap ps HD.out HB.out (World.ownsRow_nil _ _ _ _) HR.out (by simpa using hl)).mono ?_
  rintro e W1 ⟨v', rfl, h2, h3⟩
  have H2 := Lib.hid h2
  have H3 := Lib.hid (h3.below HB.out (by simp) (fun k e => by cases e) (fun k e => by simp [Value.ownBlock] at e))
  obtain ⟨q, m, c, rfl⟩ := row_val h2
  clear h2 h3
  go_wp2_with fail
  rw [← HPP.out]
  exact ⟨_, rfl, H2.out, H3.out⟩
end Go.Proofs.YtmncpbfghabamaaDoor
