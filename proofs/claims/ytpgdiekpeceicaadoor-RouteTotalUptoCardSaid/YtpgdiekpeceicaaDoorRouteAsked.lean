/- ROUTE: route.asked. -/
import Derived.Test.YtpgdiekpeceicaaDoorRouteTyped
import Derived.Test.YtpgdiekpeceicaaDoorTopicLib
namespace Go.Proofs.YtpgdiekpeceicaaDoor
open Go Go.RowKit

/-- what a route says -/
def askV (mt ty el : Bool) : Value :=
  if mt then (if ty then .iface 64 (.agg #[.bool el]) else .iface 62 (.agg #[.string ⟨#[116, 121, 112, 101]⟩])) else .iface 62 (.agg #[.string ⟨#[116, 111, 112, 105, 99]⟩])
def AskPost (w : World) (v : Value) (r : Ending) (w' : World) : Prop := r = .returned v ∧ Below w.heap.size w w'

set_option maxHeartbeats 8000000 in
theorem asked_any (k : Nat) (t : Wt) (w : World) (op num : Int) (p : Option Addr) (n cap : Nat) (hW : WtIs w k [.int .i64 op, .int .i64 num, .slice p n cap] t) (hF : OkW k t) (fi : ByteArray) (hd : Int) (el : Bool)
    (dk : Nat) (hdk : dk < 14) (di : Int) (db : Int) (ds : ByteArray) (q : Option Addr) (m c : Nat) (id : Int) (tp : ByteArray) (at_ un : Int) (rp : ByteArray) (co pr hp : Int)
    (hf : fi.size ≤ 1048576) (htp : tp.size ≤ 1048576) (hT : Tabs w) :
    Calls Tryd.prog 29 #[.agg #[.string fi, .int .i64 op, .int .i64 num, .slice p n cap, .int .i64 hd, .bool el], .agg #[.int .i64 id, .string tp, .int .i64 (dk : Nat), .int .i64 di, .int .u64 db, .string ds, .slice q m c, .int .i64 at_, .int .i64 un, .string rp, .int .i64 co, .int .i64 pr, .int .i64 hp]] w (AskPost w (askV (matchB fi tp) (typedB k t dk) el)) := by
  have CM : Hid (∀ W, Below w.heap.size w W → Calls Tryd.prog 39 #[.string fi, .string tp] W (HoldPost W (matchB fi tp))) := fun W hb => match_any indexByte_said valid_said contains_said dollar_said fi tp W hf htp (hT.below hb)
  have CH : Hid (FitF k t → ∀ W, Below w.heap.size w W → Calls Tryd.prog 40 #[.agg #[.int .i64 op, .int .i64 num, .slice p n cap], .agg #[.int .i64 (dk : Nat), .int .i64 di, .int .u64 db, .string ds, .slice q m c]] W (HoldPost W (bit (KnF k t) dk))) :=
    fun hF W hb => holds_any k t W op num p n cap (hW.below hb) hF dk hdk di db ds q m c
  obtain ⟨PP, hPP⟩ : ∃ PP, AskPost w (askV (matchB fi tp) (typedB k t dk) el) = PP := ⟨_, rfl⟩
  rw [hPP]
  have HPP := Lib.hid hPP
  clear hPP
  have HW := Lib.hid hW
  have HB : Hid (Below w.heap.size w ((w.alloc (.cells #[.string fi, .int .i64 op, .int .i64 num, .slice p n cap, .int .i64 hd, .bool el] 42)).alloc (.cells #[.int .i64 id, .string tp, .int .i64 (dk : Nat), .int .i64 di, .int .u64 db, .string ds, .slice q m c, .int .i64 at_, .int .i64 un, .string rp, .int .i64 co, .int .i64 pr, .int .i64 hp] 28))) := ((Below.refl _ _).alloc (Nat.le_refl _) _).alloc (by simp) _
  have c0 : Hid (∀ W, Below (w.heap.size + 2) ((w.alloc (.cells #[.string fi, .int .i64 op, .int .i64 num, .slice p n cap, .int .i64 hd, .bool el] 42)).alloc (.cells #[.int .i64 id, .string tp, .int .i64 (dk : Nat), .int .i64 di, .int .u64 db, .string ds, .slice q m c, .int .i64 at_, .int .i64 un, .string rp, .int .i64 co, .int .i64 pr, .int .i64 hp] 28)) W → W.cell? ⟨w.heap.size, 1, none⟩ = some (.int .i64 op) ∧ W.cell? ⟨w.heap.size, 2, none⟩ = some (.int .i64 num) ∧ W.cell? ⟨w.heap.size, 3, none⟩ = some (.slice p n cap) ∧ W.cell? ⟨w.heap.size, 5, none⟩ = some (.bool el)) := fun W hb =>
    ⟨by rw [hb.cell (by simp)]; go_simp, by rw [hb.cell (by simp)]; go_simp, by rw [hb.cell (by simp)]; go_simp, by rw [hb.cell (by simp)]; go_simp⟩
  have d0 : Hid (∀ W, Below (w.heap.size + 2) ((w.alloc (.cells #[.string fi, .int .i64 op, .int .i64 num, .slice p n cap, .int .i64 hd, .bool el] 42)).alloc (.cells #[.int .i64 id, .string tp, .int .i64 (dk : Nat), .int .i64 di, .int .u64 db, .string ds, .slice q m c, .int .i64 at_, .int .i64 un, .string rp, .int .i64 co, .int .i64 pr, .int .i64 hp] 28)) W → W.cell? ⟨w.heap.size + 1, 2, none⟩ = some (.int .i64 (dk : Nat)) ∧ W.cell? ⟨w.heap.size + 1, 3, none⟩ = some (.int .i64 di) ∧ W.cell? ⟨w.heap.size + 1, 4, none⟩ = some (.int .u64 db) ∧ W.cell? ⟨w.heap.size + 1, 5, none⟩ = some (.string ds) ∧ W.cell? ⟨w.heap.size + 1, 6, none⟩ = some (.slice q m c)) := fun W hb =>
    ⟨by rw [hb.cell (by simp)]; go_simp, by rw [hb.cell (by simp)]; go_simp, by rw [hb.cell (by simp)]; go_simp, by rw [hb.cell (by simp)]; go_simp, by rw [hb.cell (by simp)]; go_simp⟩
  generalize matchB fi tp = M at *
  cases M
  · clear hW hT CH
    go_enter Tryd.func29, Tryd.ntmps29
    go_wp2_with fail
    refine (CM.out _ HB.out).mono ?_
    rintro r' W ⟨rfl, hb2⟩
    have HB2 := Lib.hid (HB.out.trans (hb2.mono HB.out.size))
    clear hb2
    go_wp2_with fail
    rw [← HPP.out]
    exact ⟨rfl, HB2.out⟩
  · rcases hF with hF | hF
    · obtain ⟨rfl, rfl, rfl⟩ := HW.out.zero hF
      subst hF
      clear hW hT CH
      go_enter Tryd.func29, Tryd.ntmps29
      go_wp2_with fail
      refine (CM.out _ HB.out).mono ?_
      rintro r' W ⟨rfl, hb2⟩
      have HB2 := Lib.hid (HB.out.trans (hb2.mono HB.out.size))
      obtain ⟨c1, c2, c3, c5⟩ := c0.out W (by simpa using hb2)
      clear hb2
      go_wp2_with fail
      rw [← HPP.out]
      exact ⟨rfl, HB2.out⟩
    · have hop := hF.op
      rw [HW.out.op] at hop
      have htb : typedB k t dk = bit (KnF k t) dk := by unfold typedB; rw [HW.out.op]; simp [hop]
      rw [htb] at HPP
      have CH2 := Lib.hid (CH.out hF)
      generalize bit (KnF k t) dk = B at *
      clear hW hT CH htb hF
      have hopb : (op != 0) = true := by simp [hop]
      go_enter Tryd.func29, Tryd.ntmps29
      go_wp2_with fail
      refine (CM.out _ HB.out).mono ?_
      rintro r' W ⟨rfl, hb2⟩
      have HB2 := Lib.hid (HB.out.trans (hb2.mono HB.out.size))
      have HR := Lib.hid hb2
      obtain ⟨c1, c2, c3, c5⟩ := c0.out W (by simpa using hb2)
      obtain ⟨d2, d3, d4, d5, d6⟩ := d0.out W (by simpa using hb2)
      clear hb2
      go_wp2_with fail
      refine (CH2.out _ HB2.out).mono ?_
      rintro r' W3 ⟨rfl, hb3⟩
      have HB3 := Lib.hid (HB2.out.trans (hb3.mono HB2.out.size))
      obtain ⟨e1, e2, e3, e5⟩ := c0.out W3 (by have h := HR.out.trans (hb3.mono HR.out.size); simpa using h)
      clear hb3 c1 c2 c3 c5 d2 d3 d4 d5 d6
      cases B
      · go_wp2_with fail
        rw [← HPP.out]
        exact ⟨rfl, HB3.out⟩
      · go_wp2_with fail
        rw [← HPP.out]
        exact ⟨rfl, HB3.out⟩
end Go.Proofs.YtpgdiekpeceicaaDoor
