/- ROUTE: want.Holds. -/
import Derived.Test.YtpgdiekpeceicaaDoorRouteKindsB
namespace Go.Proofs.YtpgdiekpeceicaaDoor
open Go Go.RowKit

set_option maxHeartbeats 4000000 in
theorem holds_any (k : Nat) (t : Wt) (w : World) (op num : Int) (p : Option Addr) (n cap : Nat) (hW : WtIs w k [.int .i64 op, .int .i64 num, .slice p n cap] t) (hF : FitF k t)
    (dk : Nat) (hdk : dk < 14) (di : Int) (db : Int) (ds : ByteArray) (q : Option Addr) (m c : Nat) :
    Calls Tryd.prog 40 #[.agg #[.int .i64 op, .int .i64 num, .slice p n cap], .agg #[.int .i64 (dk : Nat), .int .i64 di, .int .u64 db, .string ds, .slice q m c]] w (HoldPost w (bit (KnF k t) dk)) := by
  have CK : Hid (∀ W, Below w.heap.size w W → Calls Tryd.prog 51 #[.agg #[.int .i64 op, .int .i64 num, .slice p n cap]] W (MaskPost W (KnF k t))) := fun W hb => kinds_any k t W op num p n cap (hW.below hb) hF
  have hk := KnF_lt k t
  obtain ⟨PP, hPP⟩ : ∃ PP, HoldPost w (bit (KnF k t) dk) = PP := ⟨_, rfl⟩
  rw [hPP]
  have HPP := Lib.hid hPP
  clear hPP hW hF
  generalize KnF k t = M at *
  have hB : Below w.heap.size w ((w.alloc (.cells #[.int .i64 op, .int .i64 num, .slice p n cap] 40)).alloc (.cells #[.int .i64 (dk : Nat), .int .i64 di, .int .u64 db, .string ds, .slice q m c] 26)) := ((Below.refl _ _).alloc (Nat.le_refl _) _).alloc (by simp) _
  have HB := Lib.hid hB
  clear hB
  go_enter Tryd.func40, Tryd.ntmps40
  go_wp2_with fail
  have c0 : Hid (∀ W, Below (w.heap.size + 2) ((w.alloc (.cells #[.int .i64 op, .int .i64 num, .slice p n cap] 40)).alloc (.cells #[.int .i64 (dk : Nat), .int .i64 di, .int .u64 db, .string ds, .slice q m c] 26)) W → W.cell? ⟨w.heap.size + 1, 0, none⟩ = some (.int .i64 (dk : Nat))) := fun W hb => by
    rw [hb.cell (by simp)]
    go_simp
  go_region_with (first | (go_at_call 51; refine (CK.out _ (by exact HB.out.drew)).mono ?_; rintro e1 W1 ⟨rfl, hb1⟩; have HB1 := Lib.hid (HB.out.drew.trans (hb1.mono HB.out.size)); have q0 := c0.out W1 ((Below.refl _ _).drew.trans (by have h2 := hb1; simpa using h2)); clear hb1))
  all_goals
    go_simp
    go_wp2_with fail
    rw [← HPP.out]
    refine ⟨?_, HB1.out⟩
    refine congrArg (fun z => Ending.returned (.bool z)) ?_
    have e1 : ((M : Int) / 2 ^ dk) = ((M / 2 ^ dk : Nat) : Int) := by simp
    rw [e1, show (1 : Int) = ((1 : Nat) : Int) from rfl, u32_and_nat _ _ (Nat.lt_of_le_of_lt (Nat.div_le_self _ _) (by omega)) (by omega), Nat.and_one_is_mod]
    unfold bit
    rcases Nat.mod_two_eq_zero_or_one (M / 2 ^ dk) with e | e <;> rw [e] <;> rfl
end Go.Proofs.YtpgdiekpeceicaaDoor
