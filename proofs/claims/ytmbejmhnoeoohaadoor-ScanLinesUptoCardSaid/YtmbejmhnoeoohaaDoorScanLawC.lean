/- the law ScanLines, walked. -/
import Derived.Test.YtmbejmhnoeoohaaDoorScanLineB
import Derived.Test.YtmbejmhnoeoohaaDoorScanAwake
namespace Go.Proofs.YtmbejmhnoeoohaaDoor
open Go Go.RowKit

theorem scanLines_any (p : Option Addr) (n cap : Nat) (l : List UInt8) (pos : Int) (w : World) (hVp : Bs w (.slice p n cap) l ∧ (p = none → cap = 0)) (hl : l.length ≤ 1048576) (hE : Env w) :
    Calls Tryd.prog 8 #[.slice p n cap, .int .i64 pos] w fun e w' => e = .returned (.bool true) ∧ Below w.heap.size w w' := by
  obtain ⟨hV, hp⟩ := hVp
  obtain ⟨m, hm, hM⟩ : ∃ m : Nat, m ≤ l.length ∧ (m : Int) = min (max pos 0) l.length := ⟨(min (max pos 0) l.length).toNat, by omega, by omega⟩
  have C1 := Lib.hid (line_any p n cap l pos m w hV hp (by omega) hm hM)
  have C2 : Hid (∀ w1, Below w.heap.size w w1 → Calls Tryd.prog 21 #[.slice p n cap, .int .i64 pos] w1 (LinePost w1 l m)) := fun w1 hb => refLine_any _ l pos m w1 (hV.below hb) (by omega) hm hM
  have HE := Lib.hid hE
  clear hE hV hM hp
  go_enter Tryd.func8, Tryd.ntmps8
  go_wp2_with fail
  refine C1.out.mono ?_
  rintro e w1 ⟨rfl, hb1⟩
  go_wp2_with fail
  refine (C2.out _ hb1).mono ?_
  rintro e w2 ⟨rfl, hb2⟩
  have hb12 := hb1.trans (hb2.mono hb1.size)
  have HE2 := Lib.hid (HE.out.below hb12)
  clear hb1 hb2
  go_wp2_with fail
  refine (awake_any _ HE2.out).mono ?_
  rintro e w3 ⟨rfl, hb3⟩
  go_wp2
  go_ret
  exact ⟨rfl, hb12.trans (hb3.mono hb12.size)⟩
end Go.Proofs.YtmbejmhnoeoohaaDoor
