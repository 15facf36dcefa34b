/- WIRE: WireSums walked. -/
import Derived.Test.YtmncpbfghabamaaDoorWireAwake
namespace Go.Proofs.YtmncpbfghabamaaDoor
open Go Go.RowKit

theorem wireSums_any (p : Option Addr) (len cap : Nat) (l : List UInt8) (w : World) (hB : Bs w (.slice p len cap) l) (hT : Tabs w) :
    Calls Tryd.prog 6 #[.slice p len cap] w (AwPost w) := by
  obtain rfl : len = l.length := hB.len.1
  obtain ⟨PP, hPP⟩ : ∃ PP, AwPost w = PP := ⟨_, rfl⟩
  rw [hPP]
  have HPP := Lib.hid hPP
  have C1 := Lib.hid (sum_any p cap l w hB)
  have C2 := Lib.hid (refSum_any p cap l w hB)
  have CA := Lib.hid (awake_any w hT)
  clear hPP hB hT
  go_enter Tryd.func6, Tryd.ntmps6
  go_wp2_with fail
  refine C1.out.mono ?_
  rintro e w1 ⟨rfl, rfl⟩
  go_wp2_with fail
  refine C2.out.mono ?_
  rintro e w2 ⟨rfl, rfl⟩
  go_wp2_with fail
  refine CA.out.mono ?_
  rintro e w3 ⟨rfl, hb⟩
  have HB := Lib.hid hb
  clear hb
  go_wp2_with fail
  rw [← HPP.out]
  exact ⟨rfl, HB.out⟩
end Go.Proofs.YtmncpbfghabamaaDoor
