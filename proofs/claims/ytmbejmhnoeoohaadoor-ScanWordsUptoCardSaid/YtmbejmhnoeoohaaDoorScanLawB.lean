/- the law ScanWords, walked. -/
import Derived.Test.YtmbejmhnoeoohaaDoorScanRefText
import Derived.Test.YtmbejmhnoeoohaaDoorScanAwake
namespace Go.Proofs.YtmbejmhnoeoohaaDoor
open Go Go.RowKit

theorem scanWords_any (s : ByteArray) (k : Int) (w : World) (hE : Env w) :
    Calls Tryd.prog 4 #[.string s, .int .i64 k] w fun e w' => e = .returned (.bool true) ∧ Below w.heap.size w w' := by
  have C1 : Hid (∀ w, Env w → Calls Tryd.prog 12 #[.string s] w fun e w' => e = .returned (.int .i64 (kindS s.data.toList : Nat)) ∧ w = w') := fun w h => kind_any s w h.1
  have C2 := Lib.hid (fun w => refKind_any s w)
  have C3 : Hid (∀ w, Env w → Calls Tryd.prog 14 #[.int .i64 k] w fun e w' => e = .returned (.string (ba (textS k))) ∧ w = w') := fun w h => text_any k w h.1
  have C4 := Lib.hid (fun w => refText_any k w)
  generalize kindS s.data.toList = n at *
  generalize ba (textS k) = t at *
  have HE := Lib.hid hE
  clear hE
  go_enter Tryd.func4, Tryd.ntmps4
  go_wp2_with fail
  refine (C1.out _ HE.out).mono ?_
  rintro e w1 ⟨rfl, rfl⟩
  go_wp2_with fail
  refine (C2.out _).mono ?_
  rintro e w1 ⟨rfl, hb1⟩
  have HE1 := Lib.hid (HE.out.below hb1)
  go_wp2_with fail
  refine (C3.out _ HE1.out).mono ?_
  rintro e w2 ⟨rfl, rfl⟩
  go_wp2_with fail
  refine (C4.out _).mono ?_
  rintro e w2 ⟨rfl, hb2⟩
  have HE2 := Lib.hid (HE1.out.below hb2)
  have hb12 := hb1.trans (hb2.mono hb1.size)
  clear hb1 hb2
  go_wp2_with fail
  refine (awake_any _ HE2.out).mono ?_
  rintro e w3 ⟨rfl, hb3⟩
  go_wp2
  go_ret
  exact ⟨rfl, hb12.trans (hb3.mono hb12.size)⟩
end Go.Proofs.YtmbejmhnoeoohaaDoor
