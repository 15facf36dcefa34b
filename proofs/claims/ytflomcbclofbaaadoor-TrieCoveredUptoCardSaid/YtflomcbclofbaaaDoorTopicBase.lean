/- WHAT THE LIBRARY's FUNCTIONS GIVE, AS STATEMENTS: their proofs stand in texts of their own. -/
import Derived.WalkKit
import Derived.Lib.Hide
import Derived.Shelf.Unicode.DecodeSlow
import Derived.Lib.Strings
import Derived.Test.YtflomcbclofbaaaDoorProg
import Derived.Test.YtflomcbclofbaaaDoorTopicPlain
namespace Go.Proofs.YtflomcbclofbaaaDoor
open Go Go.RowKit

/-- unicode/utf8's two tables, as their initialisers lay them -/
def Tabs (w : World) : Prop := Lib.Utf8Tabs 0 1 w

def ValidSaid : Prop := ∀ (s : ByteArray) (w : World), s.size ≤ 9223372036854775807 → Tabs w →
  Calls Tryd.prog 52 #[.string s] w fun e w' => e = .returned (.bool (Lib.validD s.data.toList)) ∧ Below w.heap.size w w'

def IndexByteSaid : Prop := ∀ (s : ByteArray) (c : UInt8) (w : World),
  Calls Tryd.prog 53 #[.string s, .int .u8 c.toNat] w fun e w' => e = .returned (.int .i64 (Lib.indexByte s.data.toList c)) ∧ w = w'

def ContainsSaid : Prop := ∀ (s : ByteArray) (w : World), s.size ≤ 1048576 →
  Calls Tryd.prog 39 #[.string s, .string ⟨#[43, 35]⟩] w fun e w' => e = .returned (.bool (hasB s.data.toList 43 35)) ∧ Below w.heap.size w w'

theorem ret_bool {a b : Bool} (h : a = b) : Ending.returned (.bool a) = .returned (.bool b) := by rw [h]
theorem Tabs.below {w w' : World} (h : Tabs w) (hb : Below w.heap.size w w') : Tabs w' := Utf8Tabs_below h hb
end Go.Proofs.YtflomcbclofbaaaDoor
