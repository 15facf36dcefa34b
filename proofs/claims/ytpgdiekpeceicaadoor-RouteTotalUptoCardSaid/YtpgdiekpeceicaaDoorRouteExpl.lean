/- ROUTE: what is told of the routes (plain); strconv.Itoa. -/
import Derived.Test.YtpgdiekpeceicaaDoorRouteHandR
import Derived.Test.YtpgdiekpeceicaaDoorRouteShelf
import Derived.Lib.ItoaLen
import Derived.Lib.AppendIntMem
namespace Go.Proofs.YtpgdiekpeceicaaDoor
open Go Go.RowKit Go.Shelf

/-- strconv's table of powers -/
def Tab10 (w : World) : Prop := Lib.TabIs Tryd.prog w "internal/strconv.uint64pow10" .u64 Lib.pow10Tab
theorem Tab10.below {w w' : World} (h : Tab10 w) (hb : Below w.heap.size w w') : Tab10 w' := by
  have hgn : Tryd.prog.globalNamed "internal/strconv.uint64pow10" = some 2 := by kernel_rfl
  unfold Tab10 Lib.TabIs World.var? at h ⊢
  rw [hgn] at h ⊢
  simp only [Option.bind_some] at h ⊢
  have hlt : 2 < w.heap.size := by
    rcases Nat.lt_or_ge 2 w.heap.size with h' | h'
    · exact h'
    · rw [Array.getElem?_eq_none h'] at h; cases h
  rw [hb.block _ hlt]
  exact h
def ItoaPost (w : World) (n : Int) (e : Ending) (w' : World) : Prop := ∃ it : ByteArray, e = .returned (.string it) ∧ it.data.toList = Lib.itoa n ∧ it.size ≤ 21 ∧ Below w.heap.size w w'
theorem itoa_any (n : Int) (h0 : -9223372036854775808 ≤ n) (h1 : n ≤ 9223372036854775807) (w : World) (hT : Tab10 w) : Calls Tryd.prog 30 #[.int .i64 n] w (ItoaPost w n) :=
  (Any.strconv_Itoa Tryd.laysMn171 n h0 h1 w hT).mono (by
    rintro e w' ⟨rfl, k, os, rfl⟩
    refine ⟨_, rfl, rfl, ?_, Lib.below_grow _ _ (Nat.le_refl _) _ _⟩
    have := Lib.itoa_length_le n h0 h1
    exact this)

/-- what is told of a route -/
def wordB (k : Nat) (tp : ByteArray) (dk : Nat) (e : Bool) (r : Rt) : List UInt8 :=
  if matchB r.fi tp then (if typedB k r.want dk then (if r.el then (if e then [101, 108, 115, 101] else [115, 112, 97, 114, 101]) else [116, 97, 107, 101, 115]) else [116, 121, 112, 101]) else [116, 111, 112, 105, 99]
theorem wordB_len (k : Nat) (tp : ByteArray) (dk : Nat) (e : Bool) (r : Rt) : (wordB k tp dk e r).length ≤ 5 := by
  unfold wordB; repeat' split
  all_goals simp
def explR (k : Nat) (tp : ByteArray) (dk : Nat) (e : Bool) : Nat → List Rt → List UInt8
  | _, [] => []
  | i, r :: l => Lib.itoa (i : Nat) ++ ([32] ++ (wordB k tp dk e r ++ ([10] ++ explR k tp dk e (i + 1) l)))
theorem explR_drop {k : Nat} {tp : ByteArray} {dk : Nat} {e : Bool} {l : List Rt} {j : Nat} {r : Rt} (h : l[j]? = some r) (i : Nat) :
    explR k tp dk e i (l.drop j) = Lib.itoa (i : Nat) ++ ([32] ++ (wordB k tp dk e r ++ ([10] ++ explR k tp dk e (i + 1) (l.drop (j + 1))))) := by
  obtain ⟨hj, e⟩ := List.getElem?_eq_some_iff.1 h
  rw [List.drop_eq_getElem_cons hj, e]
  rfl
theorem expl_step {k : Nat} {tp : ByteArray} {dk : Nat} {e : Bool} {l : List Rt} {j : Nat} {r : Rt} {sb it : ByteArray} {X : List UInt8} (hr : l[j]? = some r) (hs : X = sb.data.toList ++ explR k tp dk e j (l.drop j)) (hi : it.data.toList = Lib.itoa (j : Nat)) {wd : List UInt8} (hw : wd = wordB k tp dk e r)
    (hsb : sb.size ≤ 64 * j) (hil : it.size ≤ 21) {tot : ByteArray} (ht : tot.data.toList = sb.data.toList ++ (it.data.toList ++ ([32] ++ (wd ++ [10])))) :
    X = tot.data.toList ++ explR k tp dk e (j + 1) (l.drop (j + 1)) ∧ tot.size ≤ 64 * (j + 1) := by
  constructor
  · rw [hs, ht, hi, hw, explR_drop hr]
    simp
  · have h1 := congrArg List.length ht
    have h2 := wordB_len k tp dk e r
    rw [← hw] at h2
    simp at h1
    omega
def StrPost (w : World) (l : List UInt8) (r : Ending) (w' : World) : Prop := ∃ s : ByteArray, r = .returned (.string s) ∧ s.data.toList = l ∧ Below w.heap.size w w'
theorem ta62_other (s : ByteArray) (w : World) : (Instr.typeAssert (.iface 62 (.agg #[.string s])) 20 62 true).run Tryd.prog w = .ok (.tuple #[.agg #[.string s], .bool true]) w := by kernel_rfl
theorem ta62_take (el : Bool) (w : World) : (Instr.typeAssert (.iface 64 (.agg #[.bool el])) 20 62 true).run Tryd.prog w = .ok (.tuple #[.agg #[.string ⟨#[]⟩], .bool false]) w := by kernel_rfl
theorem msg_cells {W : World} {B : Nat} {id : Int} {tp : ByteArray} {dk : Int} {di db : Int} {ds : ByteArray} {q : Option Addr} {m c : Nat} {at_ un : Int} {rp : ByteArray} {co pr hp : Int}
    (h : W.heap[B]? = some (.cells #[.int .i64 id, .string tp, .int .i64 dk, .int .i64 di, .int .u64 db, .string ds, .slice q m c, .int .i64 at_, .int .i64 un, .string rp, .int .i64 co, .int .i64 pr, .int .i64 hp] 28 (0, 0))) :
    W.cell? ⟨B, 0, none⟩ = some (.int .i64 id) ∧ W.cell? ⟨B, 1, none⟩ = some (.string tp) ∧ W.cell? ⟨B, 2, none⟩ = some (.int .i64 dk) ∧ W.cell? ⟨B, 3, none⟩ = some (.int .i64 di) ∧ W.cell? ⟨B, 4, none⟩ = some (.int .u64 db) ∧ W.cell? ⟨B, 5, none⟩ = some (.string ds) ∧ W.cell? ⟨B, 6, none⟩ = some (.slice q m c) ∧
    W.cell? ⟨B, 7, none⟩ = some (.int .i64 at_) ∧ W.cell? ⟨B, 8, none⟩ = some (.int .i64 un) ∧ W.cell? ⟨B, 9, none⟩ = some (.string rp) ∧ W.cell? ⟨B, 10, none⟩ = some (.int .i64 co) ∧ W.cell? ⟨B, 11, none⟩ = some (.int .i64 pr) ∧ W.cell? ⟨B, 12, none⟩ = some (.int .i64 hp) :=
  ⟨cell_of_row W _ 0 _ _ _ h, cell_of_row W _ 1 _ _ _ h, cell_of_row W _ 2 _ _ _ h, cell_of_row W _ 3 _ _ _ h, cell_of_row W _ 4 _ _ _ h, cell_of_row W _ 5 _ _ _ h, cell_of_row W _ 6 _ _ _ h, cell_of_row W _ 7 _ _ _ h, cell_of_row W _ 8 _ _ _ h, cell_of_row W _ 9 _ _ _ h, cell_of_row W _ 10 _ _ _ h, cell_of_row W _ 11 _ _ _ h, cell_of_row W _ 12 _ _ _ h⟩
end Go.Proofs.YtpgdiekpeceicaaDoor
