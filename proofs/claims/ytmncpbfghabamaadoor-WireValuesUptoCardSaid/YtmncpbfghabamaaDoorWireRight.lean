/- WIRE: conduitref01.right, Valid, exactly. -/
import Derived.Test.YtmncpbfghabamaaDoorWireCnt
namespace Go.Proofs.YtmncpbfghabamaaDoor
open Go Go.RowKit

def FairV (kd di db : Int) (ds : ByteArray) (n : Nat) : Prop :=
  0 ≤ kd ∧ kd < 14 ∧ ds.size ≤ 65535 ∧ (kd = 1 ∨ kd = 2 ∨ kd = 6 ∨ kd = 10 ∨ kd = 11 ∨ di = 0) ∧ (kd = 3 ∨ db = 0) ∧ (kd = 4 ∨ kd = 5 ∨ kd = 7 ∨ kd = 10 ∨ ds = ⟨#[]⟩) ∧
  (kd = 6 → di = 0 ∨ di = 1) ∧ (kd = 11 → 1 ≤ di) ∧ (kd = 8 ∨ (kd = 9 ∧ n = 2) ∨ (kd = 11 ∧ n = 1) ∨ (kd ≠ 9 ∧ kd ≠ 11 ∧ n = 0))
mutual
def Dv.Fair : Dv → Prop
  | .mk kd di db ds l => FairV kd di db ds l.length ∧ Fairs l
def Fairs : List Dv → Prop
  | [] => True
  | t :: r => t.Fair ∧ Fairs r
end
theorem fairs_append : ∀ (a b : List Dv), Fairs (a ++ b) ↔ Fairs a ∧ Fairs b
  | [], b => by simp [Fairs]
  | t :: r, b => by simp [Fairs, fairs_append r b, and_assoc]
theorem fairs_next {ps : List Dv} {j : Nat} {t : Dv} (h : ps[j]? = some t) : (Fairs (ps.take (j + 1)) ↔ Fairs (ps.take j) ∧ t.Fair) ∧ (Fairs ps → t.Fair) := by
  have e : Fairs (ps.take (j + 1)) ↔ Fairs (ps.take j) ∧ t.Fair := by rw [List.take_add_one, h, fairs_append]; simp [Fairs]
  refine ⟨e, fun hf => ?_⟩
  rw [← List.take_append_drop (j + 1) ps, fairs_append] at hf
  exact (e.1 hf.1).2
def FairPost (t : Dv) (w : World) (r : Ending) (w' : World) : Prop := ∃ b : Bool, r = .returned (.bool b) ∧ (b = true ↔ t.Fair) ∧ Below w.heap.size w w'
theorem ds_ne {ds : ByteArray} (h : ds ≠ ⟨#[]⟩) : (ds == (⟨#[]⟩ : ByteArray)) = false ∧ (ds != (⟨#[]⟩ : ByteArray)) = true ∧ ¬ ds.toList = [] := by
  have h1 : (ds == (⟨#[]⟩ : ByteArray)) = false := by
    have h2 : ds.data ≠ #[] := fun e => h (by cases ds; simp at e; subst e; rfl)
    show (ds.data == #[]) = false
    simpa using h2
  exact ⟨h1, by simp [bne, h1], fun e => h (by rw [ByteArray.toList_eq] at e; cases ds; simp at e; subst e; rfl)⟩
theorem int_ne {x : Int} (h : x ≠ 0) : (x == 0) = false ∧ (x != 0) = true := by
  have h1 : (x == 0) = false := by simpa using h
  exact ⟨h1, by simp [bne, h1]⟩
def RC (k : Nat) : Prop := ∀ (w : World) (kd di db : Int) (ds : ByteArray) (p : Option Addr) (n cap : Nat) (ps : List Dv), DvIs w k [.int .i64 kd, .int .i64 di, .int .u64 db, .string ds, .slice p n cap] (.mk kd di db ds ps) →
    Calls Tryd.prog 32 #[.agg #[.int .i64 kd, .int .i64 di, .int .u64 db, .string ds, .slice p n cap]] w (FairPost (.mk kd di db ds ps) w)
end Go.Proofs.YtmncpbfghabamaaDoor
