/- WIRE: the table of the fields' readers. -/
import Derived.Test.YtmncpbfghabamaaDoorWireFloat
import Derived.MapKept
namespace Go.Proofs.YtmncpbfghabamaaDoor
open Go Go.RowKit

def tabE : List MapEntry := [⟨.int .i64 0, (.func (.func 57) #[] #[]), 0⟩, ⟨.int .i64 12, (.func (.func 57) #[] #[]), 1⟩, ⟨.int .i64 13, (.func (.func 57) #[] #[]), 2⟩, ⟨.int .i64 1, (.func (.func 53) #[] #[]), 3⟩, ⟨.int .i64 2, (.func (.func 53) #[] #[]), 4⟩, ⟨.int .i64 4, (.func (.func 55) #[] #[]), 5⟩, ⟨.int .i64 5, (.func (.func 55) #[] #[]), 6⟩, ⟨.int .i64 7, (.func (.func 55) #[] #[]), 7⟩, ⟨.int .i64 3, (.func (.func 58) #[] #[]), 8⟩, ⟨.int .i64 6, (.func (.func 59) #[] #[]), 9⟩, ⟨.int .i64 10, (.func (.func 60) #[] #[]), 10⟩, ⟨.int .i64 11, (.func (.func 61) #[] #[]), 11⟩, ⟨.int .i64 9, (.func (.func 62) #[] #[]), 12⟩, ⟨.int .i64 8, (.func (.func 63) #[] #[]), 13⟩]
/-- the first n of them -/
def tabN (n : Nat) : Array MapEntry := (tabE.take n).toArray
theorem alloc_set (W : World) (o o' : Obj) : { (W.alloc o) with heap := (W.alloc o).heap.setIfInBounds W.heap.size o' } = W.alloc o' := by
  unfold World.alloc
  simp only
  congr 1
  apply Array.ext_getElem?
  intro i
  rw [Array.getElem?_setIfInBounds]
  by_cases h : W.heap.size = i
  · subst h; simp
  · rw [if_neg h]
    simp only [Array.getElem?_push]
    rw [if_neg (fun e => h e.symm), if_neg (fun e => h e.symm)]
theorem upd_new (W : World) (es : Array MapEntry) (n : Nat) (k : Int) (v : Value) (hf : Instr.findNow (.int .i64) (.int .i64 k) es.toList 0 = some none) :
    (Instr.mapUpdate 76 (.map (some W.heap.size)) (.int .i64 k) v).run Tryd.prog (W.alloc (.map es n)) = .ok () (W.alloc (.map (es.push ⟨.int .i64 k, v, n⟩) (n + 1))) := by
  have hb : (W.alloc (.map es n)).heap[W.heap.size]? = some (.map es n) := heap_alloc_new W _
  have hc : (Instr.checkKey false 10000 3 (.int .i64 k)).run Tryd.prog (W.alloc (.map es n)) = .ok () (W.alloc (.map es n)) := MapKept.run_checkKey (k := .int .i64 k) Tryd.underlying3 (by simp [MapKept.IsKey]) false 9999
  have hg := MapKept.run_getObj_map (P := Tryd.prog) hb
  have hs := MapKept.run_setObj_map (P := Tryd.prog) (.map (es.push ⟨.int .i64 k, v, n⟩) (n + 1)) hb
  rw [alloc_set] at hs
  unfold Instr.mapUpdate Instr.findKey
  simp [Sem.run_bind, run_underlying Tryd.underlying76, run_underlying Tryd.underlying3, Result.andThen, hg, hc, hf, hs]
def Tab (W : World) (Bt : Nat) : Prop := W.heap[Bt]? = some (.map (tabN 14) 14)
theorem upd0 (W : World) : (Instr.mapUpdate 76 (.map (some W.heap.size)) (.int .i64 0) (.func (.func 57) #[] #[])).run Tryd.prog (W.alloc (.map #[] 0)) = .ok () (W.alloc (.map (tabN 1) 1)) := upd_new W #[] 0 0 _ rfl
theorem upd1 (W : World) : (Instr.mapUpdate 76 (.map (some W.heap.size)) (.int .i64 12) (.func (.func 57) #[] #[])).run Tryd.prog (W.alloc (.map (tabN 1) 1)) = .ok () (W.alloc (.map (tabN 2) 2)) := upd_new W (tabN 1) 1 12 _ rfl
theorem upd2 (W : World) : (Instr.mapUpdate 76 (.map (some W.heap.size)) (.int .i64 13) (.func (.func 57) #[] #[])).run Tryd.prog (W.alloc (.map (tabN 2) 2)) = .ok () (W.alloc (.map (tabN 3) 3)) := upd_new W (tabN 2) 2 13 _ rfl
theorem upd3 (W : World) : (Instr.mapUpdate 76 (.map (some W.heap.size)) (.int .i64 1) (.func (.func 53) #[] #[])).run Tryd.prog (W.alloc (.map (tabN 3) 3)) = .ok () (W.alloc (.map (tabN 4) 4)) := upd_new W (tabN 3) 3 1 _ rfl
theorem upd4 (W : World) : (Instr.mapUpdate 76 (.map (some W.heap.size)) (.int .i64 2) (.func (.func 53) #[] #[])).run Tryd.prog (W.alloc (.map (tabN 4) 4)) = .ok () (W.alloc (.map (tabN 5) 5)) := upd_new W (tabN 4) 4 2 _ rfl
theorem upd5 (W : World) : (Instr.mapUpdate 76 (.map (some W.heap.size)) (.int .i64 4) (.func (.func 55) #[] #[])).run Tryd.prog (W.alloc (.map (tabN 5) 5)) = .ok () (W.alloc (.map (tabN 6) 6)) := upd_new W (tabN 5) 5 4 _ rfl
theorem upd6 (W : World) : (Instr.mapUpdate 76 (.map (some W.heap.size)) (.int .i64 5) (.func (.func 55) #[] #[])).run Tryd.prog (W.alloc (.map (tabN 6) 6)) = .ok () (W.alloc (.map (tabN 7) 7)) := upd_new W (tabN 6) 6 5 _ rfl
theorem upd7 (W : World) : (Instr.mapUpdate 76 (.map (some W.heap.size)) (.int .i64 7) (.func (.func 55) #[] #[])).run Tryd.prog (W.alloc (.map (tabN 7) 7)) = .ok () (W.alloc (.map (tabN 8) 8)) := upd_new W (tabN 7) 7 7 _ rfl
theorem upd8 (W : World) : (Instr.mapUpdate 76 (.map (some W.heap.size)) (.int .i64 3) (.func (.func 58) #[] #[])).run Tryd.prog (W.alloc (.map (tabN 8) 8)) = .ok () (W.alloc (.map (tabN 9) 9)) := upd_new W (tabN 8) 8 3 _ rfl
theorem upd9 (W : World) : (Instr.mapUpdate 76 (.map (some W.heap.size)) (.int .i64 6) (.func (.func 59) #[] #[])).run Tryd.prog (W.alloc (.map (tabN 9) 9)) = .ok () (W.alloc (.map (tabN 10) 10)) := upd_new W (tabN 9) 9 6 _ rfl
theorem upd10 (W : World) : (Instr.mapUpdate 76 (.map (some W.heap.size)) (.int .i64 10) (.func (.func 60) #[] #[])).run Tryd.prog (W.alloc (.map (tabN 10) 10)) = .ok () (W.alloc (.map (tabN 11) 11)) := upd_new W (tabN 10) 10 10 _ rfl
theorem upd11 (W : World) : (Instr.mapUpdate 76 (.map (some W.heap.size)) (.int .i64 11) (.func (.func 61) #[] #[])).run Tryd.prog (W.alloc (.map (tabN 11) 11)) = .ok () (W.alloc (.map (tabN 12) 12)) := upd_new W (tabN 11) 11 11 _ rfl
theorem upd12 (W : World) : (Instr.mapUpdate 76 (.map (some W.heap.size)) (.int .i64 9) (.func (.func 62) #[] #[])).run Tryd.prog (W.alloc (.map (tabN 12) 12)) = .ok () (W.alloc (.map (tabN 13) 13)) := upd_new W (tabN 12) 12 9 _ rfl
theorem upd13 (W : World) : (Instr.mapUpdate 76 (.map (some W.heap.size)) (.int .i64 8) (.func (.func 63) #[] #[])).run Tryd.prog (W.alloc (.map (tabN 13) 13)) = .ok () (W.alloc (.map (tabN 14) 14)) := upd_new W (tabN 13) 13 8 _ rfl

set_option maxHeartbeats 2000000 in
theorem fields_any (W : World) : Calls Tryd.prog 36 #[] W fun e w' => e = .returned (.map (some W.heap.size)) ∧ w' = W.alloc (.map (tabN 14) 14) := by
  have mk : ∀ w, (Instr.makeMap 76 none).run Tryd.prog w = .ok (.map (some w.heap.size)) (w.alloc (.map #[] 0)) := fun _ => rfl
  have u0 := upd0 W
  have u1 := upd1 W
  have u2 := upd2 W
  have u3 := upd3 W
  have u4 := upd4 W
  have u5 := upd5 W
  have u6 := upd6 W
  have u7 := upd7 W
  have u8 := upd8 W
  have u9 := upd9 W
  have u10 := upd10 W
  have u11 := upd11 W
  have u12 := upd12 W
  have u13 := upd13 W
  obtain ⟨PP, hPP⟩ : ∃ PP : Ending → World → Prop, (fun e w' => e = .returned (.map (some W.heap.size)) ∧ w' = W.alloc (.map (tabN 14) 14)) = PP := ⟨_, rfl⟩
  rw [hPP]
  have HPP := Lib.hid hPP
  clear hPP
  go_enter Tryd.func36, Tryd.ntmps36
  go_wp2_with fail
  rw [← HPP.out]
  exact ⟨rfl, rfl⟩
/-- the reader of a kind -/
def tabF (k : Nat) : Value :=
  if k = 0 ∨ k = 12 ∨ k = 13 then (.func (.func 57) #[] #[]) else if k = 1 ∨ k = 2 then (.func (.func 53) #[] #[]) else if k = 4 ∨ k = 5 ∨ k = 7 then (.func (.func 55) #[] #[]) else if k = 3 then (.func (.func 58) #[] #[]) else if k = 6 then (.func (.func 59) #[] #[]) else if k = 10 then (.func (.func 60) #[] #[]) else if k = 11 then (.func (.func 61) #[] #[]) else if k = 9 then (.func (.func 62) #[] #[]) else if k = 8 then (.func (.func 63) #[] #[]) else .nilFunc
theorem look_in {W : World} {Bt : Nat} (h : Tab W Bt) (k : Int) (i : Nat) (v : Value) (hf : Instr.findNow (.int .i64) (.int .i64 k) (tabN 14).toList 0 = some (some (i, v))) :
    (Instr.lookup 76 (.map (some Bt)) (.int .i64 k) false).run Tryd.prog W = .ok v W := by
  have hc : (Instr.checkKey false 10000 3 (.int .i64 k)).run Tryd.prog W = .ok () W := MapKept.run_checkKey (k := .int .i64 k) Tryd.underlying3 (by simp [MapKept.IsKey]) false 9999
  have hg := MapKept.run_getObj_map (P := Tryd.prog) h
  have he : (tabN 14).isEmpty = false := rfl
  unfold Instr.lookup Instr.findKey
  simp [Sem.run_bind, run_underlying Tryd.underlying76, run_underlying Tryd.underlying3, Result.andThen, hg, he, hc, hf]
theorem look_out {W : World} {Bt : Nat} (h : Tab W Bt) (k : Int) (hf : Instr.findNow (.int .i64) (.int .i64 k) (tabN 14).toList 0 = some none) :
    (Instr.lookup 76 (.map (some Bt)) (.int .i64 k) false).run Tryd.prog W = .ok .nilFunc W := by
  have hc : (Instr.checkKey false 10000 3 (.int .i64 k)).run Tryd.prog W = .ok () W := MapKept.run_checkKey (k := .int .i64 k) Tryd.underlying3 (by simp [MapKept.IsKey]) false 9999
  have hg := MapKept.run_getObj_map (P := Tryd.prog) h
  have he : (tabN 14).isEmpty = false := rfl
  have hz : (zeroValue 94).run Tryd.prog W = .ok .nilFunc W := by kernel_rfl
  unfold Instr.lookup Instr.findKey
  simp [Sem.run_bind, run_underlying Tryd.underlying76, run_underlying Tryd.underlying3, Result.andThen, hg, he, hc, hf, hz]
theorem find_out (k : Nat) (hk : 14 ≤ k) : Instr.findNow (.int .i64) (.int .i64 (k : Int)) (tabN 14).toList 0 = some none := by
  have h : ∀ c : Int, c < 14 → ((k : Int) == c) = false := fun c hc => by simp; omega
  simp [tabN, tabE, Instr.findNow, Instr.sameNow, h]
theorem tab_look {W : World} {Bt : Nat} (h : Tab W Bt) (k : Nat) : (Instr.lookup 76 (.map (some Bt)) (.int .i64 (k : Int)) false).run Tryd.prog W = .ok (tabF k) W := by
  by_cases hk : 14 ≤ k
  · rw [look_out h k (find_out k hk)]
    unfold tabF
    simp only [show ¬ (k = 0 ∨ k = 12 ∨ k = 13) by omega, show ¬ (k = 1 ∨ k = 2) by omega, show ¬ (k = 4 ∨ k = 5 ∨ k = 7) by omega, show ¬ k = 3 by omega, show ¬ k = 6 by omega, show ¬ k = 10 by omega, show ¬ k = 11 by omega, show ¬ k = 9 by omega, show ¬ k = 8 by omega, if_false]
  · have hc : k = 0 ∨ k = 1 ∨ k = 2 ∨ k = 3 ∨ k = 4 ∨ k = 5 ∨ k = 6 ∨ k = 7 ∨ k = 8 ∨ k = 9 ∨ k = 10 ∨ k = 11 ∨ k = 12 ∨ k = 13 := by omega
    rcases hc with rfl | rfl | rfl | rfl | rfl | rfl | rfl | rfl | rfl | rfl | rfl | rfl | rfl | rfl <;> exact look_in h _ _ _ rfl
end Go.Proofs.YtmncpbfghabamaaDoor
