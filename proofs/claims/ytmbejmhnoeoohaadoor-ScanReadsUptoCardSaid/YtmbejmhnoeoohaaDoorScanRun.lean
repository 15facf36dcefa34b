/- THE PROGRAM's run: how many letters and digits stand ahead. -/
import Derived.Test.YtmbejmhnoeoohaaDoorScanLib
import Derived.BigQuiet
import Derived.Deep.QuietTactic
namespace Go.Proofs.YtmbejmhnoeoohaaDoor
open Go Go.RowKit

theorem quiet_add_left {P : Program} {f : FuncId} {args : Array Value} {w : World} {a n : Nat} {v : Value}
    (h : Calls P f args (w.drewN (a + n)) fun e w' => e = .returned v ∧ w.drewN (a + n) = w') :
    Calls P f args (w.drewN (a + n)) fun e w'' => e = .returned v ∧ ∃ m, w'' = w.drewN (a + m) :=
  h.mono fun _ _ ⟨he, hm⟩ => ⟨he, n, hm.symm⟩
theorem quiet_left {P : Program} {f : FuncId} {args : Array Value} {w : World} {n : Nat} {v : Value}
    (h : Calls P f args (w.drewN n) fun e w' => e = .returned v ∧ w.drewN n = w') : Calls P f args (w.drewN n) fun e w'' => e = .returned v ∧ ∃ m, w'' = w.drewN m :=
  h.mono fun _ _ ⟨he, hm⟩ => ⟨he, n, hm.symm⟩

def runP (letters : Bool) (c : UInt8) : Bool := if letters then alnB c else digB c
theorem runS_at {l : List UInt8} {p : UInt8 → Bool} {k : Nat} {c : UInt8} (h : l[k]? = some c) : runS p (l.drop k) = if p c then runS p (l.drop (k + 1)) + 1 else 0 := by
  rw [drop_one h]; rfl
theorem clsS_le (n : Nat) : clsS n ≤ 3 := by unfold clsS; repeat' split
                                             all_goals omega

def RunPost (w : World) (n : Nat) (e : Ending) (w' : World) : Prop := e = .returned (.int .i64 (n : Nat)) ∧ ∃ q, w' = w.drewN q

set_option maxHeartbeats 4000000 in
theorem run_any (g : Nat) (v : Value) (l : List UInt8) (p0 : Nat) (letters : Bool) (w : World) (hV : Bs w v l) (hl : l.length ≤ 1048577) (hp : p0 < l.length)
    (hc0 : w.cell? ⟨g, 0, none⟩ = some v) (hc1 : w.cell? ⟨g, 1, none⟩ = some (.int .i64 (p0 : Nat))) :
    Calls Tryd.prog 36 #[.pointer (some ⟨g, 0, none⟩), .bool letters] w (RunPost w (runS (runP letters) (l.drop p0))) := by
  obtain ⟨b, o, cap, rfl, hbl⟩ := hV.form (by omega)
  obtain ⟨_, hcap, hm⟩ := hV.len
  have HV := Lib.hid (fun (j : Nat) (x : UInt8) (hj : l[j]? = some x) => hV.cell hj)
  clear hV
  have HS := Lib.hid (fun k c h => @runS_at l (runP letters) k c h)
  have HP : Hid (∀ c, runP letters c = if letters then alnB c else digB c) := fun c => rfl
  obtain ⟨R, hR⟩ : ∃ R, R = runS (runP letters) (l.drop p0) := ⟨_, rfl⟩
  rw [← hR]
  have H0 : Hid (R = 0 + runS (runP letters) (l.drop (p0 + 0))) := by show _ = _; rw [Nat.zero_add, Nat.add_zero]; exact hR
  clear hR
  generalize hPP : RunPost w R = PP at *
  have HPP := Lib.hid hPP
  clear hPP
  generalize runP letters = rp at *
  have hgs := World.block_lt_of_cell? w _ hc0
  go_enter Tryd.func36, Tryd.ntmps36
  go_wp2
  go_loopw [5, 6] (fun n _ wr => ∃ (k q : Nat), p0 + k ≤ l.length ∧ n = .int .i64 k ∧ Hid (R = k + runS rp (l.drop (p0 + k))) ∧ wr = w.drewN q) (fun n _ _ => l.length - (intOf n).toNat)
  case atStart => exact ⟨0, 0, by omega, rfl, H0, rfl⟩
  case round =>
    obtain ⟨k, q, hk, rfl, HR, rfl⟩ := hrel
    have hw1 : IntKind.i64.wrap ((p0 : Int) + (k : Int)) = (p0 : Int) + (k : Int) := IntWalk.i64_in _ (by omega)
    by_cases hlt : p0 + k < l.length
    · have hd1 : decide ((p0 : Int) + (k : Int) < (l.length : Int)) = true := by simp; omega
      obtain ⟨c, hc⟩ : ∃ c, l[p0 + k]? = some c := ⟨_, List.getElem?_eq_getElem hlt⟩
      have hs := Lib.hid (HS.out _ c hc)
      have hck := HV.out _ c hc
      have hz1 : (0 : Int) ≤ (p0 : Int) + (k : Int) := by omega
      have hz2 : ((p0 : Int) + (k : Int)) < (l.length : Int) := by omega
      have hz3 : ((p0 : Int) + (k : Int)).toNat = p0 + k := by omega
      have CC := Lib.hid (fun w => class_any c w)
      have hpc := Lib.hid (HP.out c)
      have hcl := clsS_le c.toNat
      have HRP : Hid (rp c = (clsS c.toNat == 2 || (letters && clsS c.toNat == 1))) := by
        show _ = _; rw [hpc.out]; unfold alnB digB; cases letters <;> simp
      have HT : Hid (rp c = true → R = (k + 1) + runS rp (l.drop (p0 + (k + 1)))) := fun h => by
        rw [HR.out, hs.out, if_pos h, Nat.add_assoc p0]; omega
      have HF : Hid (rp c = false → R = k) := fun h => by
        rw [HR.out, hs.out, if_neg (by rw [h]; simp)]; omega
      clear hc hpc
      generalize clsS c.toNat = n at *
      have hn : n = 0 ∨ n = 1 ∨ n = 2 ∨ n = 3 := by omega
      rcases hn with rfl | rfl | rfl | rfl <;> cases letters
      all_goals
        go_wp2
        go_quiet (fail)
        go_wp2
        go_quiet ((go_at_call 32; first | exact quiet_add_left (CC.out _) | exact quiet_left (CC.out _)))
        go_wp2
        first
          | (rw [← HPP.out]; exact ⟨ret_i (by rw [HF.out HRP.out]), _, rfl⟩)
          | exact ⟨⟨k + 1, _, by omega, by go_num, HT.out HRP.out, rfl⟩, by simp [intOf]; omega⟩
    · have hd1 : decide ((p0 : Int) + (k : Int) < (l.length : Int)) = false := by simp; omega
      have HN : Hid (R = k) := by show _ = _; rw [HR.out, List.drop_of_length_le (by omega)]; rfl
      go_wp2
      go_quiet (fail)
      go_wp2
      rw [← HPP.out]
      exact ⟨ret_i (by rw [HN.out]), _, World.drewN_drewN _ _ _⟩
end Go.Proofs.YtmbejmhnoeoohaaDoor
