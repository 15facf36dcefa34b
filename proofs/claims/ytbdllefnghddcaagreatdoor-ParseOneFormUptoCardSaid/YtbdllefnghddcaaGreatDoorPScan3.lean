/- Unquote, the program's and the reference's. THE REFERENCE's Unquote. WHAT THE LIBRARY's FUNCTIONS GIVE AT THIS DUMP, in the words of scan. THE PROGRAM's run: how many letters and digits stand ahead. THE PROGRAM's number: what digits say. THE SCANNER IN MEMORY: its block; what is kept where it alone has turned. -/
import Derived.Test.YtbdllefnghddcaaGreatDoorScanRefQuoted
import Derived.Lib.ConvBytes
import Derived.Test.YtbdllefnghddcaaGreatDoorScanShelf
import Derived.WalkSmall
import Derived.BigQuiet
import Derived.Deep.QuietTactic
import Derived.Lib.SmallJoins
namespace Go.Proofs.YtbdllefnghddcaaGreatDoor
section
open Go Go.RowKit

theorem conv_bytes (s : ByteArray) (w : World) (hs : s.size ≤ 8388608) :
  ∃ v w1, (convert 9 22 (.string s)).run Tryz.prog w = .ok v w1 ∧ Bs w1 v s.data.toList ∧ Below w.heap.size w w1 := by
 refine ⟨_, _, Lib.run_convert_string_bytes w 9 22 5 s Tryz.underlying9 Tryz.underlying22 Tryz.underlying5, ?_, ?_⟩
 ·have h1 := grownCap_ge w s.size 0 5
  have h2 := grownCap_le_maxLen w s.size 0 5 (by unfold maxLen; omega)
  unfold maxLen at h2
  have e : s.data.toList.length = s.size := by simp
  refine ⟨_, _, by rw [e], by rw [e]; exact h1, by omega, fun _ => ⟨_, _, rfl, fun j x hj => ?_⟩⟩
  have hlt : j < s.size := by
   obtain ⟨h, _⟩ := List.getElem?_eq_some_iff.1 hj
   omega
  have := Lib.bytesWorld_cell w 5 s j hlt
  rw [Nat.zero_add, this]
  simp [List.getD, hj]
 ·refine ⟨rfl, rfl, rfl, by rw [Lib.bytesWorld_size]; omega, fun k hk => Lib.bytesWorld_at_old w 5 s k hk⟩

def unqS (l : List UInt8) : Option (List UInt8) := match l with
 | [] => none
 | c :: B => if c = 34 then match qS B with
  | none => none
  | some x => if x.2 + 1 = B.length + 1 then some x.1 else none
  else none
def UPost (w : World) (r : Option (List UInt8)) (e : Ending) (w' : World) : Prop := e = .returned (.tuple #[.string (ba (r.getD [])), .bool r.isSome]) ∧ Below w.heap.size w w'
theorem u_none {w w1 : World} {r : Option (List UInt8)} (hr : r = none) (hb : Below w.heap.size w w1) : UPost w r (.returned (.tuple #[.string ⟨#[]⟩, .bool false])) w1 := by subst hr; exact ⟨rfl, hb⟩
theorem u_some {w w1 : World} {r : Option (List UInt8)} {t : List UInt8} (hr : r = some t) (hb : Below w.heap.size w w1) : UPost w r (.returned (.tuple #[.string (ba t), .bool true])) w1 := by subst hr; exact ⟨rfl, hb⟩

theorem unq_first {c : UInt8} {B : List UInt8} (h : ¬ c = 34) : unqS (c :: B) = none := by unfold unqS; simp [h]
theorem unq_none {B : List UInt8} (h : qS B = none) : unqS (34 :: B) = none := by unfold unqS; simp [h]
theorem unq_other {B t : List UInt8} {k : Nat} (h : qS B = some (t, k)) (hk : ¬ k = B.length) : unqS (34 :: B) = none := by unfold unqS; simp [h, hk]
theorem unq_some {B t : List UInt8} {k : Nat} (h : qS B = some (t, k)) (hk : k = B.length) : unqS (34 :: B) = some t := by unfold unqS; simp [h, hk]

theorem head_byte {s : ByteArray} {c : UInt8} {B : List UInt8} (h : s.data.toList = c :: B) : ∃ hs : 0 < s.size, s[0] = c ∧ s.size = B.length + 1 := by
 have hs : s.size = B.length + 1 := by
  have := congrArg List.length h
  simpa using this
 refine ⟨by omega, ?_, hs⟩
 have e : s.data.toList[0]? = some c := by rw [h]; rfl
 have h0 : 0 < s.data.size := by show 0 < s.size; omega
 have e2 : s.data[0]'h0 = c := by
  rw [Array.getElem?_toList, Array.getElem?_eq_getElem h0] at e
  injection e
 exact e2
end
section
open Go Go.RowKit
end
section
open Go Go.RowKit Go.Lib

def Env (w : World) : Prop := Words w ∧ ∃ m, w.cell? ⟨3, 0, none⟩ = some (.int .i64 m)
theorem Env.below {w w' : World} (h : Env w) (hb : Below w.heap.size w w') : Env w' := by
 obtain ⟨h1, m, h2⟩ := h
 exact ⟨h1.below hb, m, (hb.cell (World.block_lt_of_cell? w _ h2)).trans h2⟩
theorem Env.keep {w w' : World} (h : Env w) (hk : ∀ a : Addr, a.block = 4 ∨ a.block = 3 → w'.cell? a = w.cell? a) : Env w' := by
 obtain ⟨h1, m, h2⟩ := h
 exact ⟨fun j v hv => (hk _ (.inl rfl)).trans (h1 j v hv), m, (hk _ (.inr rfl)).trans h2⟩

theorem lineS_idx : ∀ l : List UInt8, (Lib.indexByte l 10 < 0 → lineS l = l.length) ∧ (0 ≤ Lib.indexByte l 10 → Lib.indexByte l 10 = (lineS l : Nat))
 | [] => by simp [Lib.indexByte, lineS]
 | b :: l => by
  have ih := lineS_idx l
  have hg := Lib.indexByte_ge l 10
  unfold Lib.indexByte lineS
  by_cases hb : b = 10
  ·subst hb; simp
  ·have hb' : (b == 10) = false := by simpa using hb
   rw [hb', if_neg hb]
   simp only [Bool.false_eq_true, if_false]
   by_cases h1 : Lib.indexByte l 10 = -1
   ·have h1' : (Lib.indexByte l 10 == -1) = true := by simpa using h1
    rw [h1']
    simp only [if_true]
    refine ⟨fun _ => by rw [ih.1 (by omega)]; simp, fun h => by omega⟩
   ·have h1' : (Lib.indexByte l 10 == -1) = false := by simpa using h1
    rw [h1']
    simp only [Bool.false_eq_true, if_false]
    refine ⟨fun h => by omega, fun _ => by have := ih.2 (by omega); omega⟩

theorem cmtS_idx : ∀ l : List UInt8, (Lib.index l [42, 47] < 0 → cmtS l = none) ∧ (∀ i : Nat, Lib.index l [42, 47] = (i : Nat) → cmtS l = some (i + 2))
 | [] => by simp [Lib.index, cmtS]
 | b :: l => by
  have ih := cmtS_idx l
  have hg := Lib.index_ge l [42, 47]
  rw [cmtS_cons]
  unfold Lib.index
  have hp : ([42, 47] : List UInt8).isPrefixOf (b :: l) = true ↔ b = 42 ∧ l.head? = some 47 := by
   cases l with
   | nil => simp [List.isPrefixOf]
   | cons c t => simp [List.isPrefixOf]; exact ⟨fun h => ⟨h.1.symm, h.2.symm⟩, fun h => ⟨h.1.symm, h.2.symm⟩⟩
  by_cases h : b = 42 ∧ l.head? = some 47
  ·rw [if_pos h, if_pos (hp.2 h)]
   refine ⟨fun h => by omega, fun i hi => ?_⟩
   have : i = 0 := by omega
   subst this; rfl
  ·rw [if_neg h, if_neg (fun hh => h (hp.1 hh))]
   by_cases h1 : Lib.index l [42, 47] = -1
   ·rw [if_pos (by simpa using h1)]
    refine ⟨fun _ => by rw [ih.1 (by omega)]; rfl, fun i hi => by omega⟩
   ·rw [if_neg (by simpa using h1)]
    refine ⟨fun h => by omega, fun i hi => ?_⟩
    rw [ih.2 (i - 1) (by omega)]
    simp; omega

theorem indexByte_any (v : Value) (l : List UInt8) (w : World) (hV : Bs w v l) (hl : 0 < l.length) :
  Calls Tryz.prog 111 #[v, .int .u8 10] w fun e w' => e = .returned (.int .i64 (Lib.indexByte l 10)) ∧ w = w' := by
 obtain ⟨b, o, cap, rfl, _⟩ := hV.form hl
 have := Any.bytes_IndexByte Tryz.laysn187 b o l.length cap (numsI l) 10 w (numsI_len l) (fun i hi => hV.cellsI i hi)
 rw [bytesOf_nums] at this
 exact this.mono fun _ _ ⟨h1, h2⟩ => ⟨h1, h2.symm⟩

theorem hasPrefix_any (v v2 : Value) (l l2 : List UInt8) (w : World) (hV : Bs w v l) (hV2 : Bs w v2 l2) :
  Calls Tryz.prog 112 #[v, v2] w fun e w' => e = .returned (.bool (l2.isPrefixOf l)) ∧ w = w' := by
 obtain ⟨p, cap, rfl, h1, h2, _⟩ := id hV
 obtain ⟨p2, cap2, rfl, _⟩ := id hV2
 have := Any.bytes_HasPrefix_all Tryz.laysnb116 p p2 l.length cap l2.length cap2 (numsI l) (numsI l2) w (numsI_len l) (numsI_len l2) h1 hV.in_ hV2.in_
 rw [bytesOf_nums, bytesOf_nums] at this
 exact this.mono fun _ _ ⟨h1, h2⟩ => ⟨h1, h2.symm⟩

theorem index_any (b o n cap : Nat) (v2 : Value) (l l2 : List UInt8) (w : World) (hE : Env w) (hV : Bs w (.slice (some ⟨b, o, none⟩) n cap) l) (hV2 : Bs w v2 l2) (hl2 : 0 < l2.length) (hl : l.length ≤ 1048577) (hl2' : l2.length ≤ 1048577) :
  Calls Tryz.prog 113 #[.slice (some ⟨b, o, none⟩) n cap, v2] w fun e w' => e = .returned (.int .i64 (Lib.index l l2)) ∧ Below w.heap.size w w' := by
 obtain ⟨e, h1, h2⟩ := hV.len
 subst e
 obtain ⟨b2, o2, cap2, rfl, _⟩ := hV2.form hl2
 obtain ⟨_, m, hm⟩ := hE
 have hadd : ∀ (b o i : Nat), (⟨b, o, none⟩ : Addr).add i = ⟨b, o + i, none⟩ := fun b o i => by unfold Addr.add; split <;> simp_all
 have := Any.bytes_Index_at Tryz.laysn185 ⟨b, o, none⟩ ⟨b2, o2, none⟩ l.length cap l2.length cap2 (numsI l) (numsI l2) m w (numsI_len l) (numsI_len l2) (numsI_range l) (numsI_range l2)
  (fun i hi => by rw [hadd]; exact hV.cellsI i hi) (fun i hi => by rw [hadd]; exact hV2.cellsI i hi) h1 (by omega) (by omega) hm
 rw [bytesOf_nums, bytesOf_nums] at this
 exact this.mono fun e w' ⟨h1, q, h2⟩ => ⟨h1, by subst h2; exact below_drewN (Below.refl _ _) q⟩
end
section
open Go Go.RowKit

theorem quiet_add_left {P : Program} {f : FuncId} {args : Array Value} {w : World} {a n : Nat} {v : Value}
    (h : Calls P f args (w.drewN (a + n)) fun e w' => e = .returned v ∧ w.drewN (a + n) = w') :
    Calls P f args (w.drewN (a + n)) fun e w'' => e = .returned v ∧ ∃ m, w'' = w.drewN (a + m) :=
  h.mono fun _ _ ⟨he, hm⟩ => ⟨he, n, hm.symm⟩
theorem quiet_left {P : Program} {f : FuncId} {args : Array Value} {w : World} {n : Nat} {v : Value}
    (h : Calls P f args (w.drewN n) fun e w' => e = .returned v ∧ w.drewN n = w') : Calls P f args (w.drewN n) fun e w'' => e = .returned v ∧ ∃ m, w'' = w.drewN m :=
  h.mono fun _ _ ⟨he, hm⟩ => ⟨he, n, hm.symm⟩

def runP (letters : Bool) (c : UInt8) : Bool := if letters then alnB c else digB c
theorem runS_at {l : List UInt8} {p : UInt8 → Bool} {k : Nat} {c : UInt8} (h : l[k]? = some c) : runS p (l.drop k) = if p c then runS p (l.drop (k + 1)) + 1 else 0 := by
  rw [drop_one h]; rfl
theorem clsS_le (n : Nat) : clsS n ≤ 3 := by unfold clsS; repeat' split
                                             all_goals omega

def RunPost (w : World) (n : Nat) (e : Ending) (w' : World) : Prop := e = .returned (.int .i64 (n : Nat)) ∧ ∃ q, w' = w.drewN q

set_option maxRecDepth 100000 in
set_option maxHeartbeats 4000000 in
theorem run_any (g : Nat) (v : Value) (l : List UInt8) (p0 : Nat) (letters : Bool) (w : World) (hV : Bs w v l) (hl : l.length ≤ 1048577) (hp : p0 < l.length)
    (hc0 : w.cell? ⟨g, 0, none⟩ = some v) (hc1 : w.cell? ⟨g, 1, none⟩ = some (.int .i64 (p0 : Nat))) :
    Calls Tryz.prog 114 #[.pointer (some ⟨g, 0, none⟩), .bool letters] w (RunPost w (runS (runP letters) (l.drop p0))) := by
  obtain ⟨b, o, cap, rfl, hbl⟩ := hV.form (by omega)
  obtain ⟨_, hcap, hm⟩ := hV.len
  have HV := Lib.hid (fun (j : Nat) (x : UInt8) (hj : l[j]? = some x) => hV.cell hj)
  clear hV
  have HS := Lib.hid (fun k c h => @runS_at l (runP letters) k c h)
  have HP : Hid (∀ c, runP letters c = if letters then alnB c else digB c) := fun c => rfl
  obtain ⟨R, hR⟩ : ∃ R, R = runS (runP letters) (l.drop p0) := ⟨_, rfl⟩
  rw [← hR]
  have H0 : Hid (R = 0 + runS (runP letters) (l.drop (p0 + 0))) := by show _ = _; rw [Nat.zero_add, Nat.add_zero]; exact hR
  clear hR
  generalize hPP : RunPost w R = PP at *
  have HPP := Lib.hid hPP
  clear hPP
  generalize runP letters = rp at *
  have hgs := World.block_lt_of_cell? w _ hc0
  go_enter Tryz.func114, Tryz.ntmps114
  go_wp2
  go_loopw [5, 6] (fun n _ wr => ∃ (k q : Nat), p0 + k ≤ l.length ∧ n = .int .i64 k ∧ Hid (R = k + runS rp (l.drop (p0 + k))) ∧ wr = w.drewN q) (fun n _ _ => l.length - (intOf n).toNat)
  case atStart => exact ⟨0, 0, by omega, rfl, H0, rfl⟩
  case round =>
    obtain ⟨k, q, hk, rfl, HR, rfl⟩ := hrel
    have hw1 : IntKind.i64.wrap ((p0 : Int) + (k : Int)) = (p0 : Int) + (k : Int) := IntWalk.i64_in _ (by omega)
    by_cases hlt : p0 + k < l.length
    · have hd1 : decide ((p0 : Int) + (k : Int) < (l.length : Int)) = true := by simp; omega
      obtain ⟨c, hc⟩ : ∃ c, l[p0 + k]? = some c := ⟨_, List.getElem?_eq_getElem hlt⟩
      have hs := Lib.hid (HS.out _ c hc)
      have hck := HV.out _ c hc
      have hz1 : (0 : Int) ≤ (p0 : Int) + (k : Int) := by omega
      have hz2 : ((p0 : Int) + (k : Int)) < (l.length : Int) := by omega
      have hz3 : ((p0 : Int) + (k : Int)).toNat = p0 + k := by omega
      have CC := Lib.hid (fun w => class_any c w)
      have hpc := Lib.hid (HP.out c)
      have hcl := clsS_le c.toNat
      have HRP : Hid (rp c = (clsS c.toNat == 2 || (letters && clsS c.toNat == 1))) := by
        show _ = _; rw [hpc.out]; unfold alnB digB; cases letters <;> simp
      have HT : Hid (rp c = true → R = (k + 1) + runS rp (l.drop (p0 + (k + 1)))) := fun h => by
        rw [HR.out, hs.out, if_pos h, Nat.add_assoc p0]; omega
      have HF : Hid (rp c = false → R = k) := fun h => by
        rw [HR.out, hs.out, if_neg (by rw [h]; simp)]; omega
      clear hc hpc
      generalize clsS c.toNat = n at *
      have hn : n = 0 ∨ n = 1 ∨ n = 2 ∨ n = 3 := by omega
      rcases hn with rfl | rfl | rfl | rfl <;> cases letters
      all_goals
        go_wp2
        go_quiet (fail)
        go_wp2
        go_quiet ((go_at_call 110; first | exact quiet_add_left (CC.out _) | exact quiet_left (CC.out _)))
        go_wp2
        first
          | (rw [← HPP.out]; exact ⟨ret_i (by rw [HF.out HRP.out]), _, rfl⟩)
          | exact ⟨⟨k + 1, _, by omega, by go_num, HT.out HRP.out, rfl⟩, by simp [intOf]; omega⟩
    · have hd1 : decide ((p0 : Int) + (k : Int) < (l.length : Int)) = false := by simp; omega
      have HN : Hid (R = k) := by show _ = _; rw [HR.out, List.drop_of_length_le (by omega)]; rfl
      go_wp2
      go_quiet (fail)
      go_wp2
      rw [← HPP.out]
      exact ⟨ret_i (by rw [HN.out]), _, World.drewN_drewN _ _ _⟩
end
section
open Go Go.RowKit

theorem numV_snoc (l : List UInt8) (c : UInt8) : numV (l ++ [c]) = 10 * numV l + (c.toNat - 48) := by simp [numV, List.foldl_append]
theorem numV_take {l : List UInt8} {k : Nat} {c : UInt8} (h : l[k]? = some c) : numV (l.take (k + 1)) = 10 * numV (l.take k) + (c.toNat - 48) := by
  rw [List.take_add_one, h]; exact numV_snoc _ _
theorem numV_ge (l : List UInt8) : ∀ (r : List UInt8), numV l ≤ numV (l ++ r)
  | [] => by simp
  | c :: r => by
    have h1 : numV l ≤ numV (l ++ [c]) := by rw [numV_snoc]; omega
    have h2 := numV_ge (l ++ [c]) r
    rw [List.append_assoc] at h2
    exact Nat.le_trans h1 h2
theorem numV_part (l : List UInt8) (k : Nat) : numV (l.take k) ≤ numV l := by
  conv => rhs; rw [← List.take_append_drop k l]
  exact numV_ge _ _

def numOk (l : List UInt8) : Bool := decide (numV l ≤ 18446744073709551615) && (!(l.head? == some 48) || l.length == 1)
def NumPost (w : World) (l : List UInt8) (e : Ending) (w' : World) : Prop := ∃ n : Nat, e = .returned (.tuple #[.int .u64 (n : Nat), .bool (numOk l)]) ∧ (numOk l = true → n = numV l) ∧ w = w'
theorem num_no {w : World} {l : List UInt8} (h : numOk l = false) : NumPost w l (.returned (.tuple #[.int .u64 0, .bool false])) w := ⟨0, by rw [h]; rfl, by simp [h], rfl⟩
theorem num_end {w : World} {l : List UInt8} {n : Nat} {b : Bool} (h : numOk l = b) (hn : n = numV l) : NumPost w l (.returned (.tuple #[.int .u64 (n : Nat), .bool b])) w := ⟨n, by rw [h], fun _ => hn, rfl⟩

set_option maxRecDepth 100000 in
set_option maxHeartbeats 4000000 in
theorem number_any (v : Value) (l : List UInt8) (w : World) (hV : Bs w v l) (hl : l.length ≤ 1048577) (hl0 : 0 < l.length) (hd : ∀ c ∈ l, digB c = true) :
    Calls Tryz.prog 116 #[v] w (NumPost w l) := by
  obtain ⟨b, o, cap, rfl, hbl⟩ := hV.form (by omega)
  obtain ⟨_, hcap, hm⟩ := hV.len
  have HV := Lib.hid (fun (j : Nat) (x : UInt8) (hj : l[j]? = some x) => hV.cell hj)
  have HD : Hid (∀ (j : Nat) (x : UInt8) (_ : l[j]? = some x), 48 ≤ x.toNat ∧ x.toNat ≤ 57) := fun j x hj => (digB_iff x).1 (hd x (List.mem_of_getElem? hj))
  have HN := Lib.hid (fun k c h => @numV_take l k c h)
  have HP := Lib.hid (numV_part l)
  have H0 : Hid (numV (l.take 0) = 0) := rfl
  have HA : Hid (numV (l.take l.length) = numV l) := by show _ = _; rw [List.take_length]
  clear hV hd
  generalize hPP : NumPost w l = PP at *
  have HPP := Lib.hid hPP
  clear hPP
  go_enter Tryz.func116, Tryz.ntmps116
  go_wp2
  go_loop [4, 6, 7, 10] (fun n _ _ i => ∃ (k m : Nat), k ≤ l.length ∧ i = .int .i64 k ∧ n = .int .u64 m ∧ m ≤ 18446744073709551615 ∧ Hid (m = numV (l.take k))) (fun _ _ _ i => l.length - (intOf i).toNat)
  case atStart => exact ⟨0, 0, by omega, rfl, rfl, by omega, H0.out.symm⟩
  case round =>
    obtain ⟨k, m, hk, rfl, rfl, hmm, HM⟩ := hrel
    by_cases hlt : k < l.length
    · obtain ⟨c, hc⟩ : ∃ c, l[k]? = some c := ⟨_, List.getElem?_eq_getElem hlt⟩
      have hck := HV.out _ c hc
      obtain ⟨hc1, hc2⟩ := HD.out _ c hc
      have HM2 := Lib.hid (HN.out k c hc)
      clear hc
      by_cases ho : 18446744073709551615 < 10 * m + (c.toNat - 48)
      · have HB : Hid (numOk l = false) := by
          show _ = _
          have h1 := HP.out (k + 1)
          rw [HM2.out, ← HM.out] at h1
          unfold numOk
          rw [decide_eq_false (by omega)]; rfl
        have hgt : (18446744073709551615 - ((c.toNat : Int) - 48)) / 10 < (m : Int) := by omega
        clear ho
        go_wp2
        rw [← HPP.out]
        exact num_no HB.out
      · have hgt : (m : Int) ≤ (18446744073709551615 - ((c.toNat : Int) - 48)) / 10 := by omega
        have HM3 : Hid (10 * m + (c.toNat - 48) = numV (l.take (k + 1))) := by show _ = _; rw [HM2.out, ← HM.out]
        have hb1 : 10 * (m : Int) + ((c.toNat : Int) - 48) ≤ 18446744073709551615 := by omega
        go_wp2
        go_round
        case rel => exact ⟨k + 1, 10 * m + (c.toNat - 48), by omega, by go_num, by congr 1; omega, by omega, HM3⟩
        case measure => simp [intOf]; omega
    · obtain rfl : k = l.length := by omega
      have HM3 : Hid (m = numV l) := by show _ = _; rw [HM.out, HA.out]
      obtain ⟨c, hc⟩ : ∃ c, l[0]? = some c := ⟨_, List.getElem?_eq_getElem hl0⟩
      have hck := HV.out _ c hc
      simp only [Nat.add_zero] at hck
      have hcr := c.toNat_lt
      have HO : Hid (numOk l = (!(c == 48) || l.length == 1)) := by
        show _ = _
        unfold numOk
        rw [decide_eq_true (by rw [← HM3.out]; exact hmm), List.head?_eq_getElem?, hc]; simp
      clear hc
      go_wp2
      · rw [← HPP.out]
        have e : c = 48 := UInt8.toNat_inj.1 (show c.toNat = 48 by have : (c.toNat : Int) = 48 := by assumption
                                                                   omega)
        exact num_end (by rw [HO.out, e]; rw [Bool.eq_iff_iff]; simp; omega) HM3.out
      · rw [← HPP.out]
        have e : ¬ c = 48 := fun h => by
          have h1 : ¬ (c.toNat : Int) = 48 := by assumption
          exact h1 (by rw [h]; rfl)
        exact num_end (by rw [HO.out]; simp [e]) HM3.out
end
section
open Go Go.RowKit

def Scn (w : World) (g : Nat) (v : Value) (p : Nat) : Prop := w.heap[g]? = some (.cells #[v, .int .i64 (p : Nat)] 112 (0, 0))

theorem Scn.lt {w : World} {g : Nat} {v : Value} {p : Nat} (h : Scn w g v p) : g < w.heap.size := by
 rcases Nat.lt_or_ge g w.heap.size with hlt | hge
 ·exact hlt
 ·unfold Scn at h; rw [Array.getElem?_eq_none hge] at h; cases h
theorem Scn.cell0 {w : World} {g : Nat} {v : Value} {p : Nat} (h : Scn w g v p) : w.cell? ⟨g, 0, none⟩ = some v := by rw [cell_of_row w g 0 _ _ _ h]; rfl
theorem Scn.cell1 {w : World} {g : Nat} {v : Value} {p : Nat} (h : Scn w g v p) : w.cell? ⟨g, 1, none⟩ = some (.int .i64 (p : Nat)) := by rw [cell_of_row w g 1 _ _ _ h]; rfl
theorem Scn.frozen {w : World} {g : Nat} {v : Value} {p : Nat} (h : Scn w g v p) (i : Nat) : w.frozen? ⟨g, i, none⟩ = false := by
 unfold Scn at h; simp [World.frozen?, h]
theorem Scn.set {w : World} {g : Nat} {v : Value} {p : Nat} (h : Scn w g v p) (q : Nat) {u : Value} (hu : u = .int .i64 (q : Nat)) : Scn (w.setCell ⟨g, 1, none⟩ u) g v q := by
 subst hu
 unfold Scn at h ⊢
 rw [heap_setCell_same w g 1 _ _ _ h]; rfl
theorem Scn.drewN {w : World} {g : Nat} {v : Value} {p : Nat} (h : Scn w g v p) (n : Nat) : Scn (w.drewN n) g v p := h
theorem Scn.below {w w' : World} {g : Nat} {v : Value} {p : Nat} (h : Scn w g v p) (hb : Below w.heap.size w w') : Scn w' g v p := (hb.block g h.lt).trans h

theorem g_refl (w : World) (g : Nat) : w.grownBy w (some g) := ⟨rfl, rfl, rfl, Nat.le_refl _, fun _ _ _ => rfl⟩
theorem g_drewN {a w : World} {g : Nat} (h : a.grownBy w (some g)) (n : Nat) : a.grownBy (w.drewN n) (some g) := ⟨h.os, h.tape, h.output, h.size, h.block⟩
theorem g_set {a w : World} {g i : Nat} (h : a.grownBy w (some g)) (u : Value) : a.grownBy (w.setCell ⟨g, i, none⟩ u) (some g) :=
 ⟨h.os, h.tape, h.output, by simpa [World.setCell] using h.size, fun k hk hne => (Below.heap_setCell w ⟨g, i, none⟩ u k (fun e => hne (by rw [e]))).trans (h.block k hk hne)⟩
theorem g_below {a w w' : World} {g : Nat} (h : a.grownBy w (some g)) (hb : Below w.heap.size w w') : a.grownBy w' (some g) :=
 ⟨hb.os.trans h.os, hb.tape.trans h.tape, hb.output.trans h.output, Nat.le_trans h.size hb.size, fun i hi hn => (hb.block i (Nat.lt_of_lt_of_le hi h.size)).trans (h.block i hi hn)⟩
theorem g_trans {a b c : World} {g : Nat} (h : a.grownBy b (some g)) (k : b.grownBy c (some g)) : a.grownBy c (some g) :=
 ⟨k.os.trans h.os, k.tape.trans h.tape, k.output.trans h.output, Nat.le_trans h.size k.size, fun i hi hn => (k.block i (Nat.lt_of_lt_of_le hi h.size) hn).trans (h.block i hi hn)⟩

theorem Scn.ne_bytes {w : World} {g p : Nat} {v v2 : Value} {l : List UInt8} (h : Scn w g v p) (hv : Bs w v l) (h2 : Bs w v2 l) : ∀ a n c, v2 = .slice (some a) n c → 0 < l.length → a.block ≠ g := by
 rintro a n c rfl hl rfl
 obtain ⟨b, o, cap, e, _⟩ := h2.form hl
 obtain ⟨p', cap', rfl, _⟩ := id hv
 injection e with e1 _ _
 injection e1 with e1
 subst e1
 have hc := h2.cell (i := 0) (x := l[0]) (List.getElem?_eq_getElem hl)
 rw [cell_of_row w b (o + 0) _ _ _ h] at hc
 match o, hc with
 | 0, hc => simp at hc
 | 1, hc => simp at hc
 | o + 2, hc => simp at hc
theorem Bs.beside {w w' : World} {g p : Nat} {v : Value} {l : List UInt8} (h : Bs w v l) (hs : Scn w g v p) (hg : w.grownBy w' (some g)) : Bs w' v l :=
 h.grown hg fun a n c e hl => fun e2 => hs.ne_bytes h h a n c e hl (by injection e2 with e2; exact e2.symm)
theorem Env.beside {w w' : World} {g p : Nat} {v : Value} {l : List UInt8} (h : Env w) (hv : Bs w v l) (hs : Scn w g v p) (hg : w.grownBy w' (some g)) : Env w' := by
 obtain ⟨pv, cap, rfl, _⟩ := id hv
 have hc0 := hs.cell0
 obtain ⟨h1, m, h2⟩ := h
 have n1 : g ≠ 4 := by
  rintro rfl
  have := h1 0 (.string (wordB 0)) rfl
  rw [Nat.add_zero, hc0] at this; cases this
 have n2 : g ≠ 3 := by
  rintro rfl
  rw [hc0] at h2; cases h2
 refine ⟨fun j u hj => ?_, m, ?_⟩
 ·have h3 := h1 j u hj
  exact (World.cell?_of_block (a := ⟨4, 0 + j, none⟩) (hg.block _ (World.block_lt_of_cell? w _ h3) (fun e => n1 (by injection e with e; exact e.symm)))).trans h3
 ·exact (World.cell?_of_block (a := ⟨3, 0, none⟩) (hg.block _ (World.block_lt_of_cell? w _ h2) (fun e => n2 (by injection e with e; exact e.symm)))).trans h2

theorem Bs.lit (w : World) (l : List UInt8) (hl : l.length ≤ 100) (fr : Nat × Nat) : Bs (w.alloc (.cells (bc l).toArray 5 fr)) (.slice (some ⟨w.heap.size, 0, none⟩) l.length l.length) l :=
 ⟨_, _, rfl, Nat.le_refl _, by omega, fun _ => ⟨_, _, rfl, fun j x hj => by
  have h := World.news_of_block (w := w.alloc (.cells (bc l).toArray 5 fr)) (heap_alloc_new w _)
  have := h j (.int .u8 (x.toNat : Nat)) (by simp [bc, hj])
  have hadd : (⟨w.heap.size, 0, none⟩ : Addr).add j = ⟨w.heap.size, 0 + j, none⟩ := by unfold Addr.add; split <;> simp_all
  rwa [hadd] at this⟩⟩

theorem Bs.lit_at {w : World} {g : Nat} {fr : Nat × Nat} (l : List UInt8) (hl : l.length ≤ 100) (hg : g = w.heap.size) : Bs (w.alloc (.cells (bc l).toArray 5 fr)) (.slice (some ⟨g, 0, none⟩) l.length l.length) l := by
 subst hg; exact Bs.lit w l hl fr

theorem conv_lit0 (W : World) (C : Array Value) (m c : Nat) :
  (convert 22 22 (.slice (some ⟨W.heap.size, 0, none⟩) m c)).run Tryz.prog (W.alloc (.cells C 5)) = .ok (.slice (some ⟨W.heap.size, 0, none⟩) m c) (W.alloc (.cells C 5 (C.size, C.size + 1))) :=
 Joins.run_convert_bytes_const_at W _ _ C m c _ rfl Tryz.underlying22 Tryz.underlying5
theorem conv_lit1 (W : World) (n : Nat) (C : Array Value) (m c : Nat) :
  (convert 22 22 (.slice (some ⟨W.heap.size, 0, none⟩) m c)).run Tryz.prog ((W.drewN n).alloc (.cells C 5)) = .ok (.slice (some ⟨W.heap.size, 0, none⟩) m c) ((W.drewN n).alloc (.cells C 5 (C.size, C.size + 1))) :=
 Joins.run_convert_bytes_const_at (W.drewN n) _ _ C m c _ rfl Tryz.underlying22 Tryz.underlying5
theorem conv_lit2 (W : World) (n : Nat) (o : Obj) (C : Array Value) (m c : Nat) :
  (convert 22 22 (.slice (some ⟨W.heap.size + 1, 0, none⟩) m c)).run Tryz.prog (((W.drewN n).alloc o).alloc (.cells C 5)) = .ok (.slice (some ⟨W.heap.size + 1, 0, none⟩) m c) (((W.drewN n).alloc o).alloc (.cells C 5 (C.size, C.size + 1))) :=
 Joins.run_convert_bytes_const_at ((W.drewN n).alloc o) _ _ C m c _ (by rw [World.size_alloc]; rfl) Tryz.underlying22 Tryz.underlying5

def SkipPost (w : World) (g : Nat) (v : Value) (l : List UInt8) (p0 : Nat) (e : Ending) (w' : World) : Prop :=
 ∃ (p1 : Nat) (ok : Bool), e = .returned (.bool ok) ∧ p0 ≤ p1 ∧ p1 ≤ l.length ∧ Scn w' g v p1 ∧ w.grownBy w' (some g) ∧ (∀ r, scanAt (l.drop p0) p0 r = scanAt (l.drop p1) p1 r) ∧
  (ok = true → p1 < l.length → skipN (l.drop p1) = some 0) ∧ (ok = false → p1 < l.length ∧ skipN (l.drop p1) = none)
end
end Go.Proofs.YtbdllefnghddcaaGreatDoor
