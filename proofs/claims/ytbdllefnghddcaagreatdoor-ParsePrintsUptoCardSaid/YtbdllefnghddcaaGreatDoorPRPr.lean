/- PARSE: Quoted (the reference's). ROWS: lengths of words in a print. PARSE: the reference's digits, writtenCore, writtenWrap. -/
import Derived.Test.YtbdllefnghddcaaGreatDoorParseRText
import Derived.WalkSpells
import Derived.WalkSmall
import Derived.Test.YtbdllefnghddcaaGreatDoorPBld
import Derived.Test.YtbdllefnghddcaaGreatDoorParsePrW
import Derived.Test.YtbdllefnghddcaaGreatDoorPMem
namespace Go.Proofs.YtbdllefnghddcaaGreatDoor
section
open List (length_append length_cons length_nil)
set_option linter.unusedSimpArgs false
set_option maxHeartbeats 8000000
set_option maxRecDepth 100000
open Go Go.RowKit
attribute [local go_sem ↓] Go.wp_at_zero Go.wp_at_succ
theorem and15_u8 : ∀ n : Fin 256, bits BinOp.and IntKind.u8 (n.val : Int) 15 = ((n.val % 16 : Nat) : Int) := by decide +kernel
theorem hxs_at (w : World) : ∀ a : Nat, a < 16 → (Sem.run Tryz.prog (Instr.slice 9 (Value.string ⟨#[48, 49, 50, 51, 52, 53, 54, 55, 56, 57, 97, 98, 99, 100, 101, 102]⟩) (some (Value.int IntKind.u8 (a : Nat))) (some (Value.int IntKind.u8 ((a : Nat) + 1))) none) w) = .ok (.string ⟨#[hxS a]⟩) w
 | 0, _ => by kernel_rfl
 | 1, _ => by kernel_rfl
 | 2, _ => by kernel_rfl
 | 3, _ => by kernel_rfl
 | 4, _ => by kernel_rfl
 | 5, _ => by kernel_rfl
 | 6, _ => by kernel_rfl
 | 7, _ => by kernel_rfl
 | 8, _ => by kernel_rfl
 | 9, _ => by kernel_rfl
 | 10, _ => by kernel_rfl
 | 11, _ => by kernel_rfl
 | 12, _ => by kernel_rfl
 | 13, _ => by kernel_rfl
 | 14, _ => by kernel_rfl
 | 15, _ => by kernel_rfl
 | n + 16, h => absurd h (by omega)
theorem ext_one {s : ByteArray} {k : Nat} (h : k < s.size) : s.extract k (k + 1) = ⟨#[s[k]]⟩ := by
 apply ByteArray.ext
 rw [ByteArray.data_extract]
 apply Array.ext
 ·have : k < s.data.size := h
  simp
  omega
 ·intro i h1 h2
  have : i = 0 := by simp at h2; omega
  subst this
  simp
  rfl
theorem slice_one {s : ByteArray} {k : Nat} (h : k < s.size) (w : World) : Sem.run Tryz.prog (Instr.slice 9 (Value.string s) (some (Value.int IntKind.i64 (k : Nat))) (some (Value.int IntKind.i64 ((k : Nat) + 1))) none) w = .ok (.string ⟨#[s[k]]⟩) w := by
 have := run_slice_string (P := Tryz.prog) w 9 s .i64 .i64 (k : Nat) ((k : Nat) + 1) Tryz.underlying9 (by omega) (by omega) (by omega)
 have h2 : ((k : Int) + 1).toNat = k + 1 := by omega
 rw [h2, Int.toNat_natCast, ext_one h] at this
 exact this
def HxPost (W : World) (l : List UInt8) (e : Ending) (w' : World) : Prop := ∃ n, e = .returned (.string (ba l)) ∧ w' = W.drewN n
theorem rhex_any (c : UInt8) (W : World) : Calls Tryz.prog 96 #[.int .u8 (c.toNat : Nat)] W (HxPost W [hxS (c.toNat / 16), hxS (c.toNat % 16)]) := by
 obtain ⟨PP, hPP⟩ : ∃ PP, HxPost W [hxS (c.toNat / 16), hxS (c.toNat % 16)] = PP := ⟨_, rfl⟩
 rw [hPP]
 have HPP := Lib.hid hPP
 clear hPP
 have hcr := c.toNat_lt
 have hs1 := fun W => hxs_at W (c.toNat / 16) (by omega)
 have hs2 := fun W => hxs_at W (c.toNat % 16) (by omega)
 have hd1 : ((c.toNat : Nat) : Int) / 16 = ((c.toNat / 16 : Nat) : Int) := rfl
 have hbt : bits BinOp.and IntKind.u8 (c.toNat : Nat) 15 = ((c.toNat % 16 : Nat) : Int) := and15_u8 ⟨c.toNat, hcr⟩
 have hw1 : IntKind.u8.wrap ((c.toNat / 16 : Nat) + 1 : Int) = ((c.toNat / 16 : Nat) : Int) + 1 := by rw [IntKind.wrap_u8]; omega
 have hw2 : IntKind.u8.wrap ((c.toNat % 16 : Nat) + 1 : Int) = ((c.toNat % 16 : Nat) : Int) + 1 := by rw [IntKind.wrap_u8]; omega
 generalize hxS (c.toNat / 16) = d1 at *
 generalize hxS (c.toNat % 16) = d2 at *
 generalize c.toNat / 16 = m1 at *
 generalize c.toNat % 16 = m2 at *
 have hct : (⟨#[d1]⟩ : ByteArray) ++ (⟨#[d2]⟩ : ByteArray) = ba [d1, d2] := rfl
 go_enter Tryz.func96, Tryz.ntmps96
 go_upto_region 1 with fail
 go_quiet (fail)
 go_wp2_with fail
 rw [← HPP.out]
 exact ⟨_, rfl, rfl⟩
theorem rquoted_any (s : ByteArray) (W : World) (hs : s.size ≤ 1048577) : Calls Tryz.prog 50 #[.string s] W (TxPost W (quoteS (bs s))) := by
 obtain ⟨PP, hPP⟩ : ∃ PP, TxPost W (quoteS (bs s)) = PP := ⟨_, rfl⟩
 rw [hPP]
 have HPP := Lib.hid hPP
 clear hPP
 go_enter Tryz.func50, Tryz.ntmps50
 go_wp2_with fail
 go_loopw [3, 4] (fun s3 s4 wr => ∃ (k : Nat) (t : ByteArray), s3 = .string t ∧ s4 = .int .i64 (k : Nat) ∧ k ≤ s.size ∧ Hid (St t (qK (bs s) k)) ∧ Hid (Below W.heap.size W wr)) (fun _ i _ => s.size - (intOf i).toNat)
 case atStart => exact ⟨0, _, rfl, rfl, Nat.zero_le _, by show St _ _; rw [qK_zero]; rfl, Below.refl _ _⟩
 case round =>
  obtain ⟨k, t, rfl, rfl, hk, HT, HB⟩ := hrel
  have hl := qK_len (bs s) k
  by_cases hlt : k < s.size
  ·have HK := Lib.hid (@qK_succ (bs s) k s[k] (by unfold bs; simp [hlt]; rfl))
   have hsl := fun W => slice_one hlt W
   obtain ⟨c, hc⟩ : ∃ c, s[k] = c := ⟨_, rfl⟩
   rw [hc] at HK hsl
   have HC1 : Hid (St ⟨#[c]⟩ [c]) := St.lit [c]
   have hcr := c.toNat_lt
   generalize qK (bs s) k = Q0 at *
   by_cases h1 : c.toNat = 34 ∨ c.toNat = 92
   ·have h1' : c = 34 ∨ c = 92 := by rcases h1 with h | h; exact .inl (UInt8.toNat_inj.1 h); exact .inr (UInt8.toNat_inj.1 h)
    clear h1 hcr
    rcases h1' with rfl | rfl
    ·have HE : Hid (escS 34 = [92, 34]) := by show _ = _; rfl
     have q1 : ¬ 9223372036854775807 < t.size + 1 := by have := HT.out.size; (try simp only [length_append, length_cons, length_nil] at *); omega
     obtain ⟨s1, k1⟩ : ∃ s1, t ++ (⟨#[92]⟩ : ByteArray) = s1 := ⟨_, rfl⟩
     have S1 : Hid (St s1 (Q0 ++ [92])) := St.cat (HT.out) (St.lit [92]) k1
     have q2 : ¬ 9223372036854775807 < s1.size + 1 := by have := S1.out.size; (try simp only [length_append, length_cons, length_nil] at *); omega
     obtain ⟨s2, k2⟩ : ∃ s2, s1 ++ (⟨#[34]⟩ : ByteArray) = s2 := ⟨_, rfl⟩
     have S2 : Hid (St s2 ((Q0 ++ [92]) ++ [34])) := St.cat (S1.out) (St.lit [34]) k2
     go_wp2_with fail
     go_roundw
     case rel => exact ⟨k + 1, s2, rfl, by go_num, by omega, by show St _ _; rw [HK.out, HE.out]; have h := S2.out; rw [List.append_assoc] at h; exact h, HB.out⟩
     case measure => simp [intOf]; omega
    ·have HE : Hid (escS 92 = [92, 92]) := by show _ = _; rfl
     have q1 : ¬ 9223372036854775807 < t.size + 1 := by have := HT.out.size; (try simp only [length_append, length_cons, length_nil] at *); omega
     obtain ⟨s1, k1⟩ : ∃ s1, t ++ (⟨#[92]⟩ : ByteArray) = s1 := ⟨_, rfl⟩
     have S1 : Hid (St s1 (Q0 ++ [92])) := St.cat (HT.out) (St.lit [92]) k1
     have q2 : ¬ 9223372036854775807 < s1.size + 1 := by have := S1.out.size; (try simp only [length_append, length_cons, length_nil] at *); omega
     obtain ⟨s2, k2⟩ : ∃ s2, s1 ++ (⟨#[92]⟩ : ByteArray) = s2 := ⟨_, rfl⟩
     have S2 : Hid (St s2 ((Q0 ++ [92]) ++ [92])) := St.cat (S1.out) (St.lit [92]) k2
     go_wp2_with fail
     go_roundw
     case rel => exact ⟨k + 1, s2, rfl, by go_num, by omega, by show St _ _; rw [HK.out, HE.out]; have h := S2.out; rw [List.append_assoc] at h; exact h, HB.out⟩
     case measure => simp [intOf]; omega
   ·have e1 : ((c.toNat : Int) == 34) = false := beq_eq_false_iff_ne.2 (by omega)
    have e2 : ((c.toNat : Int) == 92) = false := beq_eq_false_iff_ne.2 (by omega)
    have hn : ¬ (c = 34 ∨ c = 92) := fun h => h1 (by rcases h with rfl | rfl; exact .inl rfl; exact .inr rfl)
    have HN := Lib.hid hn
    clear hn
    by_cases h2 : c.toNat < 32 ∨ 126 < c.toNat
    ·have HE : Hid (escS c = [92, 120, hxS (c.toNat / 16), hxS (c.toNat % 16)]) := by show _ = _; unfold escS; rw [if_neg HN.out, if_pos h2]
     have q1 : ¬ 9223372036854775807 < t.size + 2 := by have := HT.out.size; (try simp only [length_append, length_cons, length_nil] at *); omega
     obtain ⟨s1, k1⟩ : ∃ s1, t ++ (⟨#[92, 120]⟩ : ByteArray) = s1 := ⟨_, rfl⟩
     have S1 : Hid (St s1 (Q0 ++ [92, 120])) := St.cat (HT.out) (St.lit [92, 120]) k1
     have HX : Hid (St (ba [hxS (c.toNat / 16), hxS (c.toNat % 16)]) [hxS (c.toNat / 16), hxS (c.toNat % 16)]) := rfl
     have CX := Lib.hid (fun W => rhex_any c W)
     generalize hxS (c.toNat / 16) = d1 at *
     generalize hxS (c.toNat % 16) = d2 at *
     obtain ⟨hx, hhx⟩ : ∃ hx, ba [d1, d2] = hx := ⟨_, rfl⟩
     rw [hhx] at HX
     have HHX := Lib.hid hhx
     clear hhx
     have q2 : ¬ 9223372036854775807 < s1.size + hx.size := by have := S1.out.size; have := HX.out.size; (try simp only [length_append, length_cons, length_nil] at *); omega
     obtain ⟨s2, k2⟩ : ∃ s2, s1 ++ hx = s2 := ⟨_, rfl⟩
     have S2 := Lib.hid (St.cat (S1.out) (HX.out) k2)
     have key : ∀ W2 : World, Calls Tryz.prog 96 #[.int .u8 (c.toNat : Nat)] W2 (fun e w' => ∃ n, e = .returned (.string hx) ∧ w' = W2.drewN n) := fun W2 => by rw [← HHX.out]; exact CX.out W2
     have CK := Lib.hid key
     clear key CX
     rcases h2 with h2 | h2
     ·have e3 : (c.toNat : Int) < 32 := by omega
      clear h2
      go_wp2_with (go_at_call 96; refine (CK.out _).mono ?_; rintro e5 w5 ⟨dn, rfl, rfl⟩)
      go_roundw
      case rel => exact ⟨k + 1, s2, rfl, by go_num, by omega, by show St _ _; rw [HK.out, HE.out]; have h := S2.out; rw [List.append_assoc] at h; exact h, bel_dn HB.out dn⟩
      case measure => simp [intOf]; omega
     ·have e3 : ¬ (c.toNat : Int) < 32 := by omega
      have e4 : (126 : Int) < (c.toNat : Int) := by omega
      clear h2
      go_wp2_with (go_at_call 96; refine (CK.out _).mono ?_; rintro e5 w5 ⟨dn, rfl, rfl⟩)
      go_roundw
      case rel => exact ⟨k + 1, s2, rfl, by go_num, by omega, by show St _ _; rw [HK.out, HE.out]; have h := S2.out; rw [List.append_assoc] at h; exact h, bel_dn HB.out dn⟩
      case measure => simp [intOf]; omega
    ·have HE : Hid (escS c = [c]) := by show _ = _; unfold escS; rw [if_neg HN.out, if_neg h2]
     have q1 : ¬ 9223372036854775807 < t.size + 1 := by have := HT.out.size; have := HC1.out.size; (try simp only [length_append, length_cons, length_nil] at *); omega
     obtain ⟨s1, k1⟩ : ∃ s1, t ++ (⟨#[c]⟩ : ByteArray) = s1 := ⟨_, rfl⟩
     have S1 := Lib.hid (St.cat (HT.out) (HC1.out) k1)
     have e3 : ¬ (c.toNat : Int) < 32 := by omega
     have e4 : ¬ (126 : Int) < (c.toNat : Int) := by omega
     go_wp2_with fail
     go_roundw
     case rel => exact ⟨k + 1, s1, rfl, by go_num, by omega, by show St _ _; rw [HK.out, HE.out]; exact S1.out, HB.out⟩
     case measure => simp [intOf]; omega
  ·obtain rfl : k = s.size := by omega
   have hA : qK (bs s) s.size ++ [34] = quoteS (bs s) := by have h := qK_all (bs s); have e : (bs s).length = s.size := (by unfold bs; simp); rw [e] at h; exact h
   have HA := Lib.hid hA
   clear hA
   have hjj : ¬ ((s.size : Nat) : Int) < ((s.size : Nat) : Int) := by omega
   generalize qK (bs s) s.size = Q0 at *
   have q1 : ¬ 9223372036854775807 < t.size + 1 := by have := HT.out.size; (try simp only [length_append, length_cons, length_nil] at *); omega
   obtain ⟨s1, k1⟩ : ∃ s1, t ++ (⟨#[34]⟩ : ByteArray) = s1 := ⟨_, rfl⟩
   have S1 : Hid (St s1 (Q0 ++ [34])) := St.cat (HT.out) (St.lit [34]) k1
   go_wp2_with fail
   rw [← HPP.out]
   exact ⟨_, rfl, by rw [← HA.out]; exact S1.out, HB.out⟩
end
section
theorem spN_ : (∀ ls : List (List UInt8), spsB ls = (ls.map spB).flatten) ∧ (∀ l : List UInt8, spB l = 32 :: l) ∧ (∀ {α β : Type} (f : α → β) (a : α) (l : List α), (a :: l).map f = f a :: l.map f) ∧ (∀ {α β : Type} (f : α → β), ([] : List α).map f = []) ∧ (∀ {α : Type} (l : List α) (L : List (List α)), (l :: L).flatten = l ++ L.flatten) ∧ (∀ {α : Type}, ([] : List (List α)).flatten = []) ∧ (∀ {α : Type} (l m : List α), (l ++ m).length = l.length + m.length) ∧ (∀ {α : Type} (a : α) (l : List α), (a :: l).length = l.length + 1) ∧ ∀ {α : Type}, ([] : List α).length = 0 :=
  ⟨fun _ => rfl, fun _ => rfl, fun _ _ _ => rfl, fun _ => rfl, fun _ _ => rfl, rfl, fun _ _ => List.length_append, fun _ _ => rfl, rfl⟩
end
section
open List (map_nil flatten_nil)
set_option linter.unusedSimpArgs false
set_option maxHeartbeats 8000000
set_option maxRecDepth 100000
open Go Go.RowKit
attribute [local go_sem ↓] Go.wp_at_zero Go.wp_at_succ

def Pw (W : World) : Prop := 5 < W.heap.size ∧ Pow W
theorem Pw.up {W W' : World} (h : Pw W) (hb : Below W.heap.size W W') : Pw W' := ⟨Nat.lt_of_lt_of_le h.1 hb.size, h.2.block (hb.block _ h.1)⟩
theorem rdig_any {n : Int} (hn : NmN n) (W : World) (hP : Pw W) : Calls Tryz.prog 48 #[.int .u64 n] W (TxPost W (digW n)) := by
 obtain ⟨u, rfl⟩ : ∃ u : Nat, n = (u : Int) := ⟨n.toNat, by have := hn.1; omega⟩
 refine (rdigits_any u (by have := hn.2; omega) W hP.2).mono ?_
 rintro e w ⟨rfl, hb⟩
 exact ⟨_, rfl, rfl, hb⟩
def coreR (c : CoreT) : List UInt8 := bs c.word ++ ((if c.has then spsB [(if c.minus then [45] else []) ++ digW c.num] else []) ++ capsB c.caps)
theorem coreW_R (c : CoreT) : coreW c = 32 :: coreR c := by
 unfold coreW coreR
 simp [spsB, spB]

theorem rcore_any (c : CoreT) (W : World) {cs : List Value} (hP : Pw W) (hN : NmN c.num) (hR : CoreP All W cs c) (hsz : (coreR c).length ≤ 140737488355328) :
  Calls Tryz.prog 46 #[.agg cs.toArray] W (TxPost W (coreR c)) := by
 obtain ⟨PP, hPP⟩ : ∃ PP, TxPost W (coreR c) = PP := ⟨_, rfl⟩
 rw [hPP]
 have HPP := Lib.hid hPP
 obtain ⟨cv, rfl, hcaps⟩ := hR
 obtain ⟨cq, cc, rfl, -⟩ := UsP.shape hcaps
 have HCA := Lib.hid hcaps
 have HP := Lib.hid hP
 have HN := Lib.hid hN
 have HZ := Lib.hid hsz
 clear hPP hcaps hP hN hsz
 obtain ⟨WA, hWA⟩ : ∃ WA, W.alloc (.cells #[.string c.word, .bool c.has, .bool c.minus, .int .u64 c.num, .slice cq c.caps.length cc, .int .i64 c.pos] 78) = WA := ⟨_, rfl⟩
 obtain ⟨X, hX⟩ : ∃ X, W.heap.size = X := ⟨_, rfl⟩
 have HBA : Hid (Below W.heap.size W WA) := by rw [← hWA]; exact (Below.refl _ W).alloc (Nat.le_refl _) _
 have hza := aRow_ hWA hX
 have hsa : WA.heap.size = X + 1 := by rw [← hWA, ← hX]; simp
 have lxa : X < WA.heap.size := by omega
 obtain ⟨z0, z1, z2, z3, z4, z5⟩ := row6_ hza
 have HZA := Lib.hid hza
 have HX := Lib.hid hX
 have HWA := Lib.hid hWA
 clear hza hX hWA hsa
 have HX0 := HZA
 have HB0 := HBA
 clear z0 z1 z2 z3 z4 z5 lxa
 obtain ⟨cX0, cX1, cX2, cX3, cX4, cX5⟩ := row6_ HX0.out
 have ltX : X < WA.heap.size := (Array.getElem?_eq_some_iff.1 HX0.out).1
 go_enter Tryz.func46, Tryz.ntmps46
 go_upto_region 1 with fail
 rw [HX.out, HWA.out]
 have HW0 : Hid (St c.word (bs c.word)) := St.bs _
 rcases Bool.eq_false_or_eq_true c.has with hh | hh
 ·rw [hh] at cX1
  have HH := Lib.hid hh
  clear hh
  rcases Bool.eq_false_or_eq_true c.minus with hm | hm
  ·rw [hm] at cX2
   have HM := Lib.hid hm
   clear hm
   have q1 : ¬ 9223372036854775807 < c.word.size + 1 := by have h0 := HW0.out.size; (try simp only [spN_] at h0); have hz := HZ.out; unfold coreR capsB at hz; (simp only [HH.out, HM.out, if_true, if_false, spN_, Bool.false_eq_true] at hz); omega
   obtain ⟨s1, k1⟩ : ∃ s1, c.word ++ (⟨#[32]⟩ : ByteArray) = s1 := ⟨_, rfl⟩
   have S1 : Hid (St s1 (bs c.word ++ [32])) := St.cat HW0.out (St.lit [32]) k1
   have q2 : ¬ 9223372036854775807 < s1.size + 1 := by have h0 := S1.out.size; (try simp only [spN_] at h0); have hz := HZ.out; unfold coreR capsB at hz; (simp only [HH.out, HM.out, if_true, if_false, spN_, Bool.false_eq_true] at hz); omega
   obtain ⟨s2, k2⟩ : ∃ s2, s1 ++ (⟨#[45]⟩ : ByteArray) = s2 := ⟨_, rfl⟩
   have S2 : Hid (St s2 (bs c.word ++ [32] ++ [45])) := St.cat S1.out (St.lit [45]) k2
   have C4 := Lib.hid (rdig_any HN.out WA (HP.out.up HB0.out))
   go_wp2_with (go_at_call 48; refine C4.out.mono ?_)
   clear cX0 cX1 cX2 cX3 cX4 cX5 ltX
   clear q1 k1 q2 k2
   rintro e4 w4 ⟨x4, rfl, hx4, hb4⟩
   have HX_4 : Hid (St x4 (digW c.num)) := hx4
   clear hx4
   have HB4 := Lib.hid (HB0.out.trans (hb4.mono HB0.out.size))
   have hX4 := (hb4.block X (Array.getElem?_eq_some_iff.1 HX0.out).1).trans HX0.out
   obtain ⟨cX0, cX1, cX2, cX3, cX4, cX5⟩ := row6_ hX4
   have ltX : X < w4.heap.size := (Array.getElem?_eq_some_iff.1 hX4).1
   have HX4 := Lib.hid hX4
   clear hX4
   clear hb4 C4
   have q3 : ¬ 9223372036854775807 < s2.size + (x4).size := by have h0 := S2.out.size; (try simp only [spN_] at h0); have h1 := HX_4.out.size; (try simp only [spN_] at h1); have hz := HZ.out; unfold coreR capsB at hz; (simp only [HH.out, HM.out, if_true, if_false, spN_, Bool.false_eq_true] at hz); omega
   obtain ⟨s3, k3⟩ : ∃ s3, s2 ++ x4 = s3 := ⟨_, rfl⟩
   have S3 := Lib.hid (St.cat S2.out (HX_4.out) k3)
   by_cases hc : c.caps.length = 0
   ·rw [hc] at cX4
    have HC := Lib.hid hc
    clear hc
    have HL : Hid (coreR c = bs c.word ++ [32] ++ [45] ++ (digW c.num)) := by show _ = _; unfold coreR capsB; simp [HH.out, HM.out, HC.out, spsB, spB]
    go_wp2_with fail
    rw [← HPP.out]
    exact ⟨s3, rfl, by show St _ _; rw [HL.out]; exact S3.out, HB4.out⟩
   ·have jhc : (0 : Int) < ((c.caps.length : Nat) : Int) := by omega
    have HC := Lib.hid hc
    clear hc
    have q4 : ¬ 9223372036854775807 < s3.size + 6 := by have h0 := S3.out.size; (try simp only [spN_] at h0); have hz := HZ.out; unfold coreR capsB at hz; (simp only [HH.out, HM.out, HC.out, if_true, if_false, spN_, Bool.false_eq_true] at hz); omega
    obtain ⟨s4, k4⟩ : ∃ s4, s3 ++ (⟨#[32, 99, 97, 112, 115, 32]⟩ : ByteArray) = s4 := ⟨_, rfl⟩
    have S4 : Hid (St s4 (bs c.word ++ [32] ++ [45] ++ (digW c.num) ++ [32, 99, 97, 112, 115, 32])) := St.cat S3.out (St.lit [32, 99, 97, 112, 115, 32]) k4
    have C5 := Lib.hid (rlisted_any (FlP.kept HCA.out (All.kept HB4.out)) (by have hz := HZ.out; unfold coreR capsB at hz; (simp only [HH.out, HM.out, HC.out, if_true, if_false, spN_, Bool.false_eq_true] at hz); omega))
    go_wp2_with (go_at_call 49; refine C5.out.mono ?_)
    clear cX0 cX1 cX2 cX3 cX4 cX5 ltX
    clear q3 k3 q4 k4
    rintro e5 w5 ⟨x5, rfl, hx5, hb5⟩
    have HX_5 : Hid (St x5 (usesB c.caps)) := hx5
    clear hx5
    have HB5 := Lib.hid (HB4.out.trans (hb5.mono HB4.out.size))
    have hX5 := (hb5.block X (Array.getElem?_eq_some_iff.1 HX4.out).1).trans HX4.out
    obtain ⟨cX0, cX1, cX2, cX3, cX4, cX5⟩ := row6_ hX5
    have ltX : X < w5.heap.size := (Array.getElem?_eq_some_iff.1 hX5).1
    have HX5 := Lib.hid hX5
    clear hX5
    clear hb5 C5
    have q5 : ¬ 9223372036854775807 < s4.size + (x5).size := by have h0 := S4.out.size; (try simp only [spN_] at h0); have h1 := HX_5.out.size; (try simp only [spN_] at h1); have hz := HZ.out; unfold coreR capsB at hz; (simp only [HH.out, HM.out, HC.out, if_true, if_false, spN_, Bool.false_eq_true] at hz); omega
    obtain ⟨s5, k5⟩ : ∃ s5, s4 ++ x5 = s5 := ⟨_, rfl⟩
    have S5 := Lib.hid (St.cat S4.out (HX_5.out) k5)
    have HL : Hid (coreR c = bs c.word ++ [32] ++ [45] ++ (digW c.num) ++ [32, 99, 97, 112, 115, 32] ++ (usesB c.caps)) := by show _ = _; unfold coreR capsB; simp [HH.out, HM.out, HC.out, spsB, spB]
    go_wp2_with fail
    rw [← HPP.out]
    exact ⟨s5, rfl, by show St _ _; rw [HL.out]; exact S5.out, HB5.out⟩
  ·rw [hm] at cX2
   have HM := Lib.hid hm
   clear hm
   have q6 : ¬ 9223372036854775807 < c.word.size + 1 := by have h0 := HW0.out.size; (try simp only [spN_] at h0); have hz := HZ.out; unfold coreR capsB at hz; (simp only [HH.out, HM.out, if_true, if_false, spN_, Bool.false_eq_true] at hz); omega
   obtain ⟨s6, k6⟩ : ∃ s6, c.word ++ (⟨#[32]⟩ : ByteArray) = s6 := ⟨_, rfl⟩
   have S6 : Hid (St s6 (bs c.word ++ [32])) := St.cat HW0.out (St.lit [32]) k6
   have C4 := Lib.hid (rdig_any HN.out WA (HP.out.up HB0.out))
   go_wp2_with (go_at_call 48; refine C4.out.mono ?_)
   clear cX0 cX1 cX2 cX3 cX4 cX5 ltX
   clear q6 k6
   rintro e4 w4 ⟨x4, rfl, hx4, hb4⟩
   have HX_4 : Hid (St x4 (digW c.num)) := hx4
   clear hx4
   have HB4 := Lib.hid (HB0.out.trans (hb4.mono HB0.out.size))
   have hX4 := (hb4.block X (Array.getElem?_eq_some_iff.1 HX0.out).1).trans HX0.out
   obtain ⟨cX0, cX1, cX2, cX3, cX4, cX5⟩ := row6_ hX4
   have ltX : X < w4.heap.size := (Array.getElem?_eq_some_iff.1 hX4).1
   have HX4 := Lib.hid hX4
   clear hX4
   clear hb4 C4
   have q7 : ¬ 9223372036854775807 < s6.size + (x4).size := by have h0 := S6.out.size; (try simp only [spN_] at h0); have h1 := HX_4.out.size; (try simp only [spN_] at h1); have hz := HZ.out; unfold coreR capsB at hz; (simp only [HH.out, HM.out, if_true, if_false, spN_, Bool.false_eq_true] at hz); omega
   obtain ⟨s7, k7⟩ : ∃ s7, s6 ++ x4 = s7 := ⟨_, rfl⟩
   have S7 := Lib.hid (St.cat S6.out (HX_4.out) k7)
   by_cases hc : c.caps.length = 0
   ·rw [hc] at cX4
    have HC := Lib.hid hc
    clear hc
    have HL : Hid (coreR c = bs c.word ++ [32] ++ (digW c.num)) := by show _ = _; unfold coreR capsB; simp [HH.out, HM.out, HC.out, spsB, spB]
    go_wp2_with fail
    rw [← HPP.out]
    exact ⟨s7, rfl, by show St _ _; rw [HL.out]; exact S7.out, HB4.out⟩
   ·have jhc : (0 : Int) < ((c.caps.length : Nat) : Int) := by omega
    have HC := Lib.hid hc
    clear hc
    have q8 : ¬ 9223372036854775807 < s7.size + 6 := by have h0 := S7.out.size; (try simp only [spN_] at h0); have hz := HZ.out; unfold coreR capsB at hz; (simp only [HH.out, HM.out, HC.out, if_true, if_false, spN_, Bool.false_eq_true] at hz); omega
    obtain ⟨s8, k8⟩ : ∃ s8, s7 ++ (⟨#[32, 99, 97, 112, 115, 32]⟩ : ByteArray) = s8 := ⟨_, rfl⟩
    have S8 : Hid (St s8 (bs c.word ++ [32] ++ (digW c.num) ++ [32, 99, 97, 112, 115, 32])) := St.cat S7.out (St.lit [32, 99, 97, 112, 115, 32]) k8
    have C5 := Lib.hid (rlisted_any (FlP.kept HCA.out (All.kept HB4.out)) (by have hz := HZ.out; unfold coreR capsB at hz; (simp only [HH.out, HM.out, HC.out, if_true, if_false, spN_, Bool.false_eq_true] at hz); omega))
    go_wp2_with (go_at_call 49; refine C5.out.mono ?_)
    clear cX0 cX1 cX2 cX3 cX4 cX5 ltX
    clear q7 k7 q8 k8
    rintro e5 w5 ⟨x5, rfl, hx5, hb5⟩
    have HX_5 : Hid (St x5 (usesB c.caps)) := hx5
    clear hx5
    have HB5 := Lib.hid (HB4.out.trans (hb5.mono HB4.out.size))
    have hX5 := (hb5.block X (Array.getElem?_eq_some_iff.1 HX4.out).1).trans HX4.out
    obtain ⟨cX0, cX1, cX2, cX3, cX4, cX5⟩ := row6_ hX5
    have ltX : X < w5.heap.size := (Array.getElem?_eq_some_iff.1 hX5).1
    have HX5 := Lib.hid hX5
    clear hX5
    clear hb5 C5
    have q9 : ¬ 9223372036854775807 < s8.size + (x5).size := by have h0 := S8.out.size; (try simp only [spN_] at h0); have h1 := HX_5.out.size; (try simp only [spN_] at h1); have hz := HZ.out; unfold coreR capsB at hz; (simp only [HH.out, HM.out, HC.out, if_true, if_false, spN_, Bool.false_eq_true] at hz); omega
    obtain ⟨s9, k9⟩ : ∃ s9, s8 ++ x5 = s9 := ⟨_, rfl⟩
    have S9 := Lib.hid (St.cat S8.out (HX_5.out) k9)
    have HL : Hid (coreR c = bs c.word ++ [32] ++ (digW c.num) ++ [32, 99, 97, 112, 115, 32] ++ (usesB c.caps)) := by show _ = _; unfold coreR capsB; simp [HH.out, HM.out, HC.out, spsB, spB]
    go_wp2_with fail
    rw [← HPP.out]
    exact ⟨s9, rfl, by show St _ _; rw [HL.out]; exact S9.out, HB5.out⟩
 ·rw [hh] at cX1
  have HH := Lib.hid hh
  clear hh
  by_cases hc : c.caps.length = 0
  ·rw [hc] at cX4
   have HC := Lib.hid hc
   clear hc
   have HL : Hid (coreR c = bs c.word) := by show _ = _; unfold coreR capsB; simp [HH.out, HC.out, spsB, spB]
   go_wp2_with fail
   rw [← HPP.out]
   exact ⟨c.word, rfl, by show St _ _; rw [HL.out]; exact HW0.out, HB0.out⟩
  ·have jhc : (0 : Int) < ((c.caps.length : Nat) : Int) := by omega
   have HC := Lib.hid hc
   clear hc
   have q10 : ¬ 9223372036854775807 < c.word.size + 6 := by have h0 := HW0.out.size; (try simp only [spN_] at h0); have hz := HZ.out; unfold coreR capsB at hz; (simp only [HH.out, HC.out, if_true, if_false, spN_, Bool.false_eq_true] at hz); omega
   obtain ⟨s10, k10⟩ : ∃ s10, c.word ++ (⟨#[32, 99, 97, 112, 115, 32]⟩ : ByteArray) = s10 := ⟨_, rfl⟩
   have S10 : Hid (St s10 (bs c.word ++ [32, 99, 97, 112, 115, 32])) := St.cat HW0.out (St.lit [32, 99, 97, 112, 115, 32]) k10
   have C5 := Lib.hid (rlisted_any (FlP.kept HCA.out (All.kept HB0.out)) (by have hz := HZ.out; unfold coreR capsB at hz; (simp only [HH.out, HC.out, if_true, if_false, spN_, Bool.false_eq_true] at hz); omega))
   go_wp2_with (go_at_call 49; refine C5.out.mono ?_)
   clear cX0 cX1 cX2 cX3 cX4 cX5 ltX
   clear q10 k10
   rintro e5 w5 ⟨x5, rfl, hx5, hb5⟩
   have HX_5 : Hid (St x5 (usesB c.caps)) := hx5
   clear hx5
   have HB5 := Lib.hid (HB0.out.trans (hb5.mono HB0.out.size))
   have hX5 := (hb5.block X (Array.getElem?_eq_some_iff.1 HX0.out).1).trans HX0.out
   obtain ⟨cX0, cX1, cX2, cX3, cX4, cX5⟩ := row6_ hX5
   have ltX : X < w5.heap.size := (Array.getElem?_eq_some_iff.1 hX5).1
   have HX5 := Lib.hid hX5
   clear hX5
   clear hb5 C5
   have q11 : ¬ 9223372036854775807 < s10.size + (x5).size := by have h0 := S10.out.size; (try simp only [spN_] at h0); have h1 := HX_5.out.size; (try simp only [spN_] at h1); have hz := HZ.out; unfold coreR capsB at hz; (simp only [HH.out, HC.out, if_true, if_false, spN_, Bool.false_eq_true] at hz); omega
   obtain ⟨s11, k11⟩ : ∃ s11, s10 ++ x5 = s11 := ⟨_, rfl⟩
   have S11 := Lib.hid (St.cat S10.out (HX_5.out) k11)
   have HL : Hid (coreR c = bs c.word ++ [32, 99, 97, 112, 115, 32] ++ (usesB c.caps)) := by show _ = _; unfold coreR capsB; simp [HH.out, HC.out, spsB, spB]
   go_wp2_with fail
   rw [← HPP.out]
   exact ⟨s11, rfl, by show St _ _; rw [HL.out]; exact S11.out, HB5.out⟩
theorem rwrap_any (x : WrapT) (W : World) (k : Nat) {cs : List Value} (hP : Pw W) (hN : NmW x) (hW : x.when_ = true → rightB x.want = true) (hR : WrapP All W k cs x) (hsz : (wrapW x).length ≤ 140737488355328) :
  Calls Tryz.prog 47 #[.agg cs.toArray] W (TxPost W (wrapW x)) := by
 obtain ⟨PP, hPP⟩ : ∃ PP, TxPost W (wrapW x) = PP := ⟨_, rfl⟩
 rw [hPP]
 have HPP := Lib.hid hPP
 have hR0 := hR
 obtain ⟨v1, u1, w0, w1, w2, rfl, hnums, hcaps, hwant⟩ := hR0
 obtain ⟨k1, q1, m1, -, ew⟩ := hwant.form
 injection ew with ew0 ew
 injection ew with ew1 ew
 injection ew with ew2
 subst ew0; subst ew1; subst ew2
 obtain ⟨nq, nc, rfl, -⟩ := NumsP.shape hnums
 obtain ⟨uq, uc, rfl, -⟩ := UsP.shape hcaps
 have hn9 : x.nums.length ≤ 9223372036854775807 := (by obtain ⟨_, _, _, h⟩ := NumsP.shape hnums; exact h)
 have HNS := Lib.hid hnums
 have HCA := Lib.hid hcaps
 have HWN := Lib.hid hwant
 have HP := Lib.hid hP
 have HNM := Lib.hid hN
 have HWR := Lib.hid hW
 have HZ := Lib.hid hsz
 clear hPP hcaps hnums hwant hP hN hW hsz hR
 obtain ⟨WA, hWA⟩ : ∃ WA, W.alloc (.cells #[.bool x.opn, .string x.word, .string x.sub, .slice nq x.nums.length nc, .slice uq x.caps.length uc, .bool x.when_, .int .i64 x.want.op, .int .i64 x.want.num, .slice q1 x.want.l.length m1, .int .i64 x.pos] 90) = WA := ⟨_, rfl⟩
 obtain ⟨X, hX⟩ : ∃ X, W.heap.size = X := ⟨_, rfl⟩
 have HBA : Hid (Below W.heap.size W WA) := by rw [← hWA]; exact (Below.refl _ W).alloc (Nat.le_refl _) _
 have hza := aRow_ hWA hX
 have hsa : WA.heap.size = X + 1 := by rw [← hWA, ← hX]; simp
 have lxa : X < WA.heap.size := by omega
 obtain ⟨z0, z1, z2, z3, z4, z5, z6, z7, z8, z9⟩ := row10_ hza
 have HZA := Lib.hid hza
 have HX := Lib.hid hX
 have HWA := Lib.hid hWA
 clear hza hX hWA hsa
 have HX0 := HZA
 have HB0 := HBA
 clear z0 z1 z2 z3 z4 z5 z6 z7 z8 z9 lxa
 obtain ⟨cX0, cX1, cX2, cX3, cX4, cX5, cX6, cX7, cX8, cX9⟩ := row10_ HX0.out
 have ltX : X < WA.heap.size := (Array.getElem?_eq_some_iff.1 HX0.out).1
 go_enter Tryz.func47, Tryz.ntmps47
 go_upto_region 1 with fail
 rw [HX.out, HWA.out]
 have HA0 : Hid (St (⟨#[32, 119, 105, 116, 104, 32]⟩ : ByteArray) [32, 119, 105, 116, 104, 32]) := St.lit _
 rcases Bool.eq_false_or_eq_true x.opn with ho | ho
 ·rw [ho] at cX0
  have HO := Lib.hid ho
  clear ho
  have k12 : (⟨#[32, 119, 105, 116, 104, 32]⟩ : ByteArray) ++ (⟨#[111, 112, 101, 110, 32]⟩ : ByteArray) = (⟨#[32, 119, 105, 116, 104, 32, 111, 112, 101, 110, 32]⟩ : ByteArray) := rfl
  have q12 := True.intro
  have S12 : Hid (St (⟨#[32, 119, 105, 116, 104, 32, 111, 112, 101, 110, 32]⟩ : ByteArray) [32, 119, 105, 116, 104, 32, 111, 112, 101, 110, 32]) := St.lit _
  have V13 : Hid (St (x.word) (bs x.word)) := St.bs _
  have q13 : ¬ 9223372036854775807 < 11 + (x.word).size := by have h0 := S12.out.size; (try simp only [spN_] at h0); have h1 := V13.out.size; (try simp only [spN_] at h1); have hz := HZ.out; unfold wrapW subB capsB whenW at hz; (simp only [HO.out, if_true, if_false, spN_, Bool.false_eq_true] at hz); omega
  obtain ⟨s13, k13⟩ : ∃ s13, (⟨#[32, 119, 105, 116, 104, 32, 111, 112, 101, 110, 32]⟩ : ByteArray) ++ x.word = s13 := ⟨_, rfl⟩
  have S13 := Lib.hid (St.cat S12.out (V13.out) k13)
  by_cases hs : x.sub.size = 0
  ·have hse := noname hs
   have HSU := Lib.hid hs
   rw [hse] at cX2
   clear hs hse
   have HS0 : Hid (St s13 ([32, 119, 105, 116, 104, 32, 111, 112, 101, 110, 32] ++ (bs x.word))) := S13
   have HX0c := HX0
   go_wp2_with fail
   go_loopw [3, 5, 25] (fun s3 s5 s25 wr => ∃ (j : Nat) (s : ByteArray), s3 = .string s ∧ s25 = .int .i64 (j : Nat) ∧ j ≤ x.nums.length ∧ Hid (St s ([32, 119, 105, 116, 104, 32, 111, 112, 101, 110, 32] ++ (bs x.word) ++ ((x.nums.take j).map fun n => spsB [digW n]).flatten)) ∧ Hid (Below W.heap.size W wr) ∧ Hid (wr.heap[X]? = some (.cells #[.bool x.opn, .string x.word, .string x.sub, .slice nq x.nums.length nc, .slice uq x.caps.length uc, .bool x.when_, .int .i64 x.want.op, .int .i64 x.want.num, .slice q1 x.want.l.length m1, .int .i64 x.pos] 90 (0, 0)))) (fun _ _ i _ => x.nums.length - (intOf i).toNat)
   case atStart => exact ⟨0, _, rfl, rfl, Nat.zero_le _, by show St _ _; rw [List.take_zero, map_nil, flatten_nil, List.append_nil]; exact HS0.out, HB0.out, HX0.out⟩
   case round =>
    obtain ⟨j, s, rfl, rfl, hj, HSj, HBr, HXr⟩ := hrel
    clear cX0 cX1 cX2 cX3 cX4 cX5 cX6 cX7 cX8 cX9 ltX
    clear q12 k12 q13 k13
    by_cases hlt : j < x.nums.length
    ·obtain ⟨nn, hnn⟩ : ∃ nn, x.nums[j]? = some nn := ⟨_, List.getElem?_eq_getElem hlt⟩
     obtain ⟨bb, o, cap2, e, -, hbl2, d0⟩ := HNS.out.at hnn
     injection e with e _ e3
     subst e; subst e3
     have y0 := (HBr.out.cell (p := ⟨bb, _, none⟩) hbl2).trans d0
     have HNR : Hid (NmN nn) := HNM.out.1 nn (List.mem_of_getElem? hnn)
     have h1 := flat_step (f := fun n => spsB [digW n]) hnn
     have h2 := flat_take_le (fun n => spsB [digW n]) x.nums (j + 1)
     have H1 := Lib.hid h1
     have H2 := Lib.hid h2
     have g0 : (j : Int) < ((x.nums.length : Nat) : Int) := by omega
     have g00 : (0 : Int) ≤ (j : Int) := by omega
     clear hnn hbl2 d0 h1 h2
     have q14 : ¬ 9223372036854775807 < s.size + 1 := by have h0 := HSj.out.size; (try simp only [spN_] at h0); have hz := HZ.out; unfold wrapW subB capsB whenW at hz; (simp only [HO.out, HSU.out, if_true, if_false, spN_, Bool.false_eq_true] at hz); have h2 := H2.out; rw [H1.out] at h2; (simp only [spN_] at h2); omega
     obtain ⟨s14, k14⟩ : ∃ s14, s ++ (⟨#[32]⟩ : ByteArray) = s14 := ⟨_, rfl⟩
     have S14 : Hid (St s14 ([32, 119, 105, 116, 104, 32, 111, 112, 101, 110, 32] ++ (bs x.word) ++ ((x.nums.take j).map fun n => spsB [digW n]).flatten ++ [32])) := St.cat HSj.out (St.lit [32]) k14
     have C3 := Lib.hid (rdig_any HNR.out wr (HP.out.up HBr.out))
     go_wp2_with (go_at_call 48; refine C3.out.mono ?_)
     clear q14 k14
     rintro e3 w3 ⟨x3, rfl, hx3, hb3⟩
     have HX_3 : Hid (St x3 (digW nn)) := hx3
     clear hx3
     have HB3 := Lib.hid (HBr.out.trans (hb3.mono HBr.out.size))
     have hbr3 := Lib.hid hb3
     clear hb3 C3
     have q15 : ¬ 9223372036854775807 < s14.size + (x3).size := by have h0 := S14.out.size; (try simp only [spN_] at h0); have h1 := HX_3.out.size; (try simp only [spN_] at h1); have hz := HZ.out; unfold wrapW subB capsB whenW at hz; (simp only [HO.out, HSU.out, if_true, if_false, spN_, Bool.false_eq_true] at hz); have h2 := H2.out; rw [H1.out] at h2; (simp only [spN_] at h2); omega
     obtain ⟨s15, k15⟩ : ∃ s15, s14 ++ x3 = s15 := ⟨_, rfl⟩
     have S15 := Lib.hid (St.cat S14.out (HX_3.out) k15)
     go_wp2_with fail
     go_roundw
     case rel => exact ⟨j + 1, s15, rfl, by go_num, by omega, by show St _ _; rw [H1.out]; have h := S15.out; simpa [spsB, spB] using h, HB3.out, (hbr3.out.block X (Array.getElem?_eq_some_iff.1 HXr.out).1).trans HXr.out⟩
     case measure => simp [intOf]; omega
    ·obtain rfl : j = x.nums.length := by omega
     have hjj : ¬ ((x.nums.length : Nat) : Int) < ((x.nums.length : Nat) : Int) := by omega
     have HSn : Hid (St s ([32, 119, 105, 116, 104, 32, 111, 112, 101, 110, 32] ++ (bs x.word) ++ (x.nums.map fun n => spsB [digW n]).flatten)) := by have h := HSj.out; rw [List.take_length] at h; exact h
     obtain ⟨cX0, cX1, cX2, cX3, cX4, cX5, cX6, cX7, cX8, cX9⟩ := row10_ HXr.out
     have ltX : X < wr.heap.size := (Array.getElem?_eq_some_iff.1 HXr.out).1
     by_cases hc : x.caps.length = 0
     ·rw [hc] at cX4
      have HC := Lib.hid hc
      clear hc
      rcases Bool.eq_false_or_eq_true x.when_ with hw | hw
      ·rw [hw] at cX5
       have HWH := Lib.hid hw
       clear hw
       have q16 : ¬ 9223372036854775807 < s.size + 6 := by have h0 := HSn.out.size; (try simp only [spN_] at h0); have hz := HZ.out; unfold wrapW subB capsB whenW at hz; (simp only [HO.out, HSU.out, HC.out, HWH.out, if_true, if_false, spN_, Bool.false_eq_true] at hz); omega
       obtain ⟨s16, k16⟩ : ∃ s16, s ++ (⟨#[32, 119, 104, 101, 110, 32]⟩ : ByteArray) = s16 := ⟨_, rfl⟩
       have S16 : Hid (St s16 ([32, 119, 105, 116, 104, 32, 111, 112, 101, 110, 32] ++ (bs x.word) ++ (x.nums.map fun n => spsB [digW n]).flatten ++ [32, 119, 104, 101, 110, 32])) := St.cat HSn.out (St.lit [32, 119, 104, 101, 110, 32]) k16
       have hrb := HWR.out HWH.out
       unfold rightB at hrb
       rw [Bool.and_eq_true, decide_eq_true_eq] at hrb
       have HRB := Lib.hid hrb
       clear hrb
       have C7 := Lib.hid (rwritten_any _ x.want wr _ _ _ _ _ 0 (HWN.out.kept (All.kept HBr.out)) HRB.out.1 (by have := HRB.out.2; omega))
       go_wp2_with (go_at_call 51; refine C7.out.mono ?_)
       clear cX0 cX1 cX2 cX3 cX4 cX5 cX6 cX7 cX8 cX9 ltX
       clear q16 k16
       rintro e7 w7 ⟨x7, rfl, hx7, hb7⟩
       have HX_7 : Hid (St x7 (wrW x.want)) := hx7
       clear hx7
       have HB7 := Lib.hid (HBr.out.trans (hb7.mono HBr.out.size))
       have hX7 := (hb7.block X (Array.getElem?_eq_some_iff.1 HXr.out).1).trans HXr.out
       obtain ⟨cX0, cX1, cX2, cX3, cX4, cX5, cX6, cX7, cX8, cX9⟩ := row10_ hX7
       have ltX : X < w7.heap.size := (Array.getElem?_eq_some_iff.1 hX7).1
       have HX7 := Lib.hid hX7
       clear hX7
       clear hb7 C7
       have q17 : ¬ 9223372036854775807 < s16.size + (x7).size := by have h0 := S16.out.size; (try simp only [spN_] at h0); have h1 := HX_7.out.size; (try simp only [spN_] at h1); have hz := HZ.out; unfold wrapW subB capsB whenW at hz; (simp only [HO.out, HSU.out, HC.out, HWH.out, if_true, if_false, spN_, Bool.false_eq_true] at hz); omega
       obtain ⟨s17, k17⟩ : ∃ s17, s16 ++ x7 = s17 := ⟨_, rfl⟩
       have S17 := Lib.hid (St.cat S16.out (HX_7.out) k17)
       have HL : Hid (wrapW x = [32, 119, 105, 116, 104, 32, 111, 112, 101, 110, 32] ++ (bs x.word) ++ (x.nums.map fun n => spsB [digW n]).flatten ++ [32, 119, 104, 101, 110, 32] ++ (wrW x.want)) := by show _ = _; unfold wrapW subB capsB whenW; simp [HO.out, HSU.out, HC.out, HWH.out, spsB, spB]
       go_wp2_with fail
       rw [← HPP.out]
       exact ⟨s17, rfl, by show St _ _; rw [HL.out]; exact S17.out, HB7.out⟩
      ·rw [hw] at cX5
       have HWH := Lib.hid hw
       clear hw
       have HL : Hid (wrapW x = [32, 119, 105, 116, 104, 32, 111, 112, 101, 110, 32] ++ (bs x.word) ++ (x.nums.map fun n => spsB [digW n]).flatten) := by show _ = _; unfold wrapW subB capsB whenW; simp [HO.out, HSU.out, HC.out, HWH.out, spsB, spB]
       go_wp2_with fail
       rw [← HPP.out]
       exact ⟨s, rfl, by show St _ _; rw [HL.out]; exact HSn.out, HBr.out⟩
     ·have jhc : (0 : Int) < ((x.caps.length : Nat) : Int) := by omega
      have HC := Lib.hid hc
      clear hc
      have q18 : ¬ 9223372036854775807 < s.size + 6 := by have h0 := HSn.out.size; (try simp only [spN_] at h0); have hz := HZ.out; unfold wrapW subB capsB whenW at hz; (simp only [HO.out, HSU.out, HC.out, if_true, if_false, spN_, Bool.false_eq_true] at hz); omega
      obtain ⟨s18, k18⟩ : ∃ s18, s ++ (⟨#[32, 99, 97, 112, 115, 32]⟩ : ByteArray) = s18 := ⟨_, rfl⟩
      have S18 : Hid (St s18 ([32, 119, 105, 116, 104, 32, 111, 112, 101, 110, 32] ++ (bs x.word) ++ (x.nums.map fun n => spsB [digW n]).flatten ++ [32, 99, 97, 112, 115, 32])) := St.cat HSn.out (St.lit [32, 99, 97, 112, 115, 32]) k18
      have C6 := Lib.hid (rlisted_any (FlP.kept HCA.out (All.kept HBr.out)) (by have hz := HZ.out; unfold wrapW subB capsB whenW at hz; (simp only [HO.out, HSU.out, HC.out, if_true, if_false, spN_, Bool.false_eq_true] at hz); omega))
      go_wp2_with (go_at_call 49; refine C6.out.mono ?_)
      clear cX0 cX1 cX2 cX3 cX4 cX5 cX6 cX7 cX8 cX9 ltX
      clear q18 k18
      rintro e6 w6 ⟨x6, rfl, hx6, hb6⟩
      have HX_6 : Hid (St x6 (usesB x.caps)) := hx6
      clear hx6
      have HB6 := Lib.hid (HBr.out.trans (hb6.mono HBr.out.size))
      have hX6 := (hb6.block X (Array.getElem?_eq_some_iff.1 HXr.out).1).trans HXr.out
      obtain ⟨cX0, cX1, cX2, cX3, cX4, cX5, cX6, cX7, cX8, cX9⟩ := row10_ hX6
      have ltX : X < w6.heap.size := (Array.getElem?_eq_some_iff.1 hX6).1
      have HX6 := Lib.hid hX6
      clear hX6
      clear hb6 C6
      have q19 : ¬ 9223372036854775807 < s18.size + (x6).size := by have h0 := S18.out.size; (try simp only [spN_] at h0); have h1 := HX_6.out.size; (try simp only [spN_] at h1); have hz := HZ.out; unfold wrapW subB capsB whenW at hz; (simp only [HO.out, HSU.out, HC.out, if_true, if_false, spN_, Bool.false_eq_true] at hz); omega
      obtain ⟨s19, k19⟩ : ∃ s19, s18 ++ x6 = s19 := ⟨_, rfl⟩
      have S19 := Lib.hid (St.cat S18.out (HX_6.out) k19)
      rcases Bool.eq_false_or_eq_true x.when_ with hw | hw
      ·rw [hw] at cX5
       have HWH := Lib.hid hw
       clear hw
       have q20 : ¬ 9223372036854775807 < s19.size + 6 := by have h0 := S19.out.size; (try simp only [spN_] at h0); have hz := HZ.out; unfold wrapW subB capsB whenW at hz; (simp only [HO.out, HSU.out, HC.out, HWH.out, if_true, if_false, spN_, Bool.false_eq_true] at hz); omega
       obtain ⟨s20, k20⟩ : ∃ s20, s19 ++ (⟨#[32, 119, 104, 101, 110, 32]⟩ : ByteArray) = s20 := ⟨_, rfl⟩
       have S20 : Hid (St s20 ([32, 119, 105, 116, 104, 32, 111, 112, 101, 110, 32] ++ (bs x.word) ++ (x.nums.map fun n => spsB [digW n]).flatten ++ [32, 99, 97, 112, 115, 32] ++ (usesB x.caps) ++ [32, 119, 104, 101, 110, 32])) := St.cat S19.out (St.lit [32, 119, 104, 101, 110, 32]) k20
       have hrb := HWR.out HWH.out
       unfold rightB at hrb
       rw [Bool.and_eq_true, decide_eq_true_eq] at hrb
       have HRB := Lib.hid hrb
       clear hrb
       have C7 := Lib.hid (rwritten_any _ x.want w6 _ _ _ _ _ 0 (HWN.out.kept (All.kept HB6.out)) HRB.out.1 (by have := HRB.out.2; omega))
       go_wp2_with (go_at_call 51; refine C7.out.mono ?_)
       clear cX0 cX1 cX2 cX3 cX4 cX5 cX6 cX7 cX8 cX9 ltX
       clear q19 k19 q20 k20
       rintro e7 w7 ⟨x7, rfl, hx7, hb7⟩
       have HX_7 : Hid (St x7 (wrW x.want)) := hx7
       clear hx7
       have HB7 := Lib.hid (HB6.out.trans (hb7.mono HB6.out.size))
       have hX7 := (hb7.block X (Array.getElem?_eq_some_iff.1 HX6.out).1).trans HX6.out
       obtain ⟨cX0, cX1, cX2, cX3, cX4, cX5, cX6, cX7, cX8, cX9⟩ := row10_ hX7
       have ltX : X < w7.heap.size := (Array.getElem?_eq_some_iff.1 hX7).1
       have HX7 := Lib.hid hX7
       clear hX7
       clear hb7 C7
       have q21 : ¬ 9223372036854775807 < s20.size + (x7).size := by have h0 := S20.out.size; (try simp only [spN_] at h0); have h1 := HX_7.out.size; (try simp only [spN_] at h1); have hz := HZ.out; unfold wrapW subB capsB whenW at hz; (simp only [HO.out, HSU.out, HC.out, HWH.out, if_true, if_false, spN_, Bool.false_eq_true] at hz); omega
       obtain ⟨s21, k21⟩ : ∃ s21, s20 ++ x7 = s21 := ⟨_, rfl⟩
       have S21 := Lib.hid (St.cat S20.out (HX_7.out) k21)
       have HL : Hid (wrapW x = [32, 119, 105, 116, 104, 32, 111, 112, 101, 110, 32] ++ (bs x.word) ++ (x.nums.map fun n => spsB [digW n]).flatten ++ [32, 99, 97, 112, 115, 32] ++ (usesB x.caps) ++ [32, 119, 104, 101, 110, 32] ++ (wrW x.want)) := by show _ = _; unfold wrapW subB capsB whenW; simp [HO.out, HSU.out, HC.out, HWH.out, spsB, spB]
       go_wp2_with fail
       rw [← HPP.out]
       exact ⟨s21, rfl, by show St _ _; rw [HL.out]; exact S21.out, HB7.out⟩
      ·rw [hw] at cX5
       have HWH := Lib.hid hw
       clear hw
       have HL : Hid (wrapW x = [32, 119, 105, 116, 104, 32, 111, 112, 101, 110, 32] ++ (bs x.word) ++ (x.nums.map fun n => spsB [digW n]).flatten ++ [32, 99, 97, 112, 115, 32] ++ (usesB x.caps)) := by show _ = _; unfold wrapW subB capsB whenW; simp [HO.out, HSU.out, HC.out, HWH.out, spsB, spB]
       go_wp2_with fail
       rw [← HPP.out]
       exact ⟨s19, rfl, by show St _ _; rw [HL.out]; exact S19.out, HB6.out⟩
  ·obtain ⟨n1hs, n2hs, n3hs, n4hs⟩ := noname_ne hs
   have HSU := Lib.hid hs
   clear hs
   have q22 : ¬ 9223372036854775807 < s13.size + 1 := by have h0 := S13.out.size; (try simp only [spN_] at h0); have hz := HZ.out; unfold wrapW subB capsB whenW at hz; (simp only [HO.out, HSU.out, if_true, if_false, spN_, Bool.false_eq_true] at hz); omega
   obtain ⟨s22, k22⟩ : ∃ s22, s13 ++ (⟨#[58]⟩ : ByteArray) = s22 := ⟨_, rfl⟩
   have S22 : Hid (St s22 ([32, 119, 105, 116, 104, 32, 111, 112, 101, 110, 32] ++ (bs x.word) ++ [58])) := St.cat S13.out (St.lit [58]) k22
   have V23 : Hid (St (x.sub) (bs x.sub)) := St.bs _
   have q23 : ¬ 9223372036854775807 < s22.size + (x.sub).size := by have h0 := S22.out.size; (try simp only [spN_] at h0); have h1 := V23.out.size; (try simp only [spN_] at h1); have hz := HZ.out; unfold wrapW subB capsB whenW at hz; (simp only [HO.out, HSU.out, if_true, if_false, spN_, Bool.false_eq_true] at hz); omega
   obtain ⟨s23, k23⟩ : ∃ s23, s22 ++ x.sub = s23 := ⟨_, rfl⟩
   have S23 := Lib.hid (St.cat S22.out (V23.out) k23)
   have HS0 : Hid (St s23 ([32, 119, 105, 116, 104, 32, 111, 112, 101, 110, 32] ++ (bs x.word) ++ [58] ++ (bs x.sub))) := S23
   have HX0c := HX0
   go_wp2_with fail
   go_loopw [3, 5, 25] (fun s3 s5 s25 wr => ∃ (j : Nat) (s : ByteArray), s3 = .string s ∧ s25 = .int .i64 (j : Nat) ∧ j ≤ x.nums.length ∧ Hid (St s ([32, 119, 105, 116, 104, 32, 111, 112, 101, 110, 32] ++ (bs x.word) ++ [58] ++ (bs x.sub) ++ ((x.nums.take j).map fun n => spsB [digW n]).flatten)) ∧ Hid (Below W.heap.size W wr) ∧ Hid (wr.heap[X]? = some (.cells #[.bool x.opn, .string x.word, .string x.sub, .slice nq x.nums.length nc, .slice uq x.caps.length uc, .bool x.when_, .int .i64 x.want.op, .int .i64 x.want.num, .slice q1 x.want.l.length m1, .int .i64 x.pos] 90 (0, 0)))) (fun _ _ i _ => x.nums.length - (intOf i).toNat)
   case atStart => exact ⟨0, _, rfl, rfl, Nat.zero_le _, by show St _ _; rw [List.take_zero, map_nil, flatten_nil, List.append_nil]; exact HS0.out, HB0.out, HX0.out⟩
   case round =>
    obtain ⟨j, s, rfl, rfl, hj, HSj, HBr, HXr⟩ := hrel
    clear cX0 cX1 cX2 cX3 cX4 cX5 cX6 cX7 cX8 cX9 ltX
    clear q12 k12 q13 k13 q22 k22 q23 k23
    by_cases hlt : j < x.nums.length
    ·obtain ⟨nn, hnn⟩ : ∃ nn, x.nums[j]? = some nn := ⟨_, List.getElem?_eq_getElem hlt⟩
     obtain ⟨bb, o, cap2, e, -, hbl2, d0⟩ := HNS.out.at hnn
     injection e with e _ e3
     subst e; subst e3
     have y0 := (HBr.out.cell (p := ⟨bb, _, none⟩) hbl2).trans d0
     have HNR : Hid (NmN nn) := HNM.out.1 nn (List.mem_of_getElem? hnn)
     have h1 := flat_step (f := fun n => spsB [digW n]) hnn
     have h2 := flat_take_le (fun n => spsB [digW n]) x.nums (j + 1)
     have H1 := Lib.hid h1
     have H2 := Lib.hid h2
     have g0 : (j : Int) < ((x.nums.length : Nat) : Int) := by omega
     have g00 : (0 : Int) ≤ (j : Int) := by omega
     clear hnn hbl2 d0 h1 h2
     have q24 : ¬ 9223372036854775807 < s.size + 1 := by have h0 := HSj.out.size; (try simp only [spN_] at h0); have hz := HZ.out; unfold wrapW subB capsB whenW at hz; (simp only [HO.out, HSU.out, if_true, if_false, spN_, Bool.false_eq_true] at hz); have h2 := H2.out; rw [H1.out] at h2; (simp only [spN_] at h2); omega
     obtain ⟨s24, k24⟩ : ∃ s24, s ++ (⟨#[32]⟩ : ByteArray) = s24 := ⟨_, rfl⟩
     have S24 : Hid (St s24 ([32, 119, 105, 116, 104, 32, 111, 112, 101, 110, 32] ++ (bs x.word) ++ [58] ++ (bs x.sub) ++ ((x.nums.take j).map fun n => spsB [digW n]).flatten ++ [32])) := St.cat HSj.out (St.lit [32]) k24
     have C3 := Lib.hid (rdig_any HNR.out wr (HP.out.up HBr.out))
     go_wp2_with (go_at_call 48; refine C3.out.mono ?_)
     clear q24 k24
     rintro e3 w3 ⟨x3, rfl, hx3, hb3⟩
     have HX_3 : Hid (St x3 (digW nn)) := hx3
     clear hx3
     have HB3 := Lib.hid (HBr.out.trans (hb3.mono HBr.out.size))
     have hbr3 := Lib.hid hb3
     clear hb3 C3
     have q25 : ¬ 9223372036854775807 < s24.size + (x3).size := by have h0 := S24.out.size; (try simp only [spN_] at h0); have h1 := HX_3.out.size; (try simp only [spN_] at h1); have hz := HZ.out; unfold wrapW subB capsB whenW at hz; (simp only [HO.out, HSU.out, if_true, if_false, spN_, Bool.false_eq_true] at hz); have h2 := H2.out; rw [H1.out] at h2; (simp only [spN_] at h2); omega
     obtain ⟨s25, k25⟩ : ∃ s25, s24 ++ x3 = s25 := ⟨_, rfl⟩
     have S25 := Lib.hid (St.cat S24.out (HX_3.out) k25)
     go_wp2_with fail
     go_roundw
     case rel => exact ⟨j + 1, s25, rfl, by go_num, by omega, by show St _ _; rw [H1.out]; have h := S25.out; simpa [spsB, spB] using h, HB3.out, (hbr3.out.block X (Array.getElem?_eq_some_iff.1 HXr.out).1).trans HXr.out⟩
     case measure => simp [intOf]; omega
    ·obtain rfl : j = x.nums.length := by omega
     have hjj : ¬ ((x.nums.length : Nat) : Int) < ((x.nums.length : Nat) : Int) := by omega
     have HSn : Hid (St s ([32, 119, 105, 116, 104, 32, 111, 112, 101, 110, 32] ++ (bs x.word) ++ [58] ++ (bs x.sub) ++ (x.nums.map fun n => spsB [digW n]).flatten)) := by have h := HSj.out; rw [List.take_length] at h; exact h
     obtain ⟨cX0, cX1, cX2, cX3, cX4, cX5, cX6, cX7, cX8, cX9⟩ := row10_ HXr.out
     have ltX : X < wr.heap.size := (Array.getElem?_eq_some_iff.1 HXr.out).1
     by_cases hc : x.caps.length = 0
     ·rw [hc] at cX4
      have HC := Lib.hid hc
      clear hc
      rcases Bool.eq_false_or_eq_true x.when_ with hw | hw
      ·rw [hw] at cX5
       have HWH := Lib.hid hw
       clear hw
       have q26 : ¬ 9223372036854775807 < s.size + 6 := by have h0 := HSn.out.size; (try simp only [spN_] at h0); have hz := HZ.out; unfold wrapW subB capsB whenW at hz; (simp only [HO.out, HSU.out, HC.out, HWH.out, if_true, if_false, spN_, Bool.false_eq_true] at hz); omega
       obtain ⟨s26, k26⟩ : ∃ s26, s ++ (⟨#[32, 119, 104, 101, 110, 32]⟩ : ByteArray) = s26 := ⟨_, rfl⟩
       have S26 : Hid (St s26 ([32, 119, 105, 116, 104, 32, 111, 112, 101, 110, 32] ++ (bs x.word) ++ [58] ++ (bs x.sub) ++ (x.nums.map fun n => spsB [digW n]).flatten ++ [32, 119, 104, 101, 110, 32])) := St.cat HSn.out (St.lit [32, 119, 104, 101, 110, 32]) k26
       have hrb := HWR.out HWH.out
       unfold rightB at hrb
       rw [Bool.and_eq_true, decide_eq_true_eq] at hrb
       have HRB := Lib.hid hrb
       clear hrb
       have C7 := Lib.hid (rwritten_any _ x.want wr _ _ _ _ _ 0 (HWN.out.kept (All.kept HBr.out)) HRB.out.1 (by have := HRB.out.2; omega))
       go_wp2_with (go_at_call 51; refine C7.out.mono ?_)
       clear cX0 cX1 cX2 cX3 cX4 cX5 cX6 cX7 cX8 cX9 ltX
       clear q26 k26
       rintro e7 w7 ⟨x7, rfl, hx7, hb7⟩
       have HX_7 : Hid (St x7 (wrW x.want)) := hx7
       clear hx7
       have HB7 := Lib.hid (HBr.out.trans (hb7.mono HBr.out.size))
       have hX7 := (hb7.block X (Array.getElem?_eq_some_iff.1 HXr.out).1).trans HXr.out
       obtain ⟨cX0, cX1, cX2, cX3, cX4, cX5, cX6, cX7, cX8, cX9⟩ := row10_ hX7
       have ltX : X < w7.heap.size := (Array.getElem?_eq_some_iff.1 hX7).1
       have HX7 := Lib.hid hX7
       clear hX7
       clear hb7 C7
       have q27 : ¬ 9223372036854775807 < s26.size + (x7).size := by have h0 := S26.out.size; (try simp only [spN_] at h0); have h1 := HX_7.out.size; (try simp only [spN_] at h1); have hz := HZ.out; unfold wrapW subB capsB whenW at hz; (simp only [HO.out, HSU.out, HC.out, HWH.out, if_true, if_false, spN_, Bool.false_eq_true] at hz); omega
       obtain ⟨s27, k27⟩ : ∃ s27, s26 ++ x7 = s27 := ⟨_, rfl⟩
       have S27 := Lib.hid (St.cat S26.out (HX_7.out) k27)
       have HL : Hid (wrapW x = [32, 119, 105, 116, 104, 32, 111, 112, 101, 110, 32] ++ (bs x.word) ++ [58] ++ (bs x.sub) ++ (x.nums.map fun n => spsB [digW n]).flatten ++ [32, 119, 104, 101, 110, 32] ++ (wrW x.want)) := by show _ = _; unfold wrapW subB capsB whenW; simp [HO.out, HSU.out, HC.out, HWH.out, spsB, spB]
       go_wp2_with fail
       rw [← HPP.out]
       exact ⟨s27, rfl, by show St _ _; rw [HL.out]; exact S27.out, HB7.out⟩
      ·rw [hw] at cX5
       have HWH := Lib.hid hw
       clear hw
       have HL : Hid (wrapW x = [32, 119, 105, 116, 104, 32, 111, 112, 101, 110, 32] ++ (bs x.word) ++ [58] ++ (bs x.sub) ++ (x.nums.map fun n => spsB [digW n]).flatten) := by show _ = _; unfold wrapW subB capsB whenW; simp [HO.out, HSU.out, HC.out, HWH.out, spsB, spB]
       go_wp2_with fail
       rw [← HPP.out]
       exact ⟨s, rfl, by show St _ _; rw [HL.out]; exact HSn.out, HBr.out⟩
     ·have jhc : (0 : Int) < ((x.caps.length : Nat) : Int) := by omega
      have HC := Lib.hid hc
      clear hc
      have q28 : ¬ 9223372036854775807 < s.size + 6 := by have h0 := HSn.out.size; (try simp only [spN_] at h0); have hz := HZ.out; unfold wrapW subB capsB whenW at hz; (simp only [HO.out, HSU.out, HC.out, if_true, if_false, spN_, Bool.false_eq_true] at hz); omega
      obtain ⟨s28, k28⟩ : ∃ s28, s ++ (⟨#[32, 99, 97, 112, 115, 32]⟩ : ByteArray) = s28 := ⟨_, rfl⟩
      have S28 : Hid (St s28 ([32, 119, 105, 116, 104, 32, 111, 112, 101, 110, 32] ++ (bs x.word) ++ [58] ++ (bs x.sub) ++ (x.nums.map fun n => spsB [digW n]).flatten ++ [32, 99, 97, 112, 115, 32])) := St.cat HSn.out (St.lit [32, 99, 97, 112, 115, 32]) k28
      have C6 := Lib.hid (rlisted_any (FlP.kept HCA.out (All.kept HBr.out)) (by have hz := HZ.out; unfold wrapW subB capsB whenW at hz; (simp only [HO.out, HSU.out, HC.out, if_true, if_false, spN_, Bool.false_eq_true] at hz); omega))
      go_wp2_with (go_at_call 49; refine C6.out.mono ?_)
      clear cX0 cX1 cX2 cX3 cX4 cX5 cX6 cX7 cX8 cX9 ltX
      clear q28 k28
      rintro e6 w6 ⟨x6, rfl, hx6, hb6⟩
      have HX_6 : Hid (St x6 (usesB x.caps)) := hx6
      clear hx6
      have HB6 := Lib.hid (HBr.out.trans (hb6.mono HBr.out.size))
      have hX6 := (hb6.block X (Array.getElem?_eq_some_iff.1 HXr.out).1).trans HXr.out
      obtain ⟨cX0, cX1, cX2, cX3, cX4, cX5, cX6, cX7, cX8, cX9⟩ := row10_ hX6
      have ltX : X < w6.heap.size := (Array.getElem?_eq_some_iff.1 hX6).1
      have HX6 := Lib.hid hX6
      clear hX6
      clear hb6 C6
      have q29 : ¬ 9223372036854775807 < s28.size + (x6).size := by have h0 := S28.out.size; (try simp only [spN_] at h0); have h1 := HX_6.out.size; (try simp only [spN_] at h1); have hz := HZ.out; unfold wrapW subB capsB whenW at hz; (simp only [HO.out, HSU.out, HC.out, if_true, if_false, spN_, Bool.false_eq_true] at hz); omega
      obtain ⟨s29, k29⟩ : ∃ s29, s28 ++ x6 = s29 := ⟨_, rfl⟩
      have S29 := Lib.hid (St.cat S28.out (HX_6.out) k29)
      rcases Bool.eq_false_or_eq_true x.when_ with hw | hw
      ·rw [hw] at cX5
       have HWH := Lib.hid hw
       clear hw
       have q30 : ¬ 9223372036854775807 < s29.size + 6 := by have h0 := S29.out.size; (try simp only [spN_] at h0); have hz := HZ.out; unfold wrapW subB capsB whenW at hz; (simp only [HO.out, HSU.out, HC.out, HWH.out, if_true, if_false, spN_, Bool.false_eq_true] at hz); omega
       obtain ⟨s30, k30⟩ : ∃ s30, s29 ++ (⟨#[32, 119, 104, 101, 110, 32]⟩ : ByteArray) = s30 := ⟨_, rfl⟩
       have S30 : Hid (St s30 ([32, 119, 105, 116, 104, 32, 111, 112, 101, 110, 32] ++ (bs x.word) ++ [58] ++ (bs x.sub) ++ (x.nums.map fun n => spsB [digW n]).flatten ++ [32, 99, 97, 112, 115, 32] ++ (usesB x.caps) ++ [32, 119, 104, 101, 110, 32])) := St.cat S29.out (St.lit [32, 119, 104, 101, 110, 32]) k30
       have hrb := HWR.out HWH.out
       unfold rightB at hrb
       rw [Bool.and_eq_true, decide_eq_true_eq] at hrb
       have HRB := Lib.hid hrb
       clear hrb
       have C7 := Lib.hid (rwritten_any _ x.want w6 _ _ _ _ _ 0 (HWN.out.kept (All.kept HB6.out)) HRB.out.1 (by have := HRB.out.2; omega))
       go_wp2_with (go_at_call 51; refine C7.out.mono ?_)
       clear cX0 cX1 cX2 cX3 cX4 cX5 cX6 cX7 cX8 cX9 ltX
       clear q29 k29 q30 k30
       rintro e7 w7 ⟨x7, rfl, hx7, hb7⟩
       have HX_7 : Hid (St x7 (wrW x.want)) := hx7
       clear hx7
       have HB7 := Lib.hid (HB6.out.trans (hb7.mono HB6.out.size))
       have hX7 := (hb7.block X (Array.getElem?_eq_some_iff.1 HX6.out).1).trans HX6.out
       obtain ⟨cX0, cX1, cX2, cX3, cX4, cX5, cX6, cX7, cX8, cX9⟩ := row10_ hX7
       have ltX : X < w7.heap.size := (Array.getElem?_eq_some_iff.1 hX7).1
       have HX7 := Lib.hid hX7
       clear hX7
       clear hb7 C7
       have q31 : ¬ 9223372036854775807 < s30.size + (x7).size := by have h0 := S30.out.size; (try simp only [spN_] at h0); have h1 := HX_7.out.size; (try simp only [spN_] at h1); have hz := HZ.out; unfold wrapW subB capsB whenW at hz; (simp only [HO.out, HSU.out, HC.out, HWH.out, if_true, if_false, spN_, Bool.false_eq_true] at hz); omega
       obtain ⟨s31, k31⟩ : ∃ s31, s30 ++ x7 = s31 := ⟨_, rfl⟩
       have S31 := Lib.hid (St.cat S30.out (HX_7.out) k31)
       have HL : Hid (wrapW x = [32, 119, 105, 116, 104, 32, 111, 112, 101, 110, 32] ++ (bs x.word) ++ [58] ++ (bs x.sub) ++ (x.nums.map fun n => spsB [digW n]).flatten ++ [32, 99, 97, 112, 115, 32] ++ (usesB x.caps) ++ [32, 119, 104, 101, 110, 32] ++ (wrW x.want)) := by show _ = _; unfold wrapW subB capsB whenW; simp [HO.out, HSU.out, HC.out, HWH.out, spsB, spB]
       go_wp2_with fail
       rw [← HPP.out]
       exact ⟨s31, rfl, by show St _ _; rw [HL.out]; exact S31.out, HB7.out⟩
      ·rw [hw] at cX5
       have HWH := Lib.hid hw
       clear hw
       have HL : Hid (wrapW x = [32, 119, 105, 116, 104, 32, 111, 112, 101, 110, 32] ++ (bs x.word) ++ [58] ++ (bs x.sub) ++ (x.nums.map fun n => spsB [digW n]).flatten ++ [32, 99, 97, 112, 115, 32] ++ (usesB x.caps)) := by show _ = _; unfold wrapW subB capsB whenW; simp [HO.out, HSU.out, HC.out, HWH.out, spsB, spB]
       go_wp2_with fail
       rw [← HPP.out]
       exact ⟨s29, rfl, by show St _ _; rw [HL.out]; exact S29.out, HB6.out⟩
 ·rw [ho] at cX0
  have HO := Lib.hid ho
  clear ho
  have V32 : Hid (St (x.word) (bs x.word)) := St.bs _
  have q32 : ¬ 9223372036854775807 < 6 + (x.word).size := by have h0 := HA0.out.size; (try simp only [spN_] at h0); have h1 := V32.out.size; (try simp only [spN_] at h1); have hz := HZ.out; unfold wrapW subB capsB whenW at hz; (simp only [HO.out, if_true, if_false, spN_, Bool.false_eq_true] at hz); omega
  obtain ⟨s32, k32⟩ : ∃ s32, (⟨#[32, 119, 105, 116, 104, 32]⟩ : ByteArray) ++ x.word = s32 := ⟨_, rfl⟩
  have S32 := Lib.hid (St.cat HA0.out (V32.out) k32)
  by_cases hs : x.sub.size = 0
  ·have hse := noname hs
   have HSU := Lib.hid hs
   rw [hse] at cX2
   clear hs hse
   have HS0 : Hid (St s32 ([32, 119, 105, 116, 104, 32] ++ (bs x.word))) := S32
   have HX0c := HX0
   go_wp2_with fail
   go_loopw [3, 5, 25] (fun s3 s5 s25 wr => ∃ (j : Nat) (s : ByteArray), s3 = .string s ∧ s25 = .int .i64 (j : Nat) ∧ j ≤ x.nums.length ∧ Hid (St s ([32, 119, 105, 116, 104, 32] ++ (bs x.word) ++ ((x.nums.take j).map fun n => spsB [digW n]).flatten)) ∧ Hid (Below W.heap.size W wr) ∧ Hid (wr.heap[X]? = some (.cells #[.bool x.opn, .string x.word, .string x.sub, .slice nq x.nums.length nc, .slice uq x.caps.length uc, .bool x.when_, .int .i64 x.want.op, .int .i64 x.want.num, .slice q1 x.want.l.length m1, .int .i64 x.pos] 90 (0, 0)))) (fun _ _ i _ => x.nums.length - (intOf i).toNat)
   case atStart => exact ⟨0, _, rfl, rfl, Nat.zero_le _, by show St _ _; rw [List.take_zero, map_nil, flatten_nil, List.append_nil]; exact HS0.out, HB0.out, HX0.out⟩
   case round =>
    obtain ⟨j, s, rfl, rfl, hj, HSj, HBr, HXr⟩ := hrel
    clear cX0 cX1 cX2 cX3 cX4 cX5 cX6 cX7 cX8 cX9 ltX
    clear q32 k32
    by_cases hlt : j < x.nums.length
    ·obtain ⟨nn, hnn⟩ : ∃ nn, x.nums[j]? = some nn := ⟨_, List.getElem?_eq_getElem hlt⟩
     obtain ⟨bb, o, cap2, e, -, hbl2, d0⟩ := HNS.out.at hnn
     injection e with e _ e3
     subst e; subst e3
     have y0 := (HBr.out.cell (p := ⟨bb, _, none⟩) hbl2).trans d0
     have HNR : Hid (NmN nn) := HNM.out.1 nn (List.mem_of_getElem? hnn)
     have h1 := flat_step (f := fun n => spsB [digW n]) hnn
     have h2 := flat_take_le (fun n => spsB [digW n]) x.nums (j + 1)
     have H1 := Lib.hid h1
     have H2 := Lib.hid h2
     have g0 : (j : Int) < ((x.nums.length : Nat) : Int) := by omega
     have g00 : (0 : Int) ≤ (j : Int) := by omega
     clear hnn hbl2 d0 h1 h2
     have q33 : ¬ 9223372036854775807 < s.size + 1 := by have h0 := HSj.out.size; (try simp only [spN_] at h0); have hz := HZ.out; unfold wrapW subB capsB whenW at hz; (simp only [HO.out, HSU.out, if_true, if_false, spN_, Bool.false_eq_true] at hz); have h2 := H2.out; rw [H1.out] at h2; (simp only [spN_] at h2); omega
     obtain ⟨s33, k33⟩ : ∃ s33, s ++ (⟨#[32]⟩ : ByteArray) = s33 := ⟨_, rfl⟩
     have S33 : Hid (St s33 ([32, 119, 105, 116, 104, 32] ++ (bs x.word) ++ ((x.nums.take j).map fun n => spsB [digW n]).flatten ++ [32])) := St.cat HSj.out (St.lit [32]) k33
     have C3 := Lib.hid (rdig_any HNR.out wr (HP.out.up HBr.out))
     go_wp2_with (go_at_call 48; refine C3.out.mono ?_)
     clear q33 k33
     rintro e3 w3 ⟨x3, rfl, hx3, hb3⟩
     have HX_3 : Hid (St x3 (digW nn)) := hx3
     clear hx3
     have HB3 := Lib.hid (HBr.out.trans (hb3.mono HBr.out.size))
     have hbr3 := Lib.hid hb3
     clear hb3 C3
     have q34 : ¬ 9223372036854775807 < s33.size + (x3).size := by have h0 := S33.out.size; (try simp only [spN_] at h0); have h1 := HX_3.out.size; (try simp only [spN_] at h1); have hz := HZ.out; unfold wrapW subB capsB whenW at hz; (simp only [HO.out, HSU.out, if_true, if_false, spN_, Bool.false_eq_true] at hz); have h2 := H2.out; rw [H1.out] at h2; (simp only [spN_] at h2); omega
     obtain ⟨s34, k34⟩ : ∃ s34, s33 ++ x3 = s34 := ⟨_, rfl⟩
     have S34 := Lib.hid (St.cat S33.out (HX_3.out) k34)
     go_wp2_with fail
     go_roundw
     case rel => exact ⟨j + 1, s34, rfl, by go_num, by omega, by show St _ _; rw [H1.out]; have h := S34.out; simpa [spsB, spB] using h, HB3.out, (hbr3.out.block X (Array.getElem?_eq_some_iff.1 HXr.out).1).trans HXr.out⟩
     case measure => simp [intOf]; omega
    ·obtain rfl : j = x.nums.length := by omega
     have hjj : ¬ ((x.nums.length : Nat) : Int) < ((x.nums.length : Nat) : Int) := by omega
     have HSn : Hid (St s ([32, 119, 105, 116, 104, 32] ++ (bs x.word) ++ (x.nums.map fun n => spsB [digW n]).flatten)) := by have h := HSj.out; rw [List.take_length] at h; exact h
     obtain ⟨cX0, cX1, cX2, cX3, cX4, cX5, cX6, cX7, cX8, cX9⟩ := row10_ HXr.out
     have ltX : X < wr.heap.size := (Array.getElem?_eq_some_iff.1 HXr.out).1
     by_cases hc : x.caps.length = 0
     ·rw [hc] at cX4
      have HC := Lib.hid hc
      clear hc
      rcases Bool.eq_false_or_eq_true x.when_ with hw | hw
      ·rw [hw] at cX5
       have HWH := Lib.hid hw
       clear hw
       have q35 : ¬ 9223372036854775807 < s.size + 6 := by have h0 := HSn.out.size; (try simp only [spN_] at h0); have hz := HZ.out; unfold wrapW subB capsB whenW at hz; (simp only [HO.out, HSU.out, HC.out, HWH.out, if_true, if_false, spN_, Bool.false_eq_true] at hz); omega
       obtain ⟨s35, k35⟩ : ∃ s35, s ++ (⟨#[32, 119, 104, 101, 110, 32]⟩ : ByteArray) = s35 := ⟨_, rfl⟩
       have S35 : Hid (St s35 ([32, 119, 105, 116, 104, 32] ++ (bs x.word) ++ (x.nums.map fun n => spsB [digW n]).flatten ++ [32, 119, 104, 101, 110, 32])) := St.cat HSn.out (St.lit [32, 119, 104, 101, 110, 32]) k35
       have hrb := HWR.out HWH.out
       unfold rightB at hrb
       rw [Bool.and_eq_true, decide_eq_true_eq] at hrb
       have HRB := Lib.hid hrb
       clear hrb
       have C7 := Lib.hid (rwritten_any _ x.want wr _ _ _ _ _ 0 (HWN.out.kept (All.kept HBr.out)) HRB.out.1 (by have := HRB.out.2; omega))
       go_wp2_with (go_at_call 51; refine C7.out.mono ?_)
       clear cX0 cX1 cX2 cX3 cX4 cX5 cX6 cX7 cX8 cX9 ltX
       clear q35 k35
       rintro e7 w7 ⟨x7, rfl, hx7, hb7⟩
       have HX_7 : Hid (St x7 (wrW x.want)) := hx7
       clear hx7
       have HB7 := Lib.hid (HBr.out.trans (hb7.mono HBr.out.size))
       have hX7 := (hb7.block X (Array.getElem?_eq_some_iff.1 HXr.out).1).trans HXr.out
       obtain ⟨cX0, cX1, cX2, cX3, cX4, cX5, cX6, cX7, cX8, cX9⟩ := row10_ hX7
       have ltX : X < w7.heap.size := (Array.getElem?_eq_some_iff.1 hX7).1
       have HX7 := Lib.hid hX7
       clear hX7
       clear hb7 C7
       have q36 : ¬ 9223372036854775807 < s35.size + (x7).size := by have h0 := S35.out.size; (try simp only [spN_] at h0); have h1 := HX_7.out.size; (try simp only [spN_] at h1); have hz := HZ.out; unfold wrapW subB capsB whenW at hz; (simp only [HO.out, HSU.out, HC.out, HWH.out, if_true, if_false, spN_, Bool.false_eq_true] at hz); omega
       obtain ⟨s36, k36⟩ : ∃ s36, s35 ++ x7 = s36 := ⟨_, rfl⟩
       have S36 := Lib.hid (St.cat S35.out (HX_7.out) k36)
       have HL : Hid (wrapW x = [32, 119, 105, 116, 104, 32] ++ (bs x.word) ++ (x.nums.map fun n => spsB [digW n]).flatten ++ [32, 119, 104, 101, 110, 32] ++ (wrW x.want)) := by show _ = _; unfold wrapW subB capsB whenW; simp [HO.out, HSU.out, HC.out, HWH.out, spsB, spB]
       go_wp2_with fail
       rw [← HPP.out]
       exact ⟨s36, rfl, by show St _ _; rw [HL.out]; exact S36.out, HB7.out⟩
      ·rw [hw] at cX5
       have HWH := Lib.hid hw
       clear hw
       have HL : Hid (wrapW x = [32, 119, 105, 116, 104, 32] ++ (bs x.word) ++ (x.nums.map fun n => spsB [digW n]).flatten) := by show _ = _; unfold wrapW subB capsB whenW; simp [HO.out, HSU.out, HC.out, HWH.out, spsB, spB]
       go_wp2_with fail
       rw [← HPP.out]
       exact ⟨s, rfl, by show St _ _; rw [HL.out]; exact HSn.out, HBr.out⟩
     ·have jhc : (0 : Int) < ((x.caps.length : Nat) : Int) := by omega
      have HC := Lib.hid hc
      clear hc
      have q37 : ¬ 9223372036854775807 < s.size + 6 := by have h0 := HSn.out.size; (try simp only [spN_] at h0); have hz := HZ.out; unfold wrapW subB capsB whenW at hz; (simp only [HO.out, HSU.out, HC.out, if_true, if_false, spN_, Bool.false_eq_true] at hz); omega
      obtain ⟨s37, k37⟩ : ∃ s37, s ++ (⟨#[32, 99, 97, 112, 115, 32]⟩ : ByteArray) = s37 := ⟨_, rfl⟩
      have S37 : Hid (St s37 ([32, 119, 105, 116, 104, 32] ++ (bs x.word) ++ (x.nums.map fun n => spsB [digW n]).flatten ++ [32, 99, 97, 112, 115, 32])) := St.cat HSn.out (St.lit [32, 99, 97, 112, 115, 32]) k37
      have C6 := Lib.hid (rlisted_any (FlP.kept HCA.out (All.kept HBr.out)) (by have hz := HZ.out; unfold wrapW subB capsB whenW at hz; (simp only [HO.out, HSU.out, HC.out, if_true, if_false, spN_, Bool.false_eq_true] at hz); omega))
      go_wp2_with (go_at_call 49; refine C6.out.mono ?_)
      clear cX0 cX1 cX2 cX3 cX4 cX5 cX6 cX7 cX8 cX9 ltX
      clear q37 k37
      rintro e6 w6 ⟨x6, rfl, hx6, hb6⟩
      have HX_6 : Hid (St x6 (usesB x.caps)) := hx6
      clear hx6
      have HB6 := Lib.hid (HBr.out.trans (hb6.mono HBr.out.size))
      have hX6 := (hb6.block X (Array.getElem?_eq_some_iff.1 HXr.out).1).trans HXr.out
      obtain ⟨cX0, cX1, cX2, cX3, cX4, cX5, cX6, cX7, cX8, cX9⟩ := row10_ hX6
      have ltX : X < w6.heap.size := (Array.getElem?_eq_some_iff.1 hX6).1
      have HX6 := Lib.hid hX6
      clear hX6
      clear hb6 C6
      have q38 : ¬ 9223372036854775807 < s37.size + (x6).size := by have h0 := S37.out.size; (try simp only [spN_] at h0); have h1 := HX_6.out.size; (try simp only [spN_] at h1); have hz := HZ.out; unfold wrapW subB capsB whenW at hz; (simp only [HO.out, HSU.out, HC.out, if_true, if_false, spN_, Bool.false_eq_true] at hz); omega
      obtain ⟨s38, k38⟩ : ∃ s38, s37 ++ x6 = s38 := ⟨_, rfl⟩
      have S38 := Lib.hid (St.cat S37.out (HX_6.out) k38)
      rcases Bool.eq_false_or_eq_true x.when_ with hw | hw
      ·rw [hw] at cX5
       have HWH := Lib.hid hw
       clear hw
       have q39 : ¬ 9223372036854775807 < s38.size + 6 := by have h0 := S38.out.size; (try simp only [spN_] at h0); have hz := HZ.out; unfold wrapW subB capsB whenW at hz; (simp only [HO.out, HSU.out, HC.out, HWH.out, if_true, if_false, spN_, Bool.false_eq_true] at hz); omega
       obtain ⟨s39, k39⟩ : ∃ s39, s38 ++ (⟨#[32, 119, 104, 101, 110, 32]⟩ : ByteArray) = s39 := ⟨_, rfl⟩
       have S39 : Hid (St s39 ([32, 119, 105, 116, 104, 32] ++ (bs x.word) ++ (x.nums.map fun n => spsB [digW n]).flatten ++ [32, 99, 97, 112, 115, 32] ++ (usesB x.caps) ++ [32, 119, 104, 101, 110, 32])) := St.cat S38.out (St.lit [32, 119, 104, 101, 110, 32]) k39
       have hrb := HWR.out HWH.out
       unfold rightB at hrb
       rw [Bool.and_eq_true, decide_eq_true_eq] at hrb
       have HRB := Lib.hid hrb
       clear hrb
       have C7 := Lib.hid (rwritten_any _ x.want w6 _ _ _ _ _ 0 (HWN.out.kept (All.kept HB6.out)) HRB.out.1 (by have := HRB.out.2; omega))
       go_wp2_with (go_at_call 51; refine C7.out.mono ?_)
       clear cX0 cX1 cX2 cX3 cX4 cX5 cX6 cX7 cX8 cX9 ltX
       clear q38 k38 q39 k39
       rintro e7 w7 ⟨x7, rfl, hx7, hb7⟩
       have HX_7 : Hid (St x7 (wrW x.want)) := hx7
       clear hx7
       have HB7 := Lib.hid (HB6.out.trans (hb7.mono HB6.out.size))
       have hX7 := (hb7.block X (Array.getElem?_eq_some_iff.1 HX6.out).1).trans HX6.out
       obtain ⟨cX0, cX1, cX2, cX3, cX4, cX5, cX6, cX7, cX8, cX9⟩ := row10_ hX7
       have ltX : X < w7.heap.size := (Array.getElem?_eq_some_iff.1 hX7).1
       have HX7 := Lib.hid hX7
       clear hX7
       clear hb7 C7
       have q40 : ¬ 9223372036854775807 < s39.size + (x7).size := by have h0 := S39.out.size; (try simp only [spN_] at h0); have h1 := HX_7.out.size; (try simp only [spN_] at h1); have hz := HZ.out; unfold wrapW subB capsB whenW at hz; (simp only [HO.out, HSU.out, HC.out, HWH.out, if_true, if_false, spN_, Bool.false_eq_true] at hz); omega
       obtain ⟨s40, k40⟩ : ∃ s40, s39 ++ x7 = s40 := ⟨_, rfl⟩
       have S40 := Lib.hid (St.cat S39.out (HX_7.out) k40)
       have HL : Hid (wrapW x = [32, 119, 105, 116, 104, 32] ++ (bs x.word) ++ (x.nums.map fun n => spsB [digW n]).flatten ++ [32, 99, 97, 112, 115, 32] ++ (usesB x.caps) ++ [32, 119, 104, 101, 110, 32] ++ (wrW x.want)) := by show _ = _; unfold wrapW subB capsB whenW; simp [HO.out, HSU.out, HC.out, HWH.out, spsB, spB]
       go_wp2_with fail
       rw [← HPP.out]
       exact ⟨s40, rfl, by show St _ _; rw [HL.out]; exact S40.out, HB7.out⟩
      ·rw [hw] at cX5
       have HWH := Lib.hid hw
       clear hw
       have HL : Hid (wrapW x = [32, 119, 105, 116, 104, 32] ++ (bs x.word) ++ (x.nums.map fun n => spsB [digW n]).flatten ++ [32, 99, 97, 112, 115, 32] ++ (usesB x.caps)) := by show _ = _; unfold wrapW subB capsB whenW; simp [HO.out, HSU.out, HC.out, HWH.out, spsB, spB]
       go_wp2_with fail
       rw [← HPP.out]
       exact ⟨s38, rfl, by show St _ _; rw [HL.out]; exact S38.out, HB6.out⟩
  ·obtain ⟨n1hs, n2hs, n3hs, n4hs⟩ := noname_ne hs
   have HSU := Lib.hid hs
   clear hs
   have q41 : ¬ 9223372036854775807 < s32.size + 1 := by have h0 := S32.out.size; (try simp only [spN_] at h0); have hz := HZ.out; unfold wrapW subB capsB whenW at hz; (simp only [HO.out, HSU.out, if_true, if_false, spN_, Bool.false_eq_true] at hz); omega
   obtain ⟨s41, k41⟩ : ∃ s41, s32 ++ (⟨#[58]⟩ : ByteArray) = s41 := ⟨_, rfl⟩
   have S41 : Hid (St s41 ([32, 119, 105, 116, 104, 32] ++ (bs x.word) ++ [58])) := St.cat S32.out (St.lit [58]) k41
   have V42 : Hid (St (x.sub) (bs x.sub)) := St.bs _
   have q42 : ¬ 9223372036854775807 < s41.size + (x.sub).size := by have h0 := S41.out.size; (try simp only [spN_] at h0); have h1 := V42.out.size; (try simp only [spN_] at h1); have hz := HZ.out; unfold wrapW subB capsB whenW at hz; (simp only [HO.out, HSU.out, if_true, if_false, spN_, Bool.false_eq_true] at hz); omega
   obtain ⟨s42, k42⟩ : ∃ s42, s41 ++ x.sub = s42 := ⟨_, rfl⟩
   have S42 := Lib.hid (St.cat S41.out (V42.out) k42)
   have HS0 : Hid (St s42 ([32, 119, 105, 116, 104, 32] ++ (bs x.word) ++ [58] ++ (bs x.sub))) := S42
   have HX0c := HX0
   go_wp2_with fail
   go_loopw [3, 5, 25] (fun s3 s5 s25 wr => ∃ (j : Nat) (s : ByteArray), s3 = .string s ∧ s25 = .int .i64 (j : Nat) ∧ j ≤ x.nums.length ∧ Hid (St s ([32, 119, 105, 116, 104, 32] ++ (bs x.word) ++ [58] ++ (bs x.sub) ++ ((x.nums.take j).map fun n => spsB [digW n]).flatten)) ∧ Hid (Below W.heap.size W wr) ∧ Hid (wr.heap[X]? = some (.cells #[.bool x.opn, .string x.word, .string x.sub, .slice nq x.nums.length nc, .slice uq x.caps.length uc, .bool x.when_, .int .i64 x.want.op, .int .i64 x.want.num, .slice q1 x.want.l.length m1, .int .i64 x.pos] 90 (0, 0)))) (fun _ _ i _ => x.nums.length - (intOf i).toNat)
   case atStart => exact ⟨0, _, rfl, rfl, Nat.zero_le _, by show St _ _; rw [List.take_zero, map_nil, flatten_nil, List.append_nil]; exact HS0.out, HB0.out, HX0.out⟩
   case round =>
    obtain ⟨j, s, rfl, rfl, hj, HSj, HBr, HXr⟩ := hrel
    clear cX0 cX1 cX2 cX3 cX4 cX5 cX6 cX7 cX8 cX9 ltX
    clear q32 k32 q41 k41 q42 k42
    by_cases hlt : j < x.nums.length
    ·obtain ⟨nn, hnn⟩ : ∃ nn, x.nums[j]? = some nn := ⟨_, List.getElem?_eq_getElem hlt⟩
     obtain ⟨bb, o, cap2, e, -, hbl2, d0⟩ := HNS.out.at hnn
     injection e with e _ e3
     subst e; subst e3
     have y0 := (HBr.out.cell (p := ⟨bb, _, none⟩) hbl2).trans d0
     have HNR : Hid (NmN nn) := HNM.out.1 nn (List.mem_of_getElem? hnn)
     have h1 := flat_step (f := fun n => spsB [digW n]) hnn
     have h2 := flat_take_le (fun n => spsB [digW n]) x.nums (j + 1)
     have H1 := Lib.hid h1
     have H2 := Lib.hid h2
     have g0 : (j : Int) < ((x.nums.length : Nat) : Int) := by omega
     have g00 : (0 : Int) ≤ (j : Int) := by omega
     clear hnn hbl2 d0 h1 h2
     have q43 : ¬ 9223372036854775807 < s.size + 1 := by have h0 := HSj.out.size; (try simp only [spN_] at h0); have hz := HZ.out; unfold wrapW subB capsB whenW at hz; (simp only [HO.out, HSU.out, if_true, if_false, spN_, Bool.false_eq_true] at hz); have h2 := H2.out; rw [H1.out] at h2; (simp only [spN_] at h2); omega
     obtain ⟨s43, k43⟩ : ∃ s43, s ++ (⟨#[32]⟩ : ByteArray) = s43 := ⟨_, rfl⟩
     have S43 : Hid (St s43 ([32, 119, 105, 116, 104, 32] ++ (bs x.word) ++ [58] ++ (bs x.sub) ++ ((x.nums.take j).map fun n => spsB [digW n]).flatten ++ [32])) := St.cat HSj.out (St.lit [32]) k43
     have C3 := Lib.hid (rdig_any HNR.out wr (HP.out.up HBr.out))
     go_wp2_with (go_at_call 48; refine C3.out.mono ?_)
     clear q43 k43
     rintro e3 w3 ⟨x3, rfl, hx3, hb3⟩
     have HX_3 : Hid (St x3 (digW nn)) := hx3
     clear hx3
     have HB3 := Lib.hid (HBr.out.trans (hb3.mono HBr.out.size))
     have hbr3 := Lib.hid hb3
     clear hb3 C3
     have q44 : ¬ 9223372036854775807 < s43.size + (x3).size := by have h0 := S43.out.size; (try simp only [spN_] at h0); have h1 := HX_3.out.size; (try simp only [spN_] at h1); have hz := HZ.out; unfold wrapW subB capsB whenW at hz; (simp only [HO.out, HSU.out, if_true, if_false, spN_, Bool.false_eq_true] at hz); have h2 := H2.out; rw [H1.out] at h2; (simp only [spN_] at h2); omega
     obtain ⟨s44, k44⟩ : ∃ s44, s43 ++ x3 = s44 := ⟨_, rfl⟩
     have S44 := Lib.hid (St.cat S43.out (HX_3.out) k44)
     go_wp2_with fail
     go_roundw
     case rel => exact ⟨j + 1, s44, rfl, by go_num, by omega, by show St _ _; rw [H1.out]; have h := S44.out; simpa [spsB, spB] using h, HB3.out, (hbr3.out.block X (Array.getElem?_eq_some_iff.1 HXr.out).1).trans HXr.out⟩
     case measure => simp [intOf]; omega
    ·obtain rfl : j = x.nums.length := by omega
     have hjj : ¬ ((x.nums.length : Nat) : Int) < ((x.nums.length : Nat) : Int) := by omega
     have HSn : Hid (St s ([32, 119, 105, 116, 104, 32] ++ (bs x.word) ++ [58] ++ (bs x.sub) ++ (x.nums.map fun n => spsB [digW n]).flatten)) := by have h := HSj.out; rw [List.take_length] at h; exact h
     obtain ⟨cX0, cX1, cX2, cX3, cX4, cX5, cX6, cX7, cX8, cX9⟩ := row10_ HXr.out
     have ltX : X < wr.heap.size := (Array.getElem?_eq_some_iff.1 HXr.out).1
     by_cases hc : x.caps.length = 0
     ·rw [hc] at cX4
      have HC := Lib.hid hc
      clear hc
      rcases Bool.eq_false_or_eq_true x.when_ with hw | hw
      ·rw [hw] at cX5
       have HWH := Lib.hid hw
       clear hw
       have q45 : ¬ 9223372036854775807 < s.size + 6 := by have h0 := HSn.out.size; (try simp only [spN_] at h0); have hz := HZ.out; unfold wrapW subB capsB whenW at hz; (simp only [HO.out, HSU.out, HC.out, HWH.out, if_true, if_false, spN_, Bool.false_eq_true] at hz); omega
       obtain ⟨s45, k45⟩ : ∃ s45, s ++ (⟨#[32, 119, 104, 101, 110, 32]⟩ : ByteArray) = s45 := ⟨_, rfl⟩
       have S45 : Hid (St s45 ([32, 119, 105, 116, 104, 32] ++ (bs x.word) ++ [58] ++ (bs x.sub) ++ (x.nums.map fun n => spsB [digW n]).flatten ++ [32, 119, 104, 101, 110, 32])) := St.cat HSn.out (St.lit [32, 119, 104, 101, 110, 32]) k45
       have hrb := HWR.out HWH.out
       unfold rightB at hrb
       rw [Bool.and_eq_true, decide_eq_true_eq] at hrb
       have HRB := Lib.hid hrb
       clear hrb
       have C7 := Lib.hid (rwritten_any _ x.want wr _ _ _ _ _ 0 (HWN.out.kept (All.kept HBr.out)) HRB.out.1 (by have := HRB.out.2; omega))
       go_wp2_with (go_at_call 51; refine C7.out.mono ?_)
       clear cX0 cX1 cX2 cX3 cX4 cX5 cX6 cX7 cX8 cX9 ltX
       clear q45 k45
       rintro e7 w7 ⟨x7, rfl, hx7, hb7⟩
       have HX_7 : Hid (St x7 (wrW x.want)) := hx7
       clear hx7
       have HB7 := Lib.hid (HBr.out.trans (hb7.mono HBr.out.size))
       have hX7 := (hb7.block X (Array.getElem?_eq_some_iff.1 HXr.out).1).trans HXr.out
       obtain ⟨cX0, cX1, cX2, cX3, cX4, cX5, cX6, cX7, cX8, cX9⟩ := row10_ hX7
       have ltX : X < w7.heap.size := (Array.getElem?_eq_some_iff.1 hX7).1
       have HX7 := Lib.hid hX7
       clear hX7
       clear hb7 C7
       have q46 : ¬ 9223372036854775807 < s45.size + (x7).size := by have h0 := S45.out.size; (try simp only [spN_] at h0); have h1 := HX_7.out.size; (try simp only [spN_] at h1); have hz := HZ.out; unfold wrapW subB capsB whenW at hz; (simp only [HO.out, HSU.out, HC.out, HWH.out, if_true, if_false, spN_, Bool.false_eq_true] at hz); omega
       obtain ⟨s46, k46⟩ : ∃ s46, s45 ++ x7 = s46 := ⟨_, rfl⟩
       have S46 := Lib.hid (St.cat S45.out (HX_7.out) k46)
       have HL : Hid (wrapW x = [32, 119, 105, 116, 104, 32] ++ (bs x.word) ++ [58] ++ (bs x.sub) ++ (x.nums.map fun n => spsB [digW n]).flatten ++ [32, 119, 104, 101, 110, 32] ++ (wrW x.want)) := by show _ = _; unfold wrapW subB capsB whenW; simp [HO.out, HSU.out, HC.out, HWH.out, spsB, spB]
       go_wp2_with fail
       rw [← HPP.out]
       exact ⟨s46, rfl, by show St _ _; rw [HL.out]; exact S46.out, HB7.out⟩
      ·rw [hw] at cX5
       have HWH := Lib.hid hw
       clear hw
       have HL : Hid (wrapW x = [32, 119, 105, 116, 104, 32] ++ (bs x.word) ++ [58] ++ (bs x.sub) ++ (x.nums.map fun n => spsB [digW n]).flatten) := by show _ = _; unfold wrapW subB capsB whenW; simp [HO.out, HSU.out, HC.out, HWH.out, spsB, spB]
       go_wp2_with fail
       rw [← HPP.out]
       exact ⟨s, rfl, by show St _ _; rw [HL.out]; exact HSn.out, HBr.out⟩
     ·have jhc : (0 : Int) < ((x.caps.length : Nat) : Int) := by omega
      have HC := Lib.hid hc
      clear hc
      have q47 : ¬ 9223372036854775807 < s.size + 6 := by have h0 := HSn.out.size; (try simp only [spN_] at h0); have hz := HZ.out; unfold wrapW subB capsB whenW at hz; (simp only [HO.out, HSU.out, HC.out, if_true, if_false, spN_, Bool.false_eq_true] at hz); omega
      obtain ⟨s47, k47⟩ : ∃ s47, s ++ (⟨#[32, 99, 97, 112, 115, 32]⟩ : ByteArray) = s47 := ⟨_, rfl⟩
      have S47 : Hid (St s47 ([32, 119, 105, 116, 104, 32] ++ (bs x.word) ++ [58] ++ (bs x.sub) ++ (x.nums.map fun n => spsB [digW n]).flatten ++ [32, 99, 97, 112, 115, 32])) := St.cat HSn.out (St.lit [32, 99, 97, 112, 115, 32]) k47
      have C6 := Lib.hid (rlisted_any (FlP.kept HCA.out (All.kept HBr.out)) (by have hz := HZ.out; unfold wrapW subB capsB whenW at hz; (simp only [HO.out, HSU.out, HC.out, if_true, if_false, spN_, Bool.false_eq_true] at hz); omega))
      go_wp2_with (go_at_call 49; refine C6.out.mono ?_)
      clear cX0 cX1 cX2 cX3 cX4 cX5 cX6 cX7 cX8 cX9 ltX
      clear q47 k47
      rintro e6 w6 ⟨x6, rfl, hx6, hb6⟩
      have HX_6 : Hid (St x6 (usesB x.caps)) := hx6
      clear hx6
      have HB6 := Lib.hid (HBr.out.trans (hb6.mono HBr.out.size))
      have hX6 := (hb6.block X (Array.getElem?_eq_some_iff.1 HXr.out).1).trans HXr.out
      obtain ⟨cX0, cX1, cX2, cX3, cX4, cX5, cX6, cX7, cX8, cX9⟩ := row10_ hX6
      have ltX : X < w6.heap.size := (Array.getElem?_eq_some_iff.1 hX6).1
      have HX6 := Lib.hid hX6
      clear hX6
      clear hb6 C6
      have q48 : ¬ 9223372036854775807 < s47.size + (x6).size := by have h0 := S47.out.size; (try simp only [spN_] at h0); have h1 := HX_6.out.size; (try simp only [spN_] at h1); have hz := HZ.out; unfold wrapW subB capsB whenW at hz; (simp only [HO.out, HSU.out, HC.out, if_true, if_false, spN_, Bool.false_eq_true] at hz); omega
      obtain ⟨s48, k48⟩ : ∃ s48, s47 ++ x6 = s48 := ⟨_, rfl⟩
      have S48 := Lib.hid (St.cat S47.out (HX_6.out) k48)
      rcases Bool.eq_false_or_eq_true x.when_ with hw | hw
      ·rw [hw] at cX5
       have HWH := Lib.hid hw
       clear hw
       have q49 : ¬ 9223372036854775807 < s48.size + 6 := by have h0 := S48.out.size; (try simp only [spN_] at h0); have hz := HZ.out; unfold wrapW subB capsB whenW at hz; (simp only [HO.out, HSU.out, HC.out, HWH.out, if_true, if_false, spN_, Bool.false_eq_true] at hz); omega
       obtain ⟨s49, k49⟩ : ∃ s49, s48 ++ (⟨#[32, 119, 104, 101, 110, 32]⟩ : ByteArray) = s49 := ⟨_, rfl⟩
       have S49 : Hid (St s49 ([32, 119, 105, 116, 104, 32] ++ (bs x.word) ++ [58] ++ (bs x.sub) ++ (x.nums.map fun n => spsB [digW n]).flatten ++ [32, 99, 97, 112, 115, 32] ++ (usesB x.caps) ++ [32, 119, 104, 101, 110, 32])) := St.cat S48.out (St.lit [32, 119, 104, 101, 110, 32]) k49
       have hrb := HWR.out HWH.out
       unfold rightB at hrb
       rw [Bool.and_eq_true, decide_eq_true_eq] at hrb
       have HRB := Lib.hid hrb
       clear hrb
       have C7 := Lib.hid (rwritten_any _ x.want w6 _ _ _ _ _ 0 (HWN.out.kept (All.kept HB6.out)) HRB.out.1 (by have := HRB.out.2; omega))
       go_wp2_with (go_at_call 51; refine C7.out.mono ?_)
       clear cX0 cX1 cX2 cX3 cX4 cX5 cX6 cX7 cX8 cX9 ltX
       clear q48 k48 q49 k49
       rintro e7 w7 ⟨x7, rfl, hx7, hb7⟩
       have HX_7 : Hid (St x7 (wrW x.want)) := hx7
       clear hx7
       have HB7 := Lib.hid (HB6.out.trans (hb7.mono HB6.out.size))
       have hX7 := (hb7.block X (Array.getElem?_eq_some_iff.1 HX6.out).1).trans HX6.out
       obtain ⟨cX0, cX1, cX2, cX3, cX4, cX5, cX6, cX7, cX8, cX9⟩ := row10_ hX7
       have ltX : X < w7.heap.size := (Array.getElem?_eq_some_iff.1 hX7).1
       have HX7 := Lib.hid hX7
       clear hX7
       clear hb7 C7
       have q50 : ¬ 9223372036854775807 < s49.size + (x7).size := by have h0 := S49.out.size; (try simp only [spN_] at h0); have h1 := HX_7.out.size; (try simp only [spN_] at h1); have hz := HZ.out; unfold wrapW subB capsB whenW at hz; (simp only [HO.out, HSU.out, HC.out, HWH.out, if_true, if_false, spN_, Bool.false_eq_true] at hz); omega
       obtain ⟨s50, k50⟩ : ∃ s50, s49 ++ x7 = s50 := ⟨_, rfl⟩
       have S50 := Lib.hid (St.cat S49.out (HX_7.out) k50)
       have HL : Hid (wrapW x = [32, 119, 105, 116, 104, 32] ++ (bs x.word) ++ [58] ++ (bs x.sub) ++ (x.nums.map fun n => spsB [digW n]).flatten ++ [32, 99, 97, 112, 115, 32] ++ (usesB x.caps) ++ [32, 119, 104, 101, 110, 32] ++ (wrW x.want)) := by show _ = _; unfold wrapW subB capsB whenW; simp [HO.out, HSU.out, HC.out, HWH.out, spsB, spB]
       go_wp2_with fail
       rw [← HPP.out]
       exact ⟨s50, rfl, by show St _ _; rw [HL.out]; exact S50.out, HB7.out⟩
      ·rw [hw] at cX5
       have HWH := Lib.hid hw
       clear hw
       have HL : Hid (wrapW x = [32, 119, 105, 116, 104, 32] ++ (bs x.word) ++ [58] ++ (bs x.sub) ++ (x.nums.map fun n => spsB [digW n]).flatten ++ [32, 99, 97, 112, 115, 32] ++ (usesB x.caps)) := by show _ = _; unfold wrapW subB capsB whenW; simp [HO.out, HSU.out, HC.out, HWH.out, spsB, spB]
       go_wp2_with fail
       rw [← HPP.out]
       exact ⟨s48, rfl, by show St _ _; rw [HL.out]; exact S48.out, HB6.out⟩
end
end Go.Proofs.YtbdllefnghddcaaGreatDoor
