/- PARSE: the texts of the reference: words, lists, patterns. -/
import Derived.Test.YtbdllefnghddcaaGreatDoorParseRRight
import Derived.Test.YtbdllefnghddcaaGreatDoorParseFitH
import Derived.Test.YtbdllefnghddcaaGreatDoorPBld
import Derived.Test.YtbdllefnghddcaaGreatDoorPWri
import Derived.StillTailTactics
import Derived.Test.YtbdllefnghddcaaGreatDoorPMem
namespace Go.Proofs.YtbdllefnghddcaaGreatDoor
open List (length_append length_cons length_nil)
set_option linter.unusedSimpArgs false
set_option maxHeartbeats 8000000
set_option maxRecDepth 100000
open Go Go.RowKit
attribute [local go_sem ↓] Go.wp_at_zero Go.wp_at_succ

def St (s : ByteArray) (l : List UInt8) : Prop := s = ba l
theorem St.cat {s c s2 : ByteArray} {l m : List UInt8} (h : St s l) (h2 : St c m) (e : s ++ c = s2) : St s2 (l ++ m) := by
 unfold St at *
 subst h; subst h2; subst e
 simp [ba, ByteArray.ext_iff]
theorem St.lit (l : List UInt8) : St (⟨l.toArray⟩ : ByteArray) l := rfl
theorem St.bs (s : ByteArray) : St s (bs s) := (ba_bs s).symm
theorem St.size {s : ByteArray} {l : List UInt8} (h : St s l) : s.size = l.length := by
 unfold St at h
 subst h
 simp [ba, ByteArray.size]
def TxPost (W : World) (l : List UInt8) (e : Ending) (w' : World) : Prop := ∃ s, e = .returned (.string s) ∧ St s l ∧ Below W.heap.size W w'
def KwPost (W : World) (n : Nat) (ws : List (List UInt8)) (e : Ending) (w' : World) : Prop := ∃ b, e = .returned (.slice (some ⟨b, 0, none⟩) n n) ∧ b < w'.heap.size ∧ (∀ i, i < n → w'.cell? ⟨b, i, none⟩ = some (.string (ba (ws.getD i [])))) ∧ Below W.heap.size W w'
theorem moreB_app : ∀ (l : List Us) (b : Bool) (x : Us), moreB b (l ++ [x]) = moreB b l ++ ((if b && l.isEmpty then [] else commaB) ++ bs x.name)
 | [], b, x => by rw [List.nil_append, moreB, moreB, moreB]; cases b <;> simp
 | y :: ys, b, x => by
  rw [List.cons_append, moreB, moreB_app ys false x, moreB]
  simp
theorem more_step {l : List Us} {j : Nat} {x : Us} (h : l[j]? = some x) : moreB true (l.take (j + 1)) = moreB true (l.take j) ++ ((if j = 0 then [] else commaB) ++ bs x.name) := by
 have hj := (List.getElem?_eq_some_iff.1 h).1
 rw [take_snoc h, moreB_app]
 congr 1
 congr 1
 cases j with
 | zero => simp
 | succ j =>
  have : (l.take (j + 1)).isEmpty = false := by
   cases hl : l with
   | nil => rw [hl] at hj; simp at hj
   | cons y ys => simp
  rw [this]
  simp
theorem more_le : ∀ (l : List Us) (b : Bool) (j : Nat), (moreB b (l.take j)).length ≤ (moreB b l).length
 | [], _, _ => by simp
 | x :: xs, b, 0 => by simp [moreB]
 | x :: xs, b, j + 1 => by
  have := more_le xs false j
  rw [List.take_succ_cons, moreB, moreB]
  simp only [length_append]
  omega

theorem rkinds_any (W : World) : Calls Tryz.prog 97 #[] W (KwPost W 14 kindWords) := by
 obtain ⟨PP, hPP⟩ : ∃ PP, KwPost W 14 kindWords = PP := ⟨_, rfl⟩
 rw [hPP]
 have HPP := Lib.hid hPP
 clear hPP
 go_enter Tryz.func97, Tryz.ntmps97
 go_wp2_with fail
 rw [← HPP.out]
 refine ⟨_, rfl, by simp, fun i hi => ?_, (Below.refl _ _).alloc (Nat.le_refl _) _⟩
 rw [cell_of_row _ _ _ _ _ _ (heap_alloc_new W _)]
 exact match i, hi with
  | 0, _ => rfl
  | 1, _ => rfl
  | 2, _ => rfl
  | 3, _ => rfl
  | 4, _ => rfl
  | 5, _ => rfl
  | 6, _ => rfl
  | 7, _ => rfl
  | 8, _ => rfl
  | 9, _ => rfl
  | 10, _ => rfl
  | 11, _ => rfl
  | 12, _ => rfl
  | 13, _ => rfl
  | i + 14, h => absurd h (by omega)
theorem rfaces_any (W : World) : Calls Tryz.prog 98 #[] W (KwPost W 10 faceWords) := by
 obtain ⟨PP, hPP⟩ : ∃ PP, KwPost W 10 faceWords = PP := ⟨_, rfl⟩
 rw [hPP]
 have HPP := Lib.hid hPP
 clear hPP
 go_enter Tryz.func98, Tryz.ntmps98
 go_wp2_with fail
 rw [← HPP.out]
 refine ⟨_, rfl, by simp, fun i hi => ?_, (Below.refl _ _).alloc (Nat.le_refl _) _⟩
 rw [cell_of_row _ _ _ _ _ _ (heap_alloc_new W _)]
 exact match i, hi with
  | 0, _ => rfl
  | 1, _ => rfl
  | 2, _ => rfl
  | 3, _ => rfl
  | 4, _ => rfl
  | 5, _ => rfl
  | 6, _ => rfl
  | 7, _ => rfl
  | 8, _ => rfl
  | 9, _ => rfl
  | i + 10, h => absurd h (by omega)
theorem rlisted_any {W : World} {v : Value} {us : List Us} (hV : UsP All W v us) (hZ : (usesB us).length ≤ 140737488355328) :
  Calls Tryz.prog 49 #[v] W (TxPost W (usesB us)) := by
 obtain ⟨PP, hPP⟩ : ∃ PP, TxPost W (usesB us) = PP := ⟨_, rfl⟩
 rw [hPP]
 have HPP := Lib.hid hPP
 obtain ⟨q, cap, rfl, hn9⟩ := hV.shape
 rw [usesB_more] at hZ hPP
 have HPP := Lib.hid hPP
 have HV := Lib.hid hV
 have HZ := Lib.hid hZ
 clear hPP hV hZ
 go_enter Tryz.func49, Tryz.ntmps49
 go_wp2_with fail
 go_loopw [3, 4, 5, 8] (fun s3 s4 s5 s8 wr => ∃ (j : Nat) (s : ByteArray), s3 = .string s ∧ s8 = .int .i64 (j : Nat) ∧ j ≤ us.length ∧ Hid (St s (moreB true (us.take j))) ∧ Hid (Below W.heap.size W wr)) (fun _ _ _ i _ => us.length - (intOf i).toNat)
 case atStart => exact ⟨0, _, rfl, rfl, Nat.zero_le _, rfl, Below.refl _ _⟩
 case round =>
  obtain ⟨j, s, rfl, rfl, hj, HSt, HB⟩ := hrel
  by_cases hlt : j < us.length
  ·obtain ⟨x, hx⟩ : ∃ x, us[j]? = some x := ⟨_, List.getElem?_eq_getElem hlt⟩
   obtain ⟨b, o, cap2, e, -, hbl, d0, d1⟩ := HV.out.at hx
   injection e with e _ e3
   subst e; subst e3
   have y0 := (HB.out.cell (p := ⟨b, _, none⟩) hbl).trans d0
   have y1 := (HB.out.cell (p := ⟨b, _, none⟩) hbl).trans d1
   have g0 : (j : Int) < ((us.length : Nat) : Int) := by omega
   have g00 : (0 : Int) ≤ (j : Int) := by omega
   obtain ⟨B, hB⟩ : ∃ B, wr.heap.size = B := ⟨_, rfl⟩
   obtain ⟨w1, hw1⟩ : ∃ w1, wr.alloc (.cells #[.string x.name, .int .i64 x.pos] 74) = w1 := ⟨_, rfl⟩
   have hb1 : Below wr.heap.size wr w1 := by rw [← hw1]; exact (Below.refl _ wr).alloc (Nat.le_refl _) _
   have hz1 := aRow_ hw1 hB
   have r0 : w1.cell? ⟨B, 0, none⟩ = some (.string x.name) := by rw [cell_of_row _ _ _ _ _ _ hz1]; rfl
   have lB : B < w1.heap.size := (Array.getElem?_eq_some_iff.1 hz1).1
   have HB1 := Lib.hid (HB.out.trans (hb1.mono HB.out.size))
   have hst := more_step hx
   have hle := more_le us true (j + 1)
   have hz := HZ.out
   rw [hst] at hle
   simp only [length_append] at hle
   have HST := Lib.hid hst
   have HNM : Hid (St x.name (bs x.name)) := St.bs x.name
   have HBe := Lib.hid hB
   have Hw1 := Lib.hid hw1
   clear hx hbl d0 d1 hB hw1 hb1 hz1 hst
   go_upto_region 5 with fail
   rw [HBe.out, Hw1.out]
   clear y0 y1
   by_cases hj0 : j = 0
   ·subst hj0
    rw [if_pos rfl, length_nil] at hle
    have q1 : ¬ 9223372036854775807 < s.size + x.name.size := by have := HSt.out.size; have := HNM.out.size; omega
    obtain ⟨s1, k1⟩ : ∃ s1, s ++ x.name = s1 := ⟨_, rfl⟩
    have S1 := Lib.hid (St.cat (HSt.out) (HNM.out) k1)
    have HLE := Lib.hid hle
    clear hle
    go_wp2_with fail
    go_roundw
    case rel => exact ⟨0 + 1, s1, rfl, by go_num, by omega, by show St _ _; rw [HST.out]; rw [if_pos rfl, List.nil_append]; exact S1.out, HB1.out⟩
    case measure => simp [intOf]; omega
   ·have j0 : (0 : Int) < (j : Int) := by omega
    rw [if_neg hj0] at hle
    have hcl : commaB.length = 2 := rfl
    have HJ0 := Lib.hid hj0
    clear hj0
    have q2 : ¬ 9223372036854775807 < s.size + 2 := by have := HSt.out.size; omega
    obtain ⟨s2, k2⟩ : ∃ s2, s ++ (⟨#[44, 32]⟩ : ByteArray) = s2 := ⟨_, rfl⟩
    have S2 : Hid (St s2 (moreB true (us.take j) ++ [44, 32])) := St.cat (HSt.out) (St.lit [44, 32]) k2
    have q3 : ¬ 9223372036854775807 < s2.size + x.name.size := by have := S2.out.size; have := HNM.out.size; simp only [length_append, length_cons, length_nil] at *; omega
    obtain ⟨s3, k3⟩ : ∃ s3, s2 ++ x.name = s3 := ⟨_, rfl⟩
    have S3 := Lib.hid (St.cat (S2.out) (HNM.out) k3)
    clear hcl
    have HLE := Lib.hid hle
    clear hle
    go_wp2_with fail
    go_roundw
    case rel => exact ⟨j + 1, s3, rfl, by go_num, by omega, by show St _ _; rw [HST.out]; rw [if_neg HJ0.out, ← List.append_assoc]; exact S3.out, HB1.out⟩
    case measure => simp [intOf]; omega
  ·obtain rfl : j = us.length := by omega
   have hjj : ¬ ((us.length : Nat) : Int) < ((us.length : Nat) : Int) := by omega
   have HT : Hid (St s (moreB true us)) := by have h := HSt.out; rw [List.take_length] at h; exact h
   go_wp2_with fail
   rw [← HPP.out]
   exact ⟨s, rfl, HT.out, HB.out⟩
theorem rwritten_any : ∀ (k : Nat) (t : Wt) (W : World) (op num : Int) (q : Option Addr) (n cap d : Nat), WtP All W k [.int .i64 op, .int .i64 num, .slice q n cap] t → patW t d = true → 15 * cntW t ≤ 100000000000000 →
  Calls Tryz.prog 51 #[.agg #[.int .i64 op, .int .i64 num, .slice q n cap]] W (TxPost W (wrW t)) := by
 intro k
 induction k with
 | zero => intro t W op num q n cap d h; exact h.elim
 | succ k ih =>
  intro t W op num q n cap d hD hR hsz
  have IH := Lib.hid ih
  clear ih
  obtain ⟨op', num', ps⟩ := t
  obtain ⟨rfl, rfl, hn0⟩ := hD.top
  have HN : Hid (ps.length = n) := hn0
  have hn9 : n ≤ 9223372036854775807 := by have := hD.len; omega
  rw [patW] at hR
  simp only [Bool.and_eq_true, decide_eq_true_eq] at hR
  have hR2 := hR.2
  rw [cntW] at hsz
  have HR : Hid (if op = 1 then (decide (num = 0) && decide (ps.length = 0)) = true
   else if op = 2 then (decide (0 ≤ num) && (decide (num < 14) && decide (ps.length = 0))) = true
   else if op = 3 then (decide (0 ≤ num) && (decide (num < 10) && decide (ps.length = 0))) = true
   else if op = 6 then (decide (num = 0) && (decide (ps.length = 1) && patL op ps (d + 1))) = true
   else if op = 4 ∨ op = 5 then (decide (num = 0) && (decide (2 ≤ ps.length) && patL op ps d)) = true
   else false = true) := by
    show if op = 1 then _ else _
    split at hR2
    ·rw [if_pos (by assumption)]; exact hR2
    ·rw [if_neg (by assumption)]
     split at hR2
     ·rw [if_pos (by assumption)]; exact hR2
     ·rw [if_neg (by assumption)]
      split at hR2
      ·rw [if_pos (by assumption)]; exact hR2
      ·rw [if_neg (by assumption)]
       split at hR2
       ·rw [if_pos (by assumption)]; exact hR2
       ·rw [if_neg (by assumption)]
        split at hR2
        ·rw [if_pos (by assumption)]; exact hR2
        ·cases hR2
  obtain ⟨PP, hPP⟩ : ∃ PP, TxPost W (wrW (.mk op num ps)) = PP := ⟨_, rfl⟩
  rw [hPP]
  have HPP := Lib.hid hPP
  obtain ⟨WA, hWA⟩ : ∃ WA, W.alloc (.cells #[.int .i64 op, .int .i64 num, .slice q n cap] 41) = WA := ⟨_, rfl⟩
  obtain ⟨X, hX⟩ : ∃ X, W.heap.size = X := ⟨_, rfl⟩
  have HBA : Hid (Below W.heap.size W WA) := by rw [← hWA]; exact (Below.refl _ W).alloc (Nat.le_refl _) _
  have hza := aRow_ hWA hX
  have hsa : WA.heap.size = X + 1 := by rw [← hWA, ← hX]; simp
  have lxa : X < WA.heap.size := by omega
  obtain ⟨z0, z1, z2⟩ := row3_ hza
  have HZA := Lib.hid hza
  have HX := Lib.hid hX
  have HWA := Lib.hid hWA
  clear hza hX hWA hsa
  have HD := Lib.hid (hD.kept (All.kept HBA.out))
  have HD0 := Lib.hid hD
  clear hD hR hR2 hn0 hPP
  go_enter Tryz.func51, Tryz.ntmps51
  go_upto_region 1 with fail
  rw [HX.out, HWA.out]
  by_cases o1 : op = 1
  ·subst o1
   go_wp2_with fail
   rw [← HPP.out]
   exact ⟨_, rfl, by rw [wrW, if_pos rfl]; rfl, HBA.out⟩
  obtain ⟨eo1, no1⟩ := neI o1
  by_cases o2 : op = 2
  ·subst o2
   have hr := HR.out
   rw [if_neg (by decide), if_pos rfl] at hr
   simp only [Bool.and_eq_true, decide_eq_true_eq] at hr
   obtain ⟨i, rfl⟩ : ∃ i : Nat, num = (i : Nat) := ⟨num.toNat, by omega⟩
   have hi : i < 14 := by omega
   have hi2 : (i : Int) < 14 := by omega
   have hi3 : (0 : Int) ≤ (i : Int) := by omega
   clear hr
   have CK := Lib.hid (fun W => rkinds_any W)
   go_upto_region 5 with fail
   go_region_with (go_at_call 97; refine (CK.out _).mono ?_; rintro e1 w1 ⟨b1, rfl, lb1, hc1, hb1⟩; have tc := hc1 i hi; have HB1 : Hid (Below W.heap.size W w1) := HBA.out.trans (((Below.refl WA.heap.size WA).drew.trans hb1).mono HBA.out.size); have x1 := (hb1.cell (p := ⟨X, 1, none⟩) lxa).trans z1; have lx1 := Nat.lt_of_lt_of_le lxa hb1.size; clear hc1 hb1)
   all_goals
    go_wp2_with fail
    go_ret
    rw [← HPP.out]
    exact ⟨_, rfl, by rw [wrW, if_neg (by decide), if_pos rfl]; rfl, HB1.out⟩
  obtain ⟨eo2, no2⟩ := neI o2
  by_cases o3 : op = 3
  ·subst o3
   have hr := HR.out
   rw [if_neg (by decide), if_neg (by decide), if_pos rfl] at hr
   simp only [Bool.and_eq_true, decide_eq_true_eq] at hr
   obtain ⟨i, rfl⟩ : ∃ i : Nat, num = (i : Nat) := ⟨num.toNat, by omega⟩
   have hi : i < 10 := by omega
   have hi2 : (i : Int) < 10 := by omega
   have hi3 : (0 : Int) ≤ (i : Int) := by omega
   clear hr
   have CK := Lib.hid (fun W => rfaces_any W)
   go_upto_region 7 with fail
   go_region_with (go_at_call 98; refine (CK.out _).mono ?_; rintro e1 w1 ⟨b1, rfl, lb1, hc1, hb1⟩; have tc := hc1 i hi; have HB1 : Hid (Below W.heap.size W w1) := HBA.out.trans (((Below.refl WA.heap.size WA).drew.trans hb1).mono HBA.out.size); have x1 := (hb1.cell (p := ⟨X, 1, none⟩) lxa).trans z1; have lx1 := Nat.lt_of_lt_of_le lxa hb1.size; clear hc1 hb1)
   all_goals
    go_wp2_with fail
    go_ret
    rw [← HPP.out]
    exact ⟨_, rfl, by rw [wrW, if_neg (by decide), if_neg (by decide), if_pos rfl]; rfl, HB1.out⟩
  obtain ⟨eo3, no3⟩ := neI o3
  by_cases o6 : op = 6
  ·subst o6
   have hr := HR.out
   rw [if_neg (by decide), if_neg (by decide), if_neg (by decide), if_pos rfl] at hr
   simp only [Bool.and_eq_true, decide_eq_true_eq] at hr
   obtain ⟨rfl, hl, hpl⟩ := hr
   have HPL := Lib.hid hpl
   obtain rfl : n = 1 := by rw [← HN.out]; exact hl
   clear hpl
   have HX0 := HZA
   go_wp2_with fail
   go_loopw [3, 4, 5, 27] (fun s3 s4 s5 s27 wr => ∃ (j : Nat) (s : ByteArray), s3 = .string s ∧ s27 = .int .i64 (j : Nat) ∧ j ≤ 1 ∧ Hid (St s ((if j = 0 then [] else [33] ++ wrL 6 (ps.take j) true))) ∧ Hid (Below W.heap.size W wr) ∧ Hid (wr.heap[X]? = some (.cells #[.int .i64 6, .int .i64 0, .slice q 1 cap] 41 (0, 0)))) (fun _ _ _ i _ => 1 - (intOf i).toNat)
   case atStart => exact ⟨0, _, rfl, rfl, Nat.zero_le _, rfl, HBA.out, HX0.out⟩
   case round =>
    obtain ⟨j, s, rfl, rfl, hj, HSt, HB, HXr⟩ := hrel
    by_cases hlt : j < 1
    ·obtain ⟨x, hx⟩ : ∃ x, ps[j]? = some x := ⟨_, List.getElem?_eq_getElem (by rw [HN.out]; exact hlt)⟩
     obtain ⟨b, o, qq, _, c, -, rfl, hbl, d0, d1, d2, rfl, hPt⟩ := HD0.out.part hx
     have y0 := (HB.out.cell (p := ⟨b, _, none⟩) hbl).trans d0
     have y1 := (HB.out.cell (p := ⟨b, _, none⟩) hbl).trans d1
     have y2 := (HB.out.cell (p := ⟨b, _, none⟩) hbl).trans d2
     have g0 : (j : Int) < 1 := by omega
     have g00 : (0 : Int) ≤ (j : Int) := by omega
     have HPX : Hid (patW x ((d + 1) + if parW 6 x.op = true then 1 else 0) = true) := by have h := HPL.out; rw [patL_all] at h; exact (List.all_eq_true.1 h) x (List.mem_of_getElem? hx)
     have hstep := cntL_step hx
     have hcl := cntL_take_le ps (j + 1)
     have hwl := wrL_len 6 (ps.take j) true
     have hwx := wrW_len x
     have hcx := cntW_pos x
     have C := Lib.hid (IH.out x wr x.op x.num qq x.l.length c _ (hPt.kept (All.kept HB.out)) HPX.out (by omega))
     have HXJ := Lib.hid hx
     have r2 : wr.cell? ⟨X, 2, none⟩ = some (.slice (some ⟨b, o, none⟩) 1 cap) := by rw [cell_of_row _ _ _ _ _ _ HXr.out]; rfl
     have rl : X < wr.heap.size := (Array.getElem?_eq_some_iff.1 HXr.out).1
     go_wp2_with (go_at_call 51; refine C.out.mono ?_; rintro e1 w1 ⟨sx, rfl, hsx, hb1⟩)
     have HSX := Lib.hid hsx
     have HB1 := Lib.hid (HB.out.trans (hb1.mono HB.out.size))
     have HX1 := Lib.hid ((hb1.block X rl).trans HXr.out)
     have HXd : Hid (w1.drew.heap[X]? = some (.cells #[.int .i64 6, .int .i64 0, .slice (some ⟨b, o, none⟩) 1 cap] 41 (0, 0))) := HX1.out
     obtain ⟨wd, hwd⟩ : ∃ wd, w1.drew = wd := ⟨_, rfl⟩
     have HBd : Hid (Below W.heap.size W wd) := by show Below _ _ _; rw [← hwd]; exact HB1.out.drew
     have e0 : w1.drew.cell? ⟨b, o + j * 3, none⟩ = some (.int .i64 x.op) := (HB1.out.cell (p := ⟨b, _, none⟩) hbl).trans d0
     have s0 : w1.drew.cell? ⟨X, 0, none⟩ = some (.int .i64 6) := by rw [cell_of_row _ _ _ _ _ _ HXd.out]; rfl
     have s2 : w1.drew.cell? ⟨X, 2, none⟩ = some (.slice (some ⟨b, o, none⟩) 1 cap) := by rw [cell_of_row _ _ _ _ _ _ HXd.out]; rfl
     have sl : X < w1.drew.heap.size := (Array.getElem?_eq_some_iff.1 HXd.out).1
     have t0 : wd.cell? ⟨X, 0, none⟩ = some (.int .i64 6) := by rw [← hwd]; exact s0
     have tl : X < wd.heap.size := by rw [← hwd]; exact sl
     have HXe : Hid (wd.heap[X]? = some (.cells #[.int .i64 6, .int .i64 0, .slice (some ⟨b, o, none⟩) 1 cap] 41 (0, 0))) := by rw [← hwd]; exact HXd
     have Hwd := Lib.hid hwd
     have CP := Lib.hid (rparens_any 6 x.op (by decide) wd)
     have HPC0 : Hid (pieceW 6 x = if parW 6 x.op = true then [40] ++ (wrW x ++ [41]) else wrW x) := rfl
     have HWST := Lib.hid (wrL_step (op := 6) hx)
     clear hx hbl d0 d1 d2 hPt hwd y0 y1 y2 r2 rl hb1 C hsx
     go_upto_region 13 with fail
     go_still_tail 8, (by kernel_rfl)
     change wpList _ _ _ _ _ w1.drew
     rw [Hwd.out]
     clear e0 s0 s2 sl
     cases hpar : parW 6 x.op with
     | true =>
      have HPC : Hid (pieceW 6 x = ([40] ++ (wrW x ++ [41]))) := by have h := HPC0.out; rw [hpar] at h; exact h
      rw [hpar] at CP
      clear hpar
      have q4 : ¬ 9223372036854775807 < 1 + sx.size := by have := HSX.out.size; omega
      obtain ⟨s4, k4⟩ : ∃ s4, (⟨#[40]⟩ : ByteArray) ++ sx = s4 := ⟨_, rfl⟩
      have S4 : Hid (St s4 ([40] ++ wrW x)) := St.cat (St.lit [40]) (HSX.out) k4
      have q5 : ¬ 9223372036854775807 < s4.size + 1 := by have := S4.out.size; simp only [length_append, length_cons, length_nil] at *; omega
      obtain ⟨s5, k5⟩ : ∃ s5, s4 ++ (⟨#[41]⟩ : ByteArray) = s5 := ⟨_, rfl⟩
      have S5 : Hid (St s5 (([40] ++ wrW x) ++ [41])) := St.cat (S4.out) (St.lit [41]) k5
      have HXX : Hid (St s5 (pieceW 6 x)) := by show St _ _; rw [HPC.out]; exact S5.out
      have hpl : (pieceW 6 x).length ≤ 15 * cntW x + 2 := by rw [HPC.out]; (try simp only [length_append, length_cons, length_nil]); omega
      by_cases hj0 : j = 0
      ·subst hj0
       have q6 : ¬ 9223372036854775807 < 1 + s5.size := by have := HXX.out.size; omega
       obtain ⟨s6, k6⟩ : ∃ s6, (⟨#[33]⟩ : ByteArray) ++ s5 = s6 := ⟨_, rfl⟩
       have S6 : Hid (St s6 ([33] ++ pieceW 6 x)) := St.cat (St.lit [33]) (HXX.out) k6
       go_wp2_with (go_at_call 99; refine CP.out.mono ?_; rintro e3 w3 ⟨rfl, rfl⟩)
       go_roundw
       case rel => exact ⟨0 + 1, s6, rfl, by go_num, by omega, by show St _ _; rw [if_neg (by decide), HWST.out, List.take_zero]; simp only [if_true, eq_self, wrL, List.nil_append]; exact S6.out, HBd.out, HXe.out⟩
       case measure => simp [intOf]
      ·exact absurd hlt (by omega)
     | false =>
      have HPC : Hid (pieceW 6 x = wrW x) := by have h := HPC0.out; rw [hpar] at h; exact h
      rw [hpar] at CP
      clear hpar
      have HXX : Hid (St sx (pieceW 6 x)) := by show St _ _; rw [HPC.out]; exact HSX.out
      have hpl : (pieceW 6 x).length ≤ 15 * cntW x + 2 := by rw [HPC.out]; (try simp only [length_append, length_cons, length_nil]); omega
      by_cases hj0 : j = 0
      ·subst hj0
       have q7 : ¬ 9223372036854775807 < 1 + sx.size := by have := HXX.out.size; omega
       obtain ⟨s7, k7⟩ : ∃ s7, (⟨#[33]⟩ : ByteArray) ++ sx = s7 := ⟨_, rfl⟩
       have S7 : Hid (St s7 ([33] ++ pieceW 6 x)) := St.cat (St.lit [33]) (HXX.out) k7
       go_wp2_with (go_at_call 99; refine CP.out.mono ?_; rintro e3 w3 ⟨rfl, rfl⟩)
       go_roundw
       case rel => exact ⟨0 + 1, s7, rfl, by go_num, by omega, by show St _ _; rw [if_neg (by decide), HWST.out, List.take_zero]; simp only [if_true, eq_self, wrL, List.nil_append]; exact S7.out, HBd.out, HXe.out⟩
       case measure => simp [intOf]
      ·exact absurd hlt (by omega)
    ·obtain rfl : j = 1 := by omega
     have hjj : ¬ ((1 : Nat) : Int) < 1 := by omega
     have HTK : Hid (ps.take 1 = ps) := List.take_of_length_le (by rw [HN.out]; exact Nat.le_refl _)
     go_wp2_with fail
     rw [← HPP.out]
     exact ⟨s, rfl, by rw [wrW]; have h := HSt.out; rw [HTK.out] at h; simpa using h, HB.out⟩
  obtain ⟨eo6, no6⟩ := neI o6
  by_cases o4 : op = 4
  ·subst o4
   have hr := HR.out
   rw [if_neg (by decide), if_neg (by decide), if_neg (by decide), if_neg (by decide), if_pos (by decide)] at hr
   simp only [Bool.and_eq_true, decide_eq_true_eq] at hr
   obtain ⟨rfl, hl, hpl⟩ := hr
   have HPL := Lib.hid hpl
   clear hpl hl
   have HX0 := HZA
   go_wp2_with fail
   go_loopw [3, 4, 5, 27] (fun s3 s4 s5 s27 wr => ∃ (j : Nat) (s : ByteArray), s3 = .string s ∧ s27 = .int .i64 (j : Nat) ∧ j ≤ n ∧ Hid (St s (wrL 4 (ps.take j) true)) ∧ Hid (Below W.heap.size W wr) ∧ Hid (wr.heap[X]? = some (.cells #[.int .i64 4, .int .i64 0, .slice q n cap] 41 (0, 0)))) (fun _ _ _ i _ => n - (intOf i).toNat)
   case atStart => exact ⟨0, _, rfl, rfl, Nat.zero_le _, rfl, HBA.out, HX0.out⟩
   case round =>
    obtain ⟨j, s, rfl, rfl, hj, HSt, HB, HXr⟩ := hrel
    by_cases hlt : j < n
    ·obtain ⟨x, hx⟩ : ∃ x, ps[j]? = some x := ⟨_, List.getElem?_eq_getElem (by rw [HN.out]; exact hlt)⟩
     obtain ⟨b, o, qq, _, c, -, rfl, hbl, d0, d1, d2, rfl, hPt⟩ := HD0.out.part hx
     have y0 := (HB.out.cell (p := ⟨b, _, none⟩) hbl).trans d0
     have y1 := (HB.out.cell (p := ⟨b, _, none⟩) hbl).trans d1
     have y2 := (HB.out.cell (p := ⟨b, _, none⟩) hbl).trans d2
     have g0 : (j : Int) < ((n : Nat) : Int) := by omega
     have g00 : (0 : Int) ≤ (j : Int) := by omega
     have HPX : Hid (patW x (d + if parW 4 x.op = true then 1 else 0) = true) := by have h := HPL.out; rw [patL_all] at h; exact (List.all_eq_true.1 h) x (List.mem_of_getElem? hx)
     have hstep := cntL_step hx
     have hcl := cntL_take_le ps (j + 1)
     have hwl := wrL_len 4 (ps.take j) true
     have hwx := wrW_len x
     have hcx := cntW_pos x
     have C := Lib.hid (IH.out x wr x.op x.num qq x.l.length c _ (hPt.kept (All.kept HB.out)) HPX.out (by omega))
     have HXJ := Lib.hid hx
     have r2 : wr.cell? ⟨X, 2, none⟩ = some (.slice (some ⟨b, o, none⟩) n cap) := by rw [cell_of_row _ _ _ _ _ _ HXr.out]; rfl
     have rl : X < wr.heap.size := (Array.getElem?_eq_some_iff.1 HXr.out).1
     go_wp2_with (go_at_call 51; refine C.out.mono ?_; rintro e1 w1 ⟨sx, rfl, hsx, hb1⟩)
     have HSX := Lib.hid hsx
     have HB1 := Lib.hid (HB.out.trans (hb1.mono HB.out.size))
     have HX1 := Lib.hid ((hb1.block X rl).trans HXr.out)
     have HXd : Hid (w1.drew.heap[X]? = some (.cells #[.int .i64 4, .int .i64 0, .slice (some ⟨b, o, none⟩) n cap] 41 (0, 0))) := HX1.out
     obtain ⟨wd, hwd⟩ : ∃ wd, w1.drew = wd := ⟨_, rfl⟩
     have HBd : Hid (Below W.heap.size W wd) := by show Below _ _ _; rw [← hwd]; exact HB1.out.drew
     have e0 : w1.drew.cell? ⟨b, o + j * 3, none⟩ = some (.int .i64 x.op) := (HB1.out.cell (p := ⟨b, _, none⟩) hbl).trans d0
     have s0 : w1.drew.cell? ⟨X, 0, none⟩ = some (.int .i64 4) := by rw [cell_of_row _ _ _ _ _ _ HXd.out]; rfl
     have s2 : w1.drew.cell? ⟨X, 2, none⟩ = some (.slice (some ⟨b, o, none⟩) n cap) := by rw [cell_of_row _ _ _ _ _ _ HXd.out]; rfl
     have sl : X < w1.drew.heap.size := (Array.getElem?_eq_some_iff.1 HXd.out).1
     have t0 : wd.cell? ⟨X, 0, none⟩ = some (.int .i64 4) := by rw [← hwd]; exact s0
     have tl : X < wd.heap.size := by rw [← hwd]; exact sl
     have HXe : Hid (wd.heap[X]? = some (.cells #[.int .i64 4, .int .i64 0, .slice (some ⟨b, o, none⟩) n cap] 41 (0, 0))) := by rw [← hwd]; exact HXd
     have Hwd := Lib.hid hwd
     have CP := Lib.hid (rparens_any 4 x.op (by decide) wd)
     have HPC0 : Hid (pieceW 4 x = if parW 4 x.op = true then [40] ++ (wrW x ++ [41]) else wrW x) := rfl
     have HWST := Lib.hid (wrL_step (op := 4) hx)
     clear hx hbl d0 d1 d2 hPt hwd y0 y1 y2 r2 rl hb1 C hsx
     go_upto_region 13 with fail
     go_still_tail 8, (by kernel_rfl)
     change wpList _ _ _ _ _ w1.drew
     rw [Hwd.out]
     clear e0 s0 s2 sl
     cases hpar : parW 4 x.op with
     | true =>
      have HPC : Hid (pieceW 4 x = ([40] ++ (wrW x ++ [41]))) := by have h := HPC0.out; rw [hpar] at h; exact h
      rw [hpar] at CP
      clear hpar
      have q8 : ¬ 9223372036854775807 < 1 + sx.size := by have := HSX.out.size; omega
      obtain ⟨s8, k8⟩ : ∃ s8, (⟨#[40]⟩ : ByteArray) ++ sx = s8 := ⟨_, rfl⟩
      have S8 : Hid (St s8 ([40] ++ wrW x)) := St.cat (St.lit [40]) (HSX.out) k8
      have q9 : ¬ 9223372036854775807 < s8.size + 1 := by have := S8.out.size; simp only [length_append, length_cons, length_nil] at *; omega
      obtain ⟨s9, k9⟩ : ∃ s9, s8 ++ (⟨#[41]⟩ : ByteArray) = s9 := ⟨_, rfl⟩
      have S9 : Hid (St s9 (([40] ++ wrW x) ++ [41])) := St.cat (S8.out) (St.lit [41]) k9
      have HXX : Hid (St s9 (pieceW 4 x)) := by show St _ _; rw [HPC.out]; exact S9.out
      have hpl : (pieceW 4 x).length ≤ 15 * cntW x + 2 := by rw [HPC.out]; (try simp only [length_append, length_cons, length_nil]); omega
      by_cases hj0 : j = 0
      ·subst hj0
       go_wp2_with (go_at_call 99; refine CP.out.mono ?_; rintro e3 w3 ⟨rfl, rfl⟩)
       go_roundw
       case rel => exact ⟨0 + 1, s9, rfl, by go_num, by omega, by show St _ _; rw [HWST.out, List.take_zero]; simp only [if_true, eq_self, wrL, List.nil_append]; exact HXX.out, HBd.out, HXe.out⟩
       case measure => simp [intOf]; omega
      ·have j1 : ¬ (j : Int) = 0 := by omega
       obtain ⟨j2, j3⟩ := neI j1
       have HJ0 := Lib.hid hj0
       clear hj0
       have q10 : ¬ 9223372036854775807 < s.size + 3 := by have := HSt.out.size; omega
       obtain ⟨s10, k10⟩ : ∃ s10, s ++ (⟨#[32, 124, 32]⟩ : ByteArray) = s10 := ⟨_, rfl⟩
       have S10 : Hid (St s10 (wrL 4 (ps.take j) true ++ [32, 124, 32])) := St.cat (HSt.out) (St.lit [32, 124, 32]) k10
       have q11 : ¬ 9223372036854775807 < s10.size + s9.size := by have := S10.out.size; have := HXX.out.size; simp only [length_append, length_cons, length_nil] at *; omega
       obtain ⟨s11, k11⟩ : ∃ s11, s10 ++ s9 = s11 := ⟨_, rfl⟩
       have S11 := Lib.hid (St.cat (S10.out) (HXX.out) k11)
       go_wp2_with (go_at_call 99; refine CP.out.mono ?_; rintro e3 w3 ⟨rfl, rfl⟩)
       go_roundw
       case rel => exact ⟨j + 1, s11, rfl, by go_num, by omega, by show St _ _; rw [HWST.out, if_neg HJ0.out, ← List.append_assoc]; exact S11.out, HBd.out, HXe.out⟩
       case measure => simp [intOf]; omega
     | false =>
      have HPC : Hid (pieceW 4 x = wrW x) := by have h := HPC0.out; rw [hpar] at h; exact h
      rw [hpar] at CP
      clear hpar
      have HXX : Hid (St sx (pieceW 4 x)) := by show St _ _; rw [HPC.out]; exact HSX.out
      have hpl : (pieceW 4 x).length ≤ 15 * cntW x + 2 := by rw [HPC.out]; (try simp only [length_append, length_cons, length_nil]); omega
      by_cases hj0 : j = 0
      ·subst hj0
       go_wp2_with (go_at_call 99; refine CP.out.mono ?_; rintro e3 w3 ⟨rfl, rfl⟩)
       go_roundw
       case rel => exact ⟨0 + 1, sx, rfl, by go_num, by omega, by show St _ _; rw [HWST.out, List.take_zero]; simp only [if_true, eq_self, wrL, List.nil_append]; exact HXX.out, HBd.out, HXe.out⟩
       case measure => simp [intOf]; omega
      ·have j1 : ¬ (j : Int) = 0 := by omega
       obtain ⟨j2, j3⟩ := neI j1
       have HJ0 := Lib.hid hj0
       clear hj0
       have q12 : ¬ 9223372036854775807 < s.size + 3 := by have := HSt.out.size; omega
       obtain ⟨s12, k12⟩ : ∃ s12, s ++ (⟨#[32, 124, 32]⟩ : ByteArray) = s12 := ⟨_, rfl⟩
       have S12 : Hid (St s12 (wrL 4 (ps.take j) true ++ [32, 124, 32])) := St.cat (HSt.out) (St.lit [32, 124, 32]) k12
       have q13 : ¬ 9223372036854775807 < s12.size + sx.size := by have := S12.out.size; have := HXX.out.size; simp only [length_append, length_cons, length_nil] at *; omega
       obtain ⟨s13, k13⟩ : ∃ s13, s12 ++ sx = s13 := ⟨_, rfl⟩
       have S13 := Lib.hid (St.cat (S12.out) (HXX.out) k13)
       go_wp2_with (go_at_call 99; refine CP.out.mono ?_; rintro e3 w3 ⟨rfl, rfl⟩)
       go_roundw
       case rel => exact ⟨j + 1, s13, rfl, by go_num, by omega, by show St _ _; rw [HWST.out, if_neg HJ0.out, ← List.append_assoc]; exact S13.out, HBd.out, HXe.out⟩
       case measure => simp [intOf]; omega
    ·obtain rfl : j = n := by omega
     have hjj : ¬ (j : Int) < (j : Int) := by omega
     have HTK : Hid (ps.take j = ps) := List.take_of_length_le (by rw [HN.out]; exact Nat.le_refl _)
     go_wp2_with fail
     rw [← HPP.out]
     exact ⟨s, rfl, by rw [wrW]; have h := HSt.out; rw [HTK.out] at h; simpa using h, HB.out⟩
  obtain ⟨eo4, no4⟩ := neI o4
  by_cases o5 : op = 5
  ·subst o5
   have hr := HR.out
   rw [if_neg (by decide), if_neg (by decide), if_neg (by decide), if_neg (by decide), if_pos (by decide)] at hr
   simp only [Bool.and_eq_true, decide_eq_true_eq] at hr
   obtain ⟨rfl, hl, hpl⟩ := hr
   have HPL := Lib.hid hpl
   clear hpl hl
   have HX0 := HZA
   go_wp2_with fail
   go_loopw [3, 4, 5, 27] (fun s3 s4 s5 s27 wr => ∃ (j : Nat) (s : ByteArray), s3 = .string s ∧ s27 = .int .i64 (j : Nat) ∧ j ≤ n ∧ Hid (St s (wrL 5 (ps.take j) true)) ∧ Hid (Below W.heap.size W wr) ∧ Hid (wr.heap[X]? = some (.cells #[.int .i64 5, .int .i64 0, .slice q n cap] 41 (0, 0)))) (fun _ _ _ i _ => n - (intOf i).toNat)
   case atStart => exact ⟨0, _, rfl, rfl, Nat.zero_le _, rfl, HBA.out, HX0.out⟩
   case round =>
    obtain ⟨j, s, rfl, rfl, hj, HSt, HB, HXr⟩ := hrel
    by_cases hlt : j < n
    ·obtain ⟨x, hx⟩ : ∃ x, ps[j]? = some x := ⟨_, List.getElem?_eq_getElem (by rw [HN.out]; exact hlt)⟩
     obtain ⟨b, o, qq, _, c, -, rfl, hbl, d0, d1, d2, rfl, hPt⟩ := HD0.out.part hx
     have y0 := (HB.out.cell (p := ⟨b, _, none⟩) hbl).trans d0
     have y1 := (HB.out.cell (p := ⟨b, _, none⟩) hbl).trans d1
     have y2 := (HB.out.cell (p := ⟨b, _, none⟩) hbl).trans d2
     have g0 : (j : Int) < ((n : Nat) : Int) := by omega
     have g00 : (0 : Int) ≤ (j : Int) := by omega
     have HPX : Hid (patW x (d + if parW 5 x.op = true then 1 else 0) = true) := by have h := HPL.out; rw [patL_all] at h; exact (List.all_eq_true.1 h) x (List.mem_of_getElem? hx)
     have hstep := cntL_step hx
     have hcl := cntL_take_le ps (j + 1)
     have hwl := wrL_len 5 (ps.take j) true
     have hwx := wrW_len x
     have hcx := cntW_pos x
     have C := Lib.hid (IH.out x wr x.op x.num qq x.l.length c _ (hPt.kept (All.kept HB.out)) HPX.out (by omega))
     have HXJ := Lib.hid hx
     have r2 : wr.cell? ⟨X, 2, none⟩ = some (.slice (some ⟨b, o, none⟩) n cap) := by rw [cell_of_row _ _ _ _ _ _ HXr.out]; rfl
     have rl : X < wr.heap.size := (Array.getElem?_eq_some_iff.1 HXr.out).1
     go_wp2_with (go_at_call 51; refine C.out.mono ?_; rintro e1 w1 ⟨sx, rfl, hsx, hb1⟩)
     have HSX := Lib.hid hsx
     have HB1 := Lib.hid (HB.out.trans (hb1.mono HB.out.size))
     have HX1 := Lib.hid ((hb1.block X rl).trans HXr.out)
     have HXd : Hid (w1.drew.heap[X]? = some (.cells #[.int .i64 5, .int .i64 0, .slice (some ⟨b, o, none⟩) n cap] 41 (0, 0))) := HX1.out
     obtain ⟨wd, hwd⟩ : ∃ wd, w1.drew = wd := ⟨_, rfl⟩
     have HBd : Hid (Below W.heap.size W wd) := by show Below _ _ _; rw [← hwd]; exact HB1.out.drew
     have e0 : w1.drew.cell? ⟨b, o + j * 3, none⟩ = some (.int .i64 x.op) := (HB1.out.cell (p := ⟨b, _, none⟩) hbl).trans d0
     have s0 : w1.drew.cell? ⟨X, 0, none⟩ = some (.int .i64 5) := by rw [cell_of_row _ _ _ _ _ _ HXd.out]; rfl
     have s2 : w1.drew.cell? ⟨X, 2, none⟩ = some (.slice (some ⟨b, o, none⟩) n cap) := by rw [cell_of_row _ _ _ _ _ _ HXd.out]; rfl
     have sl : X < w1.drew.heap.size := (Array.getElem?_eq_some_iff.1 HXd.out).1
     have t0 : wd.cell? ⟨X, 0, none⟩ = some (.int .i64 5) := by rw [← hwd]; exact s0
     have tl : X < wd.heap.size := by rw [← hwd]; exact sl
     have HXe : Hid (wd.heap[X]? = some (.cells #[.int .i64 5, .int .i64 0, .slice (some ⟨b, o, none⟩) n cap] 41 (0, 0))) := by rw [← hwd]; exact HXd
     have Hwd := Lib.hid hwd
     have CP := Lib.hid (rparens_any 5 x.op (by decide) wd)
     have HPC0 : Hid (pieceW 5 x = if parW 5 x.op = true then [40] ++ (wrW x ++ [41]) else wrW x) := rfl
     have HWST := Lib.hid (wrL_step (op := 5) hx)
     clear hx hbl d0 d1 d2 hPt hwd y0 y1 y2 r2 rl hb1 C hsx
     go_upto_region 13 with fail
     go_still_tail 8, (by kernel_rfl)
     change wpList _ _ _ _ _ w1.drew
     rw [Hwd.out]
     clear e0 s0 s2 sl
     cases hpar : parW 5 x.op with
     | true =>
      have HPC : Hid (pieceW 5 x = ([40] ++ (wrW x ++ [41]))) := by have h := HPC0.out; rw [hpar] at h; exact h
      rw [hpar] at CP
      clear hpar
      have q14 : ¬ 9223372036854775807 < 1 + sx.size := by have := HSX.out.size; omega
      obtain ⟨s14, k14⟩ : ∃ s14, (⟨#[40]⟩ : ByteArray) ++ sx = s14 := ⟨_, rfl⟩
      have S14 : Hid (St s14 ([40] ++ wrW x)) := St.cat (St.lit [40]) (HSX.out) k14
      have q15 : ¬ 9223372036854775807 < s14.size + 1 := by have := S14.out.size; simp only [length_append, length_cons, length_nil] at *; omega
      obtain ⟨s15, k15⟩ : ∃ s15, s14 ++ (⟨#[41]⟩ : ByteArray) = s15 := ⟨_, rfl⟩
      have S15 : Hid (St s15 (([40] ++ wrW x) ++ [41])) := St.cat (S14.out) (St.lit [41]) k15
      have HXX : Hid (St s15 (pieceW 5 x)) := by show St _ _; rw [HPC.out]; exact S15.out
      have hpl : (pieceW 5 x).length ≤ 15 * cntW x + 2 := by rw [HPC.out]; (try simp only [length_append, length_cons, length_nil]); omega
      by_cases hj0 : j = 0
      ·subst hj0
       go_wp2_with (go_at_call 99; refine CP.out.mono ?_; rintro e3 w3 ⟨rfl, rfl⟩)
       go_roundw
       case rel => exact ⟨0 + 1, s15, rfl, by go_num, by omega, by show St _ _; rw [HWST.out, List.take_zero]; simp only [if_true, eq_self, wrL, List.nil_append]; exact HXX.out, HBd.out, HXe.out⟩
       case measure => simp [intOf]; omega
      ·have j1 : ¬ (j : Int) = 0 := by omega
       obtain ⟨j2, j3⟩ := neI j1
       have HJ0 := Lib.hid hj0
       clear hj0
       have q16 : ¬ 9223372036854775807 < s.size + 3 := by have := HSt.out.size; omega
       obtain ⟨s16, k16⟩ : ∃ s16, s ++ (⟨#[32, 38, 32]⟩ : ByteArray) = s16 := ⟨_, rfl⟩
       have S16 : Hid (St s16 (wrL 5 (ps.take j) true ++ [32, 38, 32])) := St.cat (HSt.out) (St.lit [32, 38, 32]) k16
       have q17 : ¬ 9223372036854775807 < s16.size + s15.size := by have := S16.out.size; have := HXX.out.size; simp only [length_append, length_cons, length_nil] at *; omega
       obtain ⟨s17, k17⟩ : ∃ s17, s16 ++ s15 = s17 := ⟨_, rfl⟩
       have S17 := Lib.hid (St.cat (S16.out) (HXX.out) k17)
       go_wp2_with (go_at_call 99; refine CP.out.mono ?_; rintro e3 w3 ⟨rfl, rfl⟩)
       go_roundw
       case rel => exact ⟨j + 1, s17, rfl, by go_num, by omega, by show St _ _; rw [HWST.out, if_neg HJ0.out, ← List.append_assoc]; exact S17.out, HBd.out, HXe.out⟩
       case measure => simp [intOf]; omega
     | false =>
      have HPC : Hid (pieceW 5 x = wrW x) := by have h := HPC0.out; rw [hpar] at h; exact h
      rw [hpar] at CP
      clear hpar
      have HXX : Hid (St sx (pieceW 5 x)) := by show St _ _; rw [HPC.out]; exact HSX.out
      have hpl : (pieceW 5 x).length ≤ 15 * cntW x + 2 := by rw [HPC.out]; (try simp only [length_append, length_cons, length_nil]); omega
      by_cases hj0 : j = 0
      ·subst hj0
       go_wp2_with (go_at_call 99; refine CP.out.mono ?_; rintro e3 w3 ⟨rfl, rfl⟩)
       go_roundw
       case rel => exact ⟨0 + 1, sx, rfl, by go_num, by omega, by show St _ _; rw [HWST.out, List.take_zero]; simp only [if_true, eq_self, wrL, List.nil_append]; exact HXX.out, HBd.out, HXe.out⟩
       case measure => simp [intOf]; omega
      ·have j1 : ¬ (j : Int) = 0 := by omega
       obtain ⟨j2, j3⟩ := neI j1
       have HJ0 := Lib.hid hj0
       clear hj0
       have q18 : ¬ 9223372036854775807 < s.size + 3 := by have := HSt.out.size; omega
       obtain ⟨s18, k18⟩ : ∃ s18, s ++ (⟨#[32, 38, 32]⟩ : ByteArray) = s18 := ⟨_, rfl⟩
       have S18 : Hid (St s18 (wrL 5 (ps.take j) true ++ [32, 38, 32])) := St.cat (HSt.out) (St.lit [32, 38, 32]) k18
       have q19 : ¬ 9223372036854775807 < s18.size + sx.size := by have := S18.out.size; have := HXX.out.size; simp only [length_append, length_cons, length_nil] at *; omega
       obtain ⟨s19, k19⟩ : ∃ s19, s18 ++ sx = s19 := ⟨_, rfl⟩
       have S19 := Lib.hid (St.cat (S18.out) (HXX.out) k19)
       go_wp2_with (go_at_call 99; refine CP.out.mono ?_; rintro e3 w3 ⟨rfl, rfl⟩)
       go_roundw
       case rel => exact ⟨j + 1, s19, rfl, by go_num, by omega, by show St _ _; rw [HWST.out, if_neg HJ0.out, ← List.append_assoc]; exact S19.out, HBd.out, HXe.out⟩
       case measure => simp [intOf]; omega
    ·obtain rfl : j = n := by omega
     have hjj : ¬ (j : Int) < (j : Int) := by omega
     have HTK : Hid (ps.take j = ps) := List.take_of_length_le (by rw [HN.out]; exact Nat.le_refl _)
     go_wp2_with fail
     rw [← HPP.out]
     exact ⟨s, rfl, by rw [wrW]; have h := HSt.out; rw [HTK.out] at h; simpa using h, HB.out⟩
  obtain ⟨eo5, no5⟩ := neI o5
  exfalso
  have hr := HR.out
  rw [if_neg o1, if_neg o2, if_neg o3, if_neg o6, if_neg (by omega)] at hr
  cases hr
end Go.Proofs.YtbdllefnghddcaaGreatDoor
