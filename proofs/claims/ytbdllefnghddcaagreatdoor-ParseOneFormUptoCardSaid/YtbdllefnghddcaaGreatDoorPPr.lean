/- PARSE: words, written; names between commas. PARSE: names between commas (the program's uses). PARSE: caps, when, core, wrap, written. -/
import Derived.Test.YtbdllefnghddcaaGreatDoorPName
import Derived.Test.YtbdllefnghddcaaGreatDoorPPar
import Derived.Test.YtbdllefnghddcaaGreatDoorPNew
import Derived.Test.YtbdllefnghddcaaGreatDoorPMem
namespace Go.Proofs.YtbdllefnghddcaaGreatDoor
section
open Go Go.RowKit
attribute [local go_sem ↓] Go.wp_at_zero Go.wp_at_succ

theorem flat_step {α : Type} {f : α → List UInt8} {l : List α} {j : Nat} {x : α} (h : l[j]? = some x) : ((l.take (j + 1)).map f).flatten = ((l.take j).map f).flatten ++ f x := by
 rw [take_snoc h, List.map_append, List.flatten_append]
 simp
theorem flat_take_le {α : Type} (f : α → List UInt8) : ∀ (l : List α) (j : Nat), ((l.take j).map f).flatten.length ≤ (l.map f).flatten.length
 | [], _ => by simp
 | x :: xs, 0 => by simp
 | x :: xs, j + 1 => by
  have := flat_take_le f xs j
  simp only [List.take_succ_cons, List.map_cons, List.flatten_cons, List.length_append]
  omega
def TxR (R : Nat) (W : World) (ls : List ByteArray) : Prop := W.heap[R]? = some (.cells (ls.map Value.string).toArray 9 (0, 0))
theorem TxR.cell {R : Nat} {W : World} {ls : List ByteArray} (h : TxR R W ls) {j : Nat} {s : ByteArray} (hs : ls[j]? = some s) : W.cell? ⟨R, j, none⟩ = some (.string s) := by
 rw [cell_of_row _ _ _ _ _ _ h]
 simp [hs]
theorem spsB_bs (ls : List ByteArray) : spsB (ls.map bs) = (ls.map fun s => 32 :: bs s).flatten := by
 unfold spsB
 rw [List.map_map]
 rfl
set_option maxRecDepth 100000 in
set_option maxHeartbeats 8000000 in
set_option linter.unusedSimpArgs false in
theorem words_any {T : TypeId} (hT : IsBT T) {base b : Nat} {W : World} {v : Value} {l : List UInt8} (R : Nat) (ls : List ByteArray) (hB : Bd T base b W v l) (hR : TxR R W ls) (hRb : R ≠ b) (hn : ls.length ≤ 1000) (hsz : l.length + (spsB (ls.map bs)).length ≤ 140737488355328) :
  Calls Tryz.prog 134 #[.pointer (some ⟨b, 0, none⟩), .slice (some ⟨R, 0, none⟩) ls.length ls.length] W (WrPost T base b W (l ++ spsB (ls.map bs))) := by
 obtain ⟨PP, hPP⟩ : ∃ PP, WrPost T base b W (l ++ spsB (ls.map bs)) = PP := ⟨_, rfl⟩
 rw [hPP]
 have HPP := Lib.hid hPP
 have HT : Hid (IsBT T) := hT
 have HR := Lib.hid hR
 have HB := Lib.hid hB
 rw [spsB_bs] at hsz
 have HSZ := Lib.hid hsz
 have hRl := (Array.getElem?_eq_some_iff.1 hR).1
 have hbl := hB.lt
 clear hPP hR hB hT hsz
 go_enter Tryz.func134, Tryz.ntmps134
 go_wp2_with fail
 go_loopw [5, 8] (fun s5 s8 wr => ∃ (j : Nat) (vr : Value), s8 = .int .i64 (j : Nat) ∧ j ≤ ls.length ∧ Hid (Bd T base b wr vr (l ++ ((ls.take j).map fun s => 32 :: bs s).flatten)) ∧ Hid (Wro base b W wr)) (fun _ i _ => ls.length - (intOf i).toNat)
 case atStart => exact ⟨0, v, rfl, Nat.zero_le _, by show Bd _ _ _ _ _ _; simpa using HB.out, Wro.refl _ _ _⟩
 case round =>
  obtain ⟨j, vr, rfl, hj, HBr, HWr⟩ := hrel
  by_cases hlt : j < ls.length
  ·obtain ⟨s, hs⟩ : ∃ s, ls[j]? = some s := ⟨_, List.getElem?_eq_getElem hlt⟩
   have HRr : Hid (TxR R wr ls) := HWr.out.box HR.out (by decide) hRb
   have c0 := HRr.out.cell hs
   have HSJ := Lib.hid hs
   have g0 : (j : Int) < ((ls.length : Nat) : Int) := by omega
   have g00 : (0 : Int) ≤ (j : Int) := by omega
   have ltR : R < wr.heap.size := (Array.getElem?_eq_some_iff.1 HRr.out).1
   have hbr := HBr.out.lt
   have h1 := flat_step (f := fun s => 32 :: bs s) hs
   have h2 := flat_take_le (fun s => 32 :: bs s) ls (j + 1)
   have h3 := HSZ.out
   have hl1 := congrArg List.length h1
   rw [List.length_append, List.length_cons] at hl1
   have hbs : (bs s).length = s.size := rfl
   have hq : ¬ 9223372036854775807 < 1 + s.size := by omega
   have hll : (l ++ ((ls.take j).map fun s => 32 :: bs s).flatten).length + ((⟨#[32]⟩ : ByteArray) ++ s).size ≤ 140737488355328 := by
    rw [List.length_append, ByteArray.size_append]
    show _ + (1 + s.size) ≤ _
    omega
   have CW := Lib.hid (write_any HT.out HBr.out (⟨#[32]⟩ ++ s) hll)
   have H1 := Lib.hid h1
   clear hs h1 h2 h3 hl1 hll hbs
   go_wp2_with (go_at_call 133; refine CW.out.mono ?_)
   rintro e1 w1 ⟨rfl, ⟨v1, hB1⟩, hW1⟩
   have HB1 : Hid (Bd T base b w1 v1 (l ++ ((ls.take (j + 1)).map fun s => 32 :: bs s).flatten)) := by
    show Bd _ _ _ _ _ _
    rw [H1.out, ← List.append_assoc]
    have e : bs ((⟨#[32]⟩ : ByteArray) ++ s) = 32 :: bs s := by simp [bs]
    rw [← e]
    exact hB1
   have HW1 := Lib.hid (HWr.out.trans hW1)
   clear hB1 hW1
   go_wp2_with fail
   go_roundw
   case rel => exact ⟨j + 1, v1, by go_num, by omega, HB1.out, HW1.out⟩
   case measure => simp [intOf]; omega
  ·obtain rfl : j = ls.length := by omega
   have hjj : ¬ ((ls.length : Nat) : Int) < ((ls.length : Nat) : Int) := by omega
   go_wp2_with fail
   go_end0
   rw [← HPP.out]
   refine ⟨rfl, ⟨vr, ?_⟩, HWr.out⟩
   rw [spsB_bs]
   have h := HBr.out
   rwa [List.take_length] at h
end
section
open Go Go.RowKit
attribute [local go_sem ↓] Go.wp_at_zero Go.wp_at_succ

theorem extra : Builder.Extra Tryz.prog Tryz.laysn156_ren where
 sizeBuilder := by kernel_rfl
 liesBuilder := by kernel_rfl
 t5 := Tryz.underlying5
 a5 := Tryz.isAgg5
 z5 := Tryz.sizeOf5
 v5 := Tryz.zeroValue5
 infoByte := by kernel_rfl
 cellsByte := by kernel_rfl
 sizeByte := by kernel_rfl
 neB5 := by decide
theorem join_none (W : World) (c : Nat) : Calls Tryz.prog 161 #[.slice none 0 c, .string ⟨#[44, 32]⟩] W (PatPost W (.string (ba (Lib.join [] commaB)))) := by
 refine (Any.strings_Join_none Tryz.laysn156 extra none c ⟨#[44, 32]⟩ W).mono ?_
 rintro e w' ⟨rfl, rfl⟩
 exact ⟨rfl, Below.refl _ _⟩
theorem join_own {W : World} {base : Nat} {v : Value} {ls : List ByteArray} (h : W.ownsRow base 9 1 v ls.length (ls.map Value.string)) (hn : ls.length ≤ 1048577) (hsz : (Lib.join (ls.map bs) commaB).length ≤ 140737488355328) :
  Calls Tryz.prog 161 #[v, .string ⟨#[44, 32]⟩] W (PatPost W (.string (ba (Lib.join (ls.map bs) commaB)))) := by
 have hl := h.lt
 rcases h.2 with ⟨rfl, h0⟩ | ⟨g, cap, cur, rfl, -, h3, h4, h5, h6, h7⟩
 ·obtain rfl : ls = [] := List.eq_nil_of_length_eq_zero h0
  exact join_none W 0
 ·have hcell : ∀ (j : Nat) x, ls[j]? = some x → W.cell? ⟨g, 0 + j, none⟩ = some (.string x) := fun j x hj => by
   have hjl := (List.getElem?_eq_some_iff.1 hj).1
   have := h.cells (g := g) rfl j (.string x) (by rw [List.getElem?_map, hj]; rfl)
   have hadd : (⟨g, 0, none⟩ : Addr).add j = ⟨g, 0 + j, none⟩ := by unfold Addr.add; split <;> simp_all
   rwa [hadd] at this
  refine (Any.strings_Join Tryz.laysn156 extra g 0 cap ls ⟨#[44, 32]⟩ W hcell (hl g rfl).2 (by omega) h4 hsz).mono ?_
  rintro e w' ⟨rfl, hb⟩
  exact ⟨rfl, hb⟩
set_option maxRecDepth 100000 in
set_option maxHeartbeats 8000000 in
set_option linter.unusedSimpArgs false in
theorem uses_any {W : World} {v : Value} {us : List Us} (hV : UsP All W v us) (hn : us.length ≤ 1048577) (hsz : (usesB us).length ≤ 140737488355328) :
  Calls Tryz.prog 138 #[v] W (PatPost W (.string (ba (usesB us)))) := by
 obtain ⟨PP, hPP⟩ : ∃ PP, PatPost W (.string (ba (usesB us))) = PP := ⟨_, rfl⟩
 rw [hPP]
 have HPP := Lib.hid hPP
 obtain ⟨q, cap, rfl, -⟩ := hV.shape
 have HV := Lib.hid hV
 have HSZ := Lib.hid hsz
 obtain ⟨i0, hi, hz0, hz1, hz2⟩ := info_of info_str
 clear hPP hV hsz
 go_enter Tryz.func138, Tryz.ntmps138
 go_wp2_with fail
 go_loopw [3, 5, 8] (fun s3 s5 s8 wr => ∃ (j : Nat) (q3 : Option Addr) (c3 : Nat), s3 = .slice q3 j c3 ∧ s8 = .int .i64 (j : Nat) ∧ j ≤ us.length ∧ Hid (wr.ownsRow W.heap.size 9 1 (.slice q3 j c3) j ((us.take j).map fun u => Value.string u.name)) ∧ Hid (Below W.heap.size W wr)) (fun _ _ i _ => us.length - (intOf i).toNat)
 case atStart => exact ⟨0, none, 0, rfl, rfl, Nat.zero_le _, World.ownsRow_nil _ _ _ _, Below.refl _ _⟩
 case round =>
  obtain ⟨j, q3, c3, rfl, rfl, hj, HOW, HB⟩ := hrel
  by_cases hlt : j < us.length
  ·obtain ⟨u, hu⟩ : ∃ u, us[j]? = some u := ⟨_, List.getElem?_eq_getElem hlt⟩
   obtain ⟨b, o, cap2, e, -, hbl, d0, d1⟩ := HV.out.at hu
   injection e with e _ e3
   subst e; subst e3
   have y0 := (HB.out.cell (p := ⟨b, _, none⟩) hbl).trans d0
   have y1 := (HB.out.cell (p := ⟨b, _, none⟩) hbl).trans d1
   have hs := HB.out.size
   have g0 : (j : Int) < ((us.length : Nat) : Int) := by omega
   have g00 : (0 : Int) ≤ (j : Int) := by omega
   obtain ⟨R, hR⟩ : ∃ R, wr.heap.size = R := ⟨_, rfl⟩
   obtain ⟨w1, hw1⟩ : ∃ w1, wr.alloc (.cells #[.string u.name, .int .i64 u.pos] 74) = w1 := ⟨_, rfl⟩
   have HR1 := Lib.hid (aRow_ hw1 hR)
   have hb1 : Below wr.heap.size wr w1 := by rw [← hw1]; exact (Below.refl _ wr).alloc (Nat.le_refl _) _
   have HB1 := Lib.hid (HB.out.trans (hb1.mono HB.out.size))
   have HO1 : Hid (w1.ownsRow W.heap.size 9 1 (.slice q3 j c3) j ((us.take j).map fun u => Value.string u.name)) := ownsRow_heap HOW.out fun b hb => hb1.block b (HOW.out.lt b hb).2
   have HU := Lib.hid (take_snoc hu)
   have HR := Lib.hid hR
   have Hw1 := Lib.hid hw1
   have hs1 := HB1.out.size
   have r0 : w1.cell? ⟨R, 0, none⟩ = some (.string u.name) := by rw [cell_of_row _ _ _ _ _ _ HR1.out]; rfl
   have ltR : R < w1.heap.size := (Array.getElem?_eq_some_iff.1 HR1.out).1
   clear hu d0 d1 hbl hR hw1 hb1
   go_upto_region 5 with fail
   rw [HR.out, Hw1.out]
   clear y0 y1
   go_wp2_with (at_builtin; refine wpList_append_own_at _ rfl _ _ 56 rfl W.heap.size 9 i0 _ 1 16 Tryz.underlying56 hi hz0 hz1 hz2 rfl (by decide) _ _ _ rfl (HO1.out.alloc _) ⟨w1.heap.size, 0, none⟩ 1 1 [.string u.name] rfl rfl (news_flat w1 _ _) (by intro u hu; simp at hu; subst hu; rfl) (by unfold maxLen; omega) (by omega) (by simp; omega) ?_; intro v2 w6 hown2 hg6 hnil2 hloc2; have HOW2 := Lib.hid hown2; have HG6 := Lib.hid hg6; clear hown2 hg6 hnil2 hloc2)
   have HB6 : Hid (Below W.heap.size W w6) := (HB1.out.alloc hs1 _).grown HG6.out (by rw [World.size_alloc]; omega) (fun k hk => (HO1.out.lt k hk).1)
   have HO6 : Hid (w6.ownsRow W.heap.size 9 1 v2 (j + 1) ((us.take (j + 1)).map fun u => Value.string u.name)) := by
    show World.ownsRow _ _ _ _ _ _ _
    rw [HU.out, List.map_append]
    exact HOW2.out
   obtain ⟨q6, c6, rfl⟩ : ∃ q6 c6, v2 = .slice q6 (j + 1) c6 := by
    rcases HO6.out.2 with ⟨h, h0⟩ | ⟨g, c6, cur, h, -⟩
    ·exact absurd h0 (by omega)
    ·exact ⟨_, _, h⟩
   go_roundw
   case rel => exact ⟨j + 1, q6, c6, rfl, by go_num, by omega, HO6.out, HB6.out⟩
   case measure => simp [intOf]; omega
  ·obtain rfl : j = us.length := by omega
   have hjj : ¬ ((us.length : Nat) : Int) < ((us.length : Nat) : Int) := by omega
   have hm : us.map (fun u => bs u.name) = (us.map fun u => u.name).map bs := by rw [List.map_map]; rfl
   have CJ : Hid (Calls Tryz.prog 161 #[.slice q3 us.length c3, .string ⟨#[44, 32]⟩] wr (PatPost wr (.string (ba (usesB us))))) := by
    have ho := HOW.out
    rw [List.take_length] at ho
    have hsz := HSZ.out
    unfold usesB at hsz
    rw [hm] at hsz
    have := join_own (ls := us.map fun u => u.name) (W := wr) (base := W.heap.size) (v := .slice q3 us.length c3) (by rw [List.length_map, List.map_map]; exact ho) (by rw [List.length_map]; exact hn) hsz
    show Calls _ _ _ _ _
    unfold usesB
    rw [hm]
    exact this
   clear hm
   go_wp2_with (go_at_call 161; refine CJ.out.mono ?_; rintro e2 w2 ⟨rfl, hb2⟩)
   rw [← HPP.out]
   exact ⟨rfl, HB.out.trans (hb2.mono HB.out.size)⟩
end
section
open List (length_append)
set_option linter.unusedSimpArgs false
set_option maxHeartbeats 8000000
set_option maxRecDepth 100000
open Go Go.RowKit
attribute [local go_sem ↓] Go.wp_at_zero Go.wp_at_succ

theorem pow_named : Tryz.prog.globalNamed "internal/strconv.uint64pow10" = some 5 := by kernel_rfl
theorem Pow.block {w w' : World} (h : Pow w) (hb : w'.heap[5]? = w.heap[5]?) : Pow w' := by
 unfold Pow Lib.TabIs World.var? at *
 rw [pow_named] at h ⊢
 simp only [Option.bind_some] at h ⊢
 rw [hb]
 exact h
structure Pv (base : Nat) (W : World) : Prop where
 tb : Tb base W
 lp : 5 < base
 pow : Pow W
theorem Pv.below {base : Nat} {W W' : World} (h : Pv base W) (hb : Below base W W') : Pv base W' := ⟨h.tb.below hb, h.lp, h.pow.block (hb.block _ h.lp)⟩
theorem Pv.up {base b2 : Nat} {W : World} (h : Pv base W) (hb : base ≤ b2) : Pv b2 W := ⟨⟨Nat.lt_of_lt_of_le h.tb.lk hb, Nat.lt_of_lt_of_le h.tb.lf hb, h.tb.k, h.tb.f⟩, Nat.lt_of_lt_of_le h.lp hb, h.pow⟩
theorem Lo.all {base : Nat} {W W' : World} (hb : Below base W W') : ∀ c, Lo base c → c < W.heap.size → W'.heap[c]? = W.heap[c]? ∧ All c := fun c hc _ => ⟨hb.block c hc, trivial⟩
theorem Lo.up {base b2 : Nat} {W W' : World} (hb : Below base W W') (h2 : base ≤ b2) : ∀ c, Lo base c → c < W.heap.size → W'.heap[c]? = W.heap[c]? ∧ Lo b2 c := fun c hc _ => ⟨hb.block c hc, Nat.lt_of_lt_of_le hc h2⟩
theorem cat_ba (x y : List UInt8) : (⟨x.toArray⟩ : ByteArray) ++ ba y = ba (x ++ y) := by
 have h : ((⟨x.toArray⟩ : ByteArray) ++ ba y).data = (ba (x ++ y)).data := by simp [ba]
 cases hx : (⟨x.toArray⟩ : ByteArray) ++ ba y with
 | mk d =>
  rw [hx] at h
  cases hy : ba (x ++ y) with
  | mk d2 => rw [hy] at h; exact congrArg ByteArray.mk h
def NmU (us : List Us) : Prop := us.length ≤ 1048577
def NmN (n : Int) : Prop := 0 ≤ n ∧ n < 18446744073709551616
def NmW (w : WrapT) : Prop := (∀ n ∈ w.nums, NmN n) ∧ NmU w.caps
def NmH (d : HandT) : Prop := NmN d.core.num ∧ NmU d.core.caps ∧ (∀ w ∈ d.wraps, NmW w) ∧ NmN d.inbox ∧ NmU d.after
def NmT (t : TreeT) : Prop := ∀ d ∈ t.hands, NmH d

theorem caps_any {T : TypeId} (hT : IsBT T) {base b : Nat} {W : World} {v : Value} {l : List UInt8} (hB : Bd T base b W v l) {u : Value} {us : List Us} (hU : UsP (Lo base) W u us) (hN : NmU us) (hsz : l.length + (capsB us).length ≤ 140737488355328) :
  Calls Tryz.prog 160 #[.pointer (some ⟨b, 0, none⟩), u] W (WrPost T base b W (l ++ capsB us)) := by
 obtain ⟨PP, hPP⟩ : ∃ PP, WrPost T base b W (l ++ capsB us) = PP := ⟨_, rfl⟩
 rw [hPP]
 have HPP := Lib.hid hPP
 obtain ⟨w0, hw0⟩ : ∃ w0, W = w0 := ⟨_, rfl⟩
 obtain ⟨q, cap, rfl, -⟩ := hU.shape
 have hbl := hB.lt
 have hblo := hB.lo
 have HT : Hid (IsBT T) := hT
 have HB0 : Hid (Bd T base b w0 v l) := by rw [← hw0]; exact hB
 have HW0 : Hid (Wro base b W w0) := by rw [← hw0]; exact Wro.refl _ _ _
 have HU := Lib.hid hU
 have Hw0 := Lib.hid hw0
 clear hPP hB hU hw0
 by_cases h0 : us.length = 0
 ·have h0i : ¬ (0 : Int) < ((us.length : Nat) : Int) := by omega
  have HC : Hid (capsB us = []) := by show _ = _; unfold capsB; rw [if_pos h0]
  clear h0
  skip
  go_enter Tryz.func160, Tryz.ntmps160
  go_wp2_with fail
  go_end0
  rw [← HPP.out]
  exact ⟨rfl, ⟨v, by rw [HC.out, List.append_nil, Hw0.out]; exact HB0.out⟩, by rw [Hw0.out]; exact Wro.refl _ _ _⟩
 ·have h0i : (0 : Int) < ((us.length : Nat) : Int) := by omega
  have hc : capsB us = spsB [[99, 97, 112, 115], usesB us] := by unfold capsB; rw [if_neg h0]
  have HC := Lib.hid hc
  rw [hc] at hsz
  have HSZ := Lib.hid hsz
  have hul : (usesB us).length ≤ 140737488355328 := by
   have h5 : (spsB [[99, 97, 112, 115], usesB us]).length = 5 + (1 + (usesB us).length) := by simp [spsB, spB]; omega
   omega
  clear h0 hc hsz
  go_enter Tryz.func160, Tryz.ntmps160
  rw [Hw0.out]
  have C1 := Lib.hid (uses_any (W := w0) (FlP.kept HU.out (Lo.all HW0.out.bel)) hN hul)
  go_wp2_with (go_at_call 138; refine C1.out.mono ?_)
  rintro e1 w1 ⟨rfl, hb1⟩
  have hW1 : Wro base b w0 w1 := .of hb1 (by have := HB0.out.lt; have := HB0.out.lo; omega)
  have HB1 := Lib.hid (HB0.out.below hb1)
  have HW1 : Hid (Wro base b W w1) := HW0.out.trans hW1
  clear hb1 hW1 C1
  have C2 : Hid (Calls Tryz.prog 134 #[.pointer (some ⟨b, 0, none⟩), .slice (some ⟨w1.heap.size, 0, none⟩) 2 2] (w1.alloc (.cells #[Value.string ⟨#[99, 97, 112, 115]⟩, Value.string (ba (usesB us))] 9)) (WrPost T base b (w1.alloc (.cells #[Value.string ⟨#[99, 97, 112, 115]⟩, Value.string (ba (usesB us))] 9)) ((l) ++ spsB [[99, 97, 112, 115], usesB us]))) := words_any HT.out w1.heap.size [⟨#[99, 97, 112, 115]⟩, ba (usesB us)] (HB1.out.below ((Below.refl _ w1).alloc (Nat.le_refl _) _)) (heap_alloc_new w1 _) (by have := HB1.out.lt; omega) (Nat.le_of_ble_eq_true rfl) (show (l).length + (spsB [[99, 97, 112, 115], usesB us]).length ≤ 140737488355328 by have h := HSZ.out; (try simp only [length_append] at h); (try simp only [length_append]); omega)
  go_wp2_with (go_at_call 134; refine C2.out.mono ?_)
  rintro e2 w2 ⟨rfl, ⟨v2, hB2⟩, hW2x⟩
  have hW2 : Wro base b w1 w2 := (Wro.of ((Below.refl _ w1).alloc (Nat.le_refl _) _) (by have := HB1.out.lt; have := HB1.out.lo; omega)).trans hW2x
  have HB2 : Hid (Bd T base b w2 v2 (l ++ spsB [[99, 97, 112, 115], usesB us])) := by have h := hB2; show Bd _ _ _ _ _ _; (try simp only [List.append_assoc, List.map_take] at h); (try simp only [List.append_assoc, List.map_take]); exact h
  have HW2 : Hid (Wro base b W w2) := HW1.out.trans hW2
  clear hB2 hW2x hW2 C2
  go_wp2_with fail
  go_end0
  rw [← HPP.out]
  exact ⟨rfl, ⟨_, by rw [HC.out]; exact HB2.out⟩, HW2.out⟩
theorem when_any {T : TypeId} (hT : IsBT T) {base b : Nat} {W : World} {v : Value} {l : List UInt8} (hB : Bd T base b W v l) (is : Bool) (k : Nat) (x : Wt) (op num : Int) (q : Option Addr) (n cap : Nat) (hP : Pv base W) (hD : WtP (Lo base) W k [.int .i64 op, .int .i64 num, .slice q n cap] x) (hR : is = true → rightB x = true) (hsz : l.length + (whenW is x).length ≤ 140737488355328) :
  Calls Tryz.prog 140 #[.pointer (some ⟨b, 0, none⟩), .bool is, .agg #[.int .i64 op, .int .i64 num, .slice q n cap]] W (WrPost T base b W (l ++ whenW is x)) := by
 obtain ⟨PP, hPP⟩ : ∃ PP, WrPost T base b W (l ++ whenW is x) = PP := ⟨_, rfl⟩
 rw [hPP]
 have HPP := Lib.hid hPP
 obtain ⟨w0, hw0⟩ : ∃ w0, W.alloc (.cells #[.int .i64 op, .int .i64 num, .slice q n cap] 41) = w0 := ⟨_, rfl⟩
 obtain ⟨X, hX⟩ : ∃ X, W.heap.size = X := ⟨_, rfl⟩
 have hb0 : Below W.heap.size W w0 := by rw [← hw0]; exact (Below.refl _ W).alloc (Nat.le_refl _) _
 have HX0 := Lib.hid (aRow_ hw0 hX)
 have hbl := hB.lt
 have hblo := hB.lo
 have lbX : b < X := by omega
 have HB0 := Lib.hid (hB.below hb0)
 have HW0 : Hid (Wro base b W w0) := .of hb0 (by omega)
 have HX := Lib.hid hX
 have Hw0 := Lib.hid hw0
 have HT : Hid (IsBT T) := hT
 clear hX hw0 hb0 hB
 obtain ⟨z0, z1, z2⟩ := row3_ HX0.out
 have zl : X < w0.heap.size := (Array.getElem?_eq_some_iff.1 HX0.out).1
 have HD := Lib.hid hD
 have HP := Lib.hid hP
 clear hPP hD hP
 cases is with
 | false =>
  go_enter Tryz.func140, Tryz.ntmps140
  go_upto_region 1 with fail
  rw [HX.out, Hw0.out]
  go_wp2_with fail
  go_end0
  rw [← HPP.out]
  exact ⟨rfl, ⟨v, by show Bd _ _ _ _ _ (l ++ []); rw [List.append_nil]; exact HB0.out⟩, HW0.out⟩
 | true =>
  have hr := hR rfl
  have HSZ : Hid (l.length + (spsB [[119, 104, 101, 110], wrW x]).length ≤ 140737488355328) := hsz
  have hb0l := HB0.out.lt
  have hb0o := HB0.out.lo
  go_enter Tryz.func140, Tryz.ntmps140
  go_upto_region 1 with fail
  rw [HX.out, Hw0.out]
  have C1 := Lib.hid (text_any w0 k x op num q n cap (HD.out.kept (Lo.up HW0.out.bel (by omega))) ((HP.out.below HW0.out.bel).up (show base ≤ w0.heap.size by omega)).tb hr)
  go_wp2_with (go_at_call 58; refine C1.out.mono ?_)
  rintro e1 w1 ⟨rfl, hb1⟩
  have hW1 : Wro base b w0 w1 := .of hb1 (by have := HB0.out.lt; have := HB0.out.lo; omega)
  have HB1 := Lib.hid (HB0.out.below hb1)
  have HW1 : Hid (Wro base b W w1) := HW0.out.trans hW1
  have HX1 := Lib.hid (hW1.box HX0.out (by decide) (by omega))
  clear hb1 hW1 C1
  have C2 : Hid (Calls Tryz.prog 134 #[.pointer (some ⟨b, 0, none⟩), .slice (some ⟨w1.heap.size, 0, none⟩) 2 2] (w1.alloc (.cells #[Value.string ⟨#[119, 104, 101, 110]⟩, Value.string (ba (wrW x))] 9)) (WrPost T base b (w1.alloc (.cells #[Value.string ⟨#[119, 104, 101, 110]⟩, Value.string (ba (wrW x))] 9)) ((l) ++ spsB [[119, 104, 101, 110], wrW x]))) := words_any HT.out w1.heap.size [⟨#[119, 104, 101, 110]⟩, ba (wrW x)] (HB1.out.below ((Below.refl _ w1).alloc (Nat.le_refl _) _)) (heap_alloc_new w1 _) (by have := HB1.out.lt; omega) (Nat.le_of_ble_eq_true rfl) (show (l).length + (spsB [[119, 104, 101, 110], wrW x]).length ≤ 140737488355328 by have h := HSZ.out; (try simp only [length_append] at h); (try simp only [length_append]); omega)
  go_wp2_with (go_at_call 134; refine C2.out.mono ?_)
  rintro e2 w2 ⟨rfl, ⟨v2, hB2⟩, hW2x⟩
  have hW2 : Wro base b w1 w2 := (Wro.of ((Below.refl _ w1).alloc (Nat.le_refl _) _) (by have := HB1.out.lt; have := HB1.out.lo; omega)).trans hW2x
  have HB2 : Hid (Bd T base b w2 v2 (l ++ spsB [[119, 104, 101, 110], wrW x])) := by have h := hB2; show Bd _ _ _ _ _ _; (try simp only [List.append_assoc, List.map_take] at h); (try simp only [List.append_assoc, List.map_take]); exact h
  have HW2 : Hid (Wro base b W w2) := HW1.out.trans hW2
  have HX2 := Lib.hid (hW2.box HX1.out (by decide) (by omega))
  clear hB2 hW2x hW2 C2
  go_wp2_with fail
  go_end0
  rw [← HPP.out]
  exact ⟨rfl, ⟨_, by show Bd _ _ _ _ _ (l ++ spsB [[119, 104, 101, 110], wrW x]); exact HB2.out⟩, HW2.out⟩
theorem wcore_any {T : TypeId} (hT : IsBT T) {base b : Nat} {W : World} {v : Value} {l : List UInt8} (hB : Bd T base b W v l) (c : CoreT) {cs : List Value} (hP : Pv base W) (hR : CoreP (Lo base) W cs c) (hN : NmN c.num) (hU : NmU c.caps) (hsz : l.length + (coreW c).length ≤ 140737488355328) :
  Calls Tryz.prog 135 #[.pointer (some ⟨b, 0, none⟩), .agg cs.toArray] W (WrPost T base b W (l ++ coreW c)) := by
 obtain ⟨PP, hPP⟩ : ∃ PP, WrPost T base b W (l ++ coreW c) = PP := ⟨_, rfl⟩
 rw [hPP]
 have HPP := Lib.hid hPP
 obtain ⟨cv, rfl, hcaps⟩ := hR
 obtain ⟨cq, cc, rfl, -⟩ := UsP.shape hcaps
 obtain ⟨nu, hnu⟩ : ∃ nu : Nat, c.num = (nu : Int) := ⟨c.num.toNat, by have := hN.1; omega⟩
 have hnl : nu < 18446744073709551616 := by have := hN.2; omega
 obtain ⟨w0, hw0⟩ : ∃ w0, W.alloc (.cells #[.string c.word, .bool c.has, .bool c.minus, .int .u64 c.num, .slice cq c.caps.length cc, .int .i64 c.pos] 78) = w0 := ⟨_, rfl⟩
 obtain ⟨X, hX⟩ : ∃ X, W.heap.size = X := ⟨_, rfl⟩
 have hb0 : Below W.heap.size W w0 := by rw [← hw0]; exact (Below.refl _ W).alloc (Nat.le_refl _) _
 have HX0 := Lib.hid (aRow_ hw0 hX)
 have hbl := hB.lt
 have hblo := hB.lo
 have lbX : b < X := by omega
 have HB0 := Lib.hid (hB.below hb0)
 have HW0 : Hid (Wro base b W w0) := .of hb0 (by omega)
 have HX := Lib.hid hX
 have Hw0 := Lib.hid hw0
 have HT : Hid (IsBT T) := hT
 clear hX hw0 hb0 hB
 obtain ⟨z0, z1, z2, z3, z4, z5⟩ := row6_ HX0.out
 have zl : X < w0.heap.size := (Array.getElem?_eq_some_iff.1 HX0.out).1
 have HP := Lib.hid hP
 have HCA := Lib.hid hcaps
 have HNU := Lib.hid hnu
 unfold coreW at hsz
 clear hPP hP hcaps hnu
 rcases Bool.eq_false_or_eq_true c.has with hh | hh
 ·rcases Bool.eq_false_or_eq_true c.minus with hm | hm
  ·rw [hh, hm, if_pos rfl, if_pos rfl] at hsz
   have HSZ : Hid (l.length + (spsB [bs c.word] ++ (spsB [45 :: digW c.num] ++ capsB c.caps)).length ≤ 140737488355328) := hsz
   have HEV : Hid (coreW c = spsB [bs c.word] ++ (spsB [45 :: digW c.num] ++ capsB c.caps)) := by show _ = _; unfold coreW; rw [hh, hm, if_pos rfl, if_pos rfl]; try rfl
   rw [hh] at z1
   rw [hm] at z2
   have HH := Lib.hid hh
   have HM := Lib.hid hm
   clear hsz hh hm
   go_enter Tryz.func135, Tryz.ntmps135
   go_upto_region 1 with fail
   rw [HX.out, Hw0.out]
   have C1 : Hid (Calls Tryz.prog 134 #[.pointer (some ⟨b, 0, none⟩), .slice (some ⟨w0.heap.size, 0, none⟩) 1 1] (w0.alloc (.cells #[Value.string (c.word)] 9)) (WrPost T base b (w0.alloc (.cells #[Value.string (c.word)] 9)) ((l) ++ spsB [bs c.word]))) := words_any HT.out w0.heap.size [c.word] (HB0.out.below ((Below.refl _ w0).alloc (Nat.le_refl _) _)) (heap_alloc_new w0 _) (by have := HB0.out.lt; omega) (Nat.le_of_ble_eq_true rfl) (show (l).length + (spsB [bs c.word]).length ≤ 140737488355328 by have h := HSZ.out; (try simp only [length_append] at h); (try simp only [length_append]); omega)
   go_wp2_with (go_at_call 134; refine C1.out.mono ?_)
   rintro e1 w1 ⟨rfl, ⟨v1, hB1⟩, hW1x⟩
   have hW1 : Wro base b w0 w1 := (Wro.of ((Below.refl _ w0).alloc (Nat.le_refl _) _) (by have := HB0.out.lt; have := HB0.out.lo; omega)).trans hW1x
   have HB1 : Hid (Bd T base b w1 v1 (l ++ spsB [bs c.word])) := by have h := hB1; show Bd _ _ _ _ _ _; (try simp only [List.append_assoc, List.map_take] at h); (try simp only [List.append_assoc, List.map_take]); exact h
   have HW1 : Hid (Wro base b W w1) := HW0.out.trans hW1
   have HX1 := Lib.hid (hW1.box HX0.out (by decide) (by omega))
   clear hB1 hW1x hW1 C1
   clear z0 z1 z2 z3 z4 z5 zl
   obtain ⟨z0, z1, z2, z3, z4, z5⟩ := row6_ HX1.out
   have zl : X < w1.heap.size := (Array.getElem?_eq_some_iff.1 HX1.out).1
   rw [HH.out] at z1
   rw [HM.out] at z2
   rw [HNU.out] at z3
   have C2 := Lib.hid (digits_any nu hnl w1 (HP.out.below HW1.out.bel).pow)
   go_wp2_with (go_at_call 137; refine C2.out.mono ?_)
   rintro e2 w2 ⟨rfl, hb2⟩
   have hW2 : Wro base b w1 w2 := .of hb2 (by have := HB1.out.lt; have := HB1.out.lo; omega)
   have HB2 := Lib.hid (HB1.out.below hb2)
   have HW2 : Hid (Wro base b W w2) := HW1.out.trans hW2
   have HX2 := Lib.hid (hW2.box HX1.out (by decide) (by omega))
   clear hb2 hW2 C2
   clear z0 z1 z2 z3 z4 z5 zl
   obtain ⟨z0, z1, z2, z3, z4, z5⟩ := row6_ HX2.out
   have zl : X < w2.heap.size := (Array.getElem?_eq_some_iff.1 HX2.out).1
   have hq : ¬ 9223372036854775807 < 1 + (ba (Lib.itoa (nu : Nat))).size := by
    have h := HSZ.out
    have h2 : (spsB [45 :: digW c.num]).length = 1 + (1 + (Lib.itoa c.num).length) := by simp [spsB, spB, digW]; omega
    have h3 : (Lib.itoa c.num).length = (Lib.itoa (nu : Nat)).length := by rw [HNU.out]
    rw [ba_size]
    simp only [length_append] at h h2
    omega
   have hcat : (⟨#[45]⟩ : ByteArray) ++ ba (Lib.itoa (nu : Nat)) = ba (45 :: digW c.num) := by unfold digW; rw [HNU.out]; exact cat_ba [45] _
   have C3 : Hid (Calls Tryz.prog 134 #[.pointer (some ⟨b, 0, none⟩), .slice (some ⟨w2.heap.size, 0, none⟩) 1 1] (w2.alloc (.cells #[Value.string (ba (45 :: digW c.num))] 9)) (WrPost T base b (w2.alloc (.cells #[Value.string (ba (45 :: digW c.num))] 9)) ((l ++ spsB [bs c.word]) ++ spsB [45 :: digW c.num]))) := words_any HT.out w2.heap.size [ba (45 :: digW c.num)] (HB2.out.below ((Below.refl _ w2).alloc (Nat.le_refl _) _)) (heap_alloc_new w2 _) (by have := HB2.out.lt; omega) (Nat.le_of_ble_eq_true rfl) (show (l ++ spsB [bs c.word]).length + (spsB [45 :: digW c.num]).length ≤ 140737488355328 by have h := HSZ.out; (try simp only [length_append] at h); (try simp only [length_append]); omega)
   go_wp2_with (go_at_call 134; refine C3.out.mono ?_)
   rintro e3 w3 ⟨rfl, ⟨v3, hB3⟩, hW3x⟩
   have hW3 : Wro base b w2 w3 := (Wro.of ((Below.refl _ w2).alloc (Nat.le_refl _) _) (by have := HB2.out.lt; have := HB2.out.lo; omega)).trans hW3x
   have HB3 : Hid (Bd T base b w3 v3 (l ++ spsB [bs c.word] ++ spsB [45 :: digW c.num])) := by have h := hB3; show Bd _ _ _ _ _ _; (try simp only [List.append_assoc, List.map_take] at h); (try simp only [List.append_assoc, List.map_take]); exact h
   have HW3 : Hid (Wro base b W w3) := HW2.out.trans hW3
   have HX3 := Lib.hid (hW3.box HX2.out (by decide) (by omega))
   clear hB3 hW3x hW3 C3
   obtain ⟨y0, y1, y2, y3, y4, y5⟩ := row6_ HX3.out
   have yl : X < w3.heap.size := (Array.getElem?_eq_some_iff.1 HX3.out).1
   clear z0 z1 z2 z3 z4 z5 zl
   have C9 := Lib.hid (caps_any HT.out HB3.out (FlP.kept HCA.out (Lo.kept HW3.out.bel)) hU (by have h := HSZ.out; (try simp only [length_append] at h); (try simp only [length_append]); omega))
   go_wp2_with (go_at_call 160; refine C9.out.mono ?_)
   rintro e9 w9 ⟨rfl, ⟨v9, hB9⟩, hW9x⟩
   have hW9 : Wro base b w3 w9 := hW9x
   have HB9 : Hid (Bd T base b w9 v9 (l ++ spsB [bs c.word] ++ spsB [45 :: digW c.num] ++ capsB c.caps)) := by have h := hB9; show Bd _ _ _ _ _ _; (try simp only [List.append_assoc, List.map_take] at h); (try simp only [List.append_assoc, List.map_take]); exact h
   have HW9 : Hid (Wro base b W w9) := HW3.out.trans hW9
   have HX9 := Lib.hid (hW9.box HX3.out (by decide) (by omega))
   clear hB9 hW9x hW9 C9
   go_wp2_with fail
   go_end0
   rw [← HPP.out]
   exact ⟨rfl, ⟨_, by rw [HEV.out]; simp only [← List.append_assoc]; exact HB9.out⟩, HW9.out⟩
  ·rw [hh, hm, if_pos rfl, if_neg (by decide)] at hsz
   have HSZ : Hid (l.length + (spsB [bs c.word] ++ (spsB [digW c.num] ++ capsB c.caps)).length ≤ 140737488355328) := hsz
   have HEV : Hid (coreW c = spsB [bs c.word] ++ (spsB [digW c.num] ++ capsB c.caps)) := by show _ = _; unfold coreW; rw [hh, hm, if_pos rfl, if_neg (by decide)]; try rfl
   rw [hh] at z1
   rw [hm] at z2
   have HH := Lib.hid hh
   have HM := Lib.hid hm
   clear hsz hh hm
   go_enter Tryz.func135, Tryz.ntmps135
   go_upto_region 1 with fail
   rw [HX.out, Hw0.out]
   have C1 : Hid (Calls Tryz.prog 134 #[.pointer (some ⟨b, 0, none⟩), .slice (some ⟨w0.heap.size, 0, none⟩) 1 1] (w0.alloc (.cells #[Value.string (c.word)] 9)) (WrPost T base b (w0.alloc (.cells #[Value.string (c.word)] 9)) ((l) ++ spsB [bs c.word]))) := words_any HT.out w0.heap.size [c.word] (HB0.out.below ((Below.refl _ w0).alloc (Nat.le_refl _) _)) (heap_alloc_new w0 _) (by have := HB0.out.lt; omega) (Nat.le_of_ble_eq_true rfl) (show (l).length + (spsB [bs c.word]).length ≤ 140737488355328 by have h := HSZ.out; (try simp only [length_append] at h); (try simp only [length_append]); omega)
   go_wp2_with (go_at_call 134; refine C1.out.mono ?_)
   rintro e1 w1 ⟨rfl, ⟨v1, hB1⟩, hW1x⟩
   have hW1 : Wro base b w0 w1 := (Wro.of ((Below.refl _ w0).alloc (Nat.le_refl _) _) (by have := HB0.out.lt; have := HB0.out.lo; omega)).trans hW1x
   have HB1 : Hid (Bd T base b w1 v1 (l ++ spsB [bs c.word])) := by have h := hB1; show Bd _ _ _ _ _ _; (try simp only [List.append_assoc, List.map_take] at h); (try simp only [List.append_assoc, List.map_take]); exact h
   have HW1 : Hid (Wro base b W w1) := HW0.out.trans hW1
   have HX1 := Lib.hid (hW1.box HX0.out (by decide) (by omega))
   clear hB1 hW1x hW1 C1
   clear z0 z1 z2 z3 z4 z5 zl
   obtain ⟨z0, z1, z2, z3, z4, z5⟩ := row6_ HX1.out
   have zl : X < w1.heap.size := (Array.getElem?_eq_some_iff.1 HX1.out).1
   rw [HH.out] at z1
   rw [HM.out] at z2
   rw [HNU.out] at z3
   have C2 := Lib.hid (digits_any nu hnl w1 (HP.out.below HW1.out.bel).pow)
   go_wp2_with (go_at_call 137; refine C2.out.mono ?_)
   rintro e2 w2 ⟨rfl, hb2⟩
   have hW2 : Wro base b w1 w2 := .of hb2 (by have := HB1.out.lt; have := HB1.out.lo; omega)
   have HB2 := Lib.hid (HB1.out.below hb2)
   have HW2 : Hid (Wro base b W w2) := HW1.out.trans hW2
   have HX2 := Lib.hid (hW2.box HX1.out (by decide) (by omega))
   clear hb2 hW2 C2
   clear z0 z1 z2 z3 z4 z5 zl
   obtain ⟨z0, z1, z2, z3, z4, z5⟩ := row6_ HX2.out
   have zl : X < w2.heap.size := (Array.getElem?_eq_some_iff.1 HX2.out).1
   have hq : ¬ 9223372036854775807 < 0 + (ba (Lib.itoa (nu : Nat))).size := by
    have h := HSZ.out
    have h2 : (spsB [digW c.num]).length = 1 + (0 + (Lib.itoa c.num).length) := by simp [spsB, spB, digW]; omega
    have h3 : (Lib.itoa c.num).length = (Lib.itoa (nu : Nat)).length := by rw [HNU.out]
    rw [ba_size]
    simp only [length_append] at h h2
    omega
   have hcat : (⟨#[]⟩ : ByteArray) ++ ba (Lib.itoa (nu : Nat)) = ba (digW c.num) := by unfold digW; rw [HNU.out]; exact cat_ba [] _
   have C3 : Hid (Calls Tryz.prog 134 #[.pointer (some ⟨b, 0, none⟩), .slice (some ⟨w2.heap.size, 0, none⟩) 1 1] (w2.alloc (.cells #[Value.string (ba (digW c.num))] 9)) (WrPost T base b (w2.alloc (.cells #[Value.string (ba (digW c.num))] 9)) ((l ++ spsB [bs c.word]) ++ spsB [digW c.num]))) := words_any HT.out w2.heap.size [ba (digW c.num)] (HB2.out.below ((Below.refl _ w2).alloc (Nat.le_refl _) _)) (heap_alloc_new w2 _) (by have := HB2.out.lt; omega) (Nat.le_of_ble_eq_true rfl) (show (l ++ spsB [bs c.word]).length + (spsB [digW c.num]).length ≤ 140737488355328 by have h := HSZ.out; (try simp only [length_append] at h); (try simp only [length_append]); omega)
   go_wp2_with (go_at_call 134; refine C3.out.mono ?_)
   rintro e3 w3 ⟨rfl, ⟨v3, hB3⟩, hW3x⟩
   have hW3 : Wro base b w2 w3 := (Wro.of ((Below.refl _ w2).alloc (Nat.le_refl _) _) (by have := HB2.out.lt; have := HB2.out.lo; omega)).trans hW3x
   have HB3 : Hid (Bd T base b w3 v3 (l ++ spsB [bs c.word] ++ spsB [digW c.num])) := by have h := hB3; show Bd _ _ _ _ _ _; (try simp only [List.append_assoc, List.map_take] at h); (try simp only [List.append_assoc, List.map_take]); exact h
   have HW3 : Hid (Wro base b W w3) := HW2.out.trans hW3
   have HX3 := Lib.hid (hW3.box HX2.out (by decide) (by omega))
   clear hB3 hW3x hW3 C3
   obtain ⟨y0, y1, y2, y3, y4, y5⟩ := row6_ HX3.out
   have yl : X < w3.heap.size := (Array.getElem?_eq_some_iff.1 HX3.out).1
   clear z0 z1 z2 z3 z4 z5 zl
   have C9 := Lib.hid (caps_any HT.out HB3.out (FlP.kept HCA.out (Lo.kept HW3.out.bel)) hU (by have h := HSZ.out; (try simp only [length_append] at h); (try simp only [length_append]); omega))
   go_wp2_with (go_at_call 160; refine C9.out.mono ?_)
   rintro e9 w9 ⟨rfl, ⟨v9, hB9⟩, hW9x⟩
   have hW9 : Wro base b w3 w9 := hW9x
   have HB9 : Hid (Bd T base b w9 v9 (l ++ spsB [bs c.word] ++ spsB [digW c.num] ++ capsB c.caps)) := by have h := hB9; show Bd _ _ _ _ _ _; (try simp only [List.append_assoc, List.map_take] at h); (try simp only [List.append_assoc, List.map_take]); exact h
   have HW9 : Hid (Wro base b W w9) := HW3.out.trans hW9
   have HX9 := Lib.hid (hW9.box HX3.out (by decide) (by omega))
   clear hB9 hW9x hW9 C9
   go_wp2_with fail
   go_end0
   rw [← HPP.out]
   exact ⟨rfl, ⟨_, by rw [HEV.out]; simp only [← List.append_assoc]; exact HB9.out⟩, HW9.out⟩
 ·rw [hh, if_neg (by decide)] at hsz
  have HSZ := Lib.hid hsz
  have HEV : Hid (coreW c = spsB [bs c.word] ++ ([] ++ capsB c.caps)) := by show _ = _; unfold coreW; rw [hh, if_neg (by decide)]
  rw [hh] at z1
  have HH := Lib.hid hh
  clear hsz hh
  go_enter Tryz.func135, Tryz.ntmps135
  go_upto_region 1 with fail
  rw [HX.out, Hw0.out]
  have C1 : Hid (Calls Tryz.prog 134 #[.pointer (some ⟨b, 0, none⟩), .slice (some ⟨w0.heap.size, 0, none⟩) 1 1] (w0.alloc (.cells #[Value.string (c.word)] 9)) (WrPost T base b (w0.alloc (.cells #[Value.string (c.word)] 9)) ((l) ++ spsB [bs c.word]))) := words_any HT.out w0.heap.size [c.word] (HB0.out.below ((Below.refl _ w0).alloc (Nat.le_refl _) _)) (heap_alloc_new w0 _) (by have := HB0.out.lt; omega) (Nat.le_of_ble_eq_true rfl) (show (l).length + (spsB [bs c.word]).length ≤ 140737488355328 by have h := HSZ.out; (try simp only [length_append] at h); (try simp only [length_append]); omega)
  go_wp2_with (go_at_call 134; refine C1.out.mono ?_)
  rintro e1 w1 ⟨rfl, ⟨v1, hB1⟩, hW1x⟩
  have hW1 : Wro base b w0 w1 := (Wro.of ((Below.refl _ w0).alloc (Nat.le_refl _) _) (by have := HB0.out.lt; have := HB0.out.lo; omega)).trans hW1x
  have HB1 : Hid (Bd T base b w1 v1 (l ++ spsB [bs c.word])) := by have h := hB1; show Bd _ _ _ _ _ _; (try simp only [List.append_assoc, List.map_take] at h); (try simp only [List.append_assoc, List.map_take]); exact h
  have HW1 : Hid (Wro base b W w1) := HW0.out.trans hW1
  have HX1 := Lib.hid (hW1.box HX0.out (by decide) (by omega))
  clear hB1 hW1x hW1 C1
  clear z0 z1 z2 z3 z4 z5 zl
  obtain ⟨z0, z1, z2, z3, z4, z5⟩ := row6_ HX1.out
  have zl : X < w1.heap.size := (Array.getElem?_eq_some_iff.1 HX1.out).1
  rw [HH.out] at z1
  have C9 := Lib.hid (caps_any HT.out HB1.out (FlP.kept HCA.out (Lo.kept HW1.out.bel)) hU (by have h := HSZ.out; (try simp only [length_append] at h); (try simp only [length_append]); omega))
  go_wp2_with (go_at_call 160; refine C9.out.mono ?_)
  rintro e9 w9 ⟨rfl, ⟨v9, hB9⟩, hW9x⟩
  have hW9 : Wro base b w1 w9 := hW9x
  have HB9 : Hid (Bd T base b w9 v9 (l ++ spsB [bs c.word] ++ capsB c.caps)) := by have h := hB9; show Bd _ _ _ _ _ _; (try simp only [List.append_assoc, List.map_take] at h); (try simp only [List.append_assoc, List.map_take]); exact h
  have HW9 : Hid (Wro base b W w9) := HW1.out.trans hW9
  have HX9 := Lib.hid (hW9.box HX1.out (by decide) (by omega))
  clear hB9 hW9x hW9 C9
  go_wp2_with fail
  go_end0
  rw [← HPP.out]
  exact ⟨rfl, ⟨_, by rw [HEV.out, List.nil_append]; simp only [← List.append_assoc]; exact HB9.out⟩, HW9.out⟩
end
end Go.Proofs.YtbdllefnghddcaaGreatDoor
