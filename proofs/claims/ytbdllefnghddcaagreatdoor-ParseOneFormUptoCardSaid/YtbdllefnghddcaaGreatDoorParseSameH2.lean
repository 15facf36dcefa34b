/- PARSE: Same (the program's): handlers, trees. -/
import Derived.BigRegion
import Derived.Deep.DeepCutAuto
import Derived.Test.YtbdllefnghddcaaGreatDoorPSame
import Derived.Test.YtbdllefnghddcaaGreatDoorPMem
namespace Go.Proofs.YtbdllefnghddcaaGreatDoor
open Go Go.RowKit
attribute [local go_sem ↓] Go.wp_at_zero Go.wp_at_succ


set_option maxRecDepth 100000 in
set_option maxHeartbeats 8000000 in
set_option linter.unusedSimpArgs false in
theorem samehand_2 (x y : HandT) (W : World) (k k' : Nat) {cs cs' : List Value} (hRa : HandP All W k cs x) (hRb : HandP All W k' cs' y) (h0 : x.name = y.name) (h1 : x.of_.name = y.of_.name) (h2 : x.core.word = y.core.word) (hno : ¬ (x.core.has = y.core.has ∧ x.core.minus = y.core.minus ∧ x.core.num = y.core.num)) :
  Calls Tryz.prog 60 #[.agg cs.toArray, .agg cs'.toArray] W (PatPost W (.bool (sameH x y))) := by
 obtain ⟨PP, hPP⟩ : ∃ PP, PatPost W (.bool (sameH x y)) = PP := ⟨_, rfl⟩
 rw [hPP]
 have HPP := Lib.hid hPP
 have HK0 := Lib.hid h0
 have HK1 := Lib.hid h1
 have HK2 := Lib.hid h2
 clear h0 h1 h2
 have HNO := Lib.hid hno
 clear hno
 have hR0a := hRa
 obtain ⟨c0a, c1a, c2a, c3a, c4a, c5a, va, ua, rfl, hcorea, hwsa, hafa⟩ := hR0a
 have hcore2a := hcorea
 obtain ⟨cva, eca, hcapsa⟩ := hcorea
 simp only [List.cons.injEq, and_true] at eca
 obtain ⟨rfl, rfl, rfl, rfl, rfl, rfl⟩ := eca
 obtain ⟨cqa, cca, rfl, -⟩ := UsP.shape hcapsa
 obtain ⟨vqa, vka, rfl, hn8a⟩ := hwsa.shape
 obtain ⟨aqa, aca, rfl, -⟩ := UsP.shape hafa
 have hR0b := hRb
 obtain ⟨c0b, c1b, c2b, c3b, c4b, c5b, vb, ub, rfl, hcoreb, hwsb, hafb⟩ := hR0b
 have hcore2b := hcoreb
 obtain ⟨cvb, ecb, hcapsb⟩ := hcoreb
 simp only [List.cons.injEq, and_true] at ecb
 obtain ⟨rfl, rfl, rfl, rfl, rfl, rfl⟩ := ecb
 obtain ⟨cqb, ccb, rfl, -⟩ := UsP.shape hcapsb
 obtain ⟨vqb, vkb, rfl, hn8b⟩ := hwsb.shape
 obtain ⟨aqb, acb, rfl, -⟩ := UsP.shape hafb
 obtain ⟨X, hX⟩ : ∃ X, W.heap.size = X := ⟨_, rfl⟩
 obtain ⟨v1, hv1⟩ : ∃ v1, W.alloc (.cells #[.string x.name, .string x.of_.name, .int .i64 x.of_.pos, .string x.core.word, .bool x.core.has, .bool x.core.minus, .int .u64 x.core.num, .slice cqa x.core.caps.length cca, .int .i64 x.core.pos, .slice vqa x.wraps.length vka, .bool x.room, .int .u64 x.inbox, .string x.drop.name, .int .i64 x.drop.pos, .slice aqa x.after.length aca, .int .i64 x.pos] 81) = v1 := ⟨_, rfl⟩
 have hszX := hX
 have hsv1 : v1.heap.size = X + 1 := by rw [← hv1, ← hszX]; simp
 have hbv1 : Below W.heap.size W v1 := by rw [← hv1]; exact (Below.refl _ W).alloc (Nat.le_refl _) _
 have hxv1 := aRow_ hv1 hszX
 have HBv1 : Hid (Below W.heap.size W v1) := hbv1
 have HXe := Lib.hid hX
 have Hv1e := Lib.hid hv1
 have HSX := Lib.hid hsv1
 have HXv1 := Lib.hid hxv1
 clear hX hv1 hszX hsv1 hbv1 hxv1
 obtain ⟨Y, hY⟩ : ∃ Y, X + 1 = Y := ⟨_, rfl⟩
 obtain ⟨v2, hv2⟩ : ∃ v2, v1.alloc (.cells #[.string y.name, .string y.of_.name, .int .i64 y.of_.pos, .string y.core.word, .bool y.core.has, .bool y.core.minus, .int .u64 y.core.num, .slice cqb y.core.caps.length ccb, .int .i64 y.core.pos, .slice vqb y.wraps.length vkb, .bool y.room, .int .u64 y.inbox, .string y.drop.name, .int .i64 y.drop.pos, .slice aqb y.after.length acb, .int .i64 y.pos] 81) = v2 := ⟨_, rfl⟩
 have hszY : v1.heap.size = Y := by rw [← hY]; exact HSX.out
 have hsv2 : v2.heap.size = Y + 1 := by rw [← hv2, ← hszY]; simp
 have hbv2 : Below v1.heap.size v1 v2 := by rw [← hv2]; exact (Below.refl _ v1).alloc (Nat.le_refl _) _
 have hxv2 := aRow_ hv2 hszY
 have HB0 := Lib.hid (HBv1.out.trans (hbv2.mono HBv1.out.size))
 have HYe := Lib.hid hY
 have Hv2e := Lib.hid hv2
 have HSY := Lib.hid hsv2
 have HYv2 := Lib.hid hxv2
 have HX0 : Hid (v2.heap[X]? = v1.heap[X]?) := hbv2.block X (by have := HSX.out; omega)
 clear hY hv2 hszY hsv2 hbv2 hxv2
 have HX0 := Lib.hid (HX0.out.trans HXv1.out)
 have HY0 := HYv2
 have HCAa := Lib.hid hcapsa
 have HCAb := Lib.hid hcapsb
 have HWSa := Lib.hid hwsa
 have HWSb := Lib.hid hwsb
 have HAFa := Lib.hid hafa
 have HAFb := Lib.hid hafb
 clear hPP hRa hRb hcore2a hcore2b hcapsa hcapsb hwsa hwsb hafa hafb
 go_enter Tryz.func60, Tryz.ntmps60
 go_upto_region 1 with fail
 simp only [HXe.out, Hv1e.out, HSX.out, Hv2e.out, HYe.out]
 obtain ⟨cX0, cX1, cX2, cX3, cX4, cX5, cX6, cX7, cX8, cX9, cX10, cX11, cX12, cX13, cX14, cX15⟩ := row16_ HX0.out
 have ltX : X < v2.heap.size := (Array.getElem?_eq_some_iff.1 HX0.out).1
 obtain ⟨cY0, cY1, cY2, cY3, cY4, cY5, cY6, cY7, cY8, cY9, cY10, cY11, cY12, cY13, cY14, cY15⟩ := row16_ HY0.out
 have ltY : Y < v2.heap.size := (Array.getElem?_eq_some_iff.1 HY0.out).1
 go_cut [5, 6] (fun s5 s6 wx => ∃ P Q : Nat, s5 = .pointer (some ⟨P, 0, none⟩) ∧ s6 = .pointer (some ⟨Q, 0, none⟩) ∧ Hid (wx.heap[P]? = some (.cells #[.string x.core.word, .bool x.core.has, .bool x.core.minus, .int .u64 x.core.num, .slice cqa x.core.caps.length cca, .int .i64 x.core.pos] 78 (0, 0))) ∧ Hid (wx.heap[Q]? = some (.cells #[.string y.core.word, .bool y.core.has, .bool y.core.minus, .int .u64 y.core.num, .slice cqb y.core.caps.length ccb, .int .i64 y.core.pos] 78 (0, 0))) ∧ Hid (wx.heap[X]? = some (.cells #[.string x.name, .string x.of_.name, .int .i64 x.of_.pos, .string x.core.word, .bool x.core.has, .bool x.core.minus, .int .u64 x.core.num, .slice cqa x.core.caps.length cca, .int .i64 x.core.pos, .slice vqa x.wraps.length vka, .bool x.room, .int .u64 x.inbox, .string x.drop.name, .int .i64 x.drop.pos, .slice aqa x.after.length aca, .int .i64 x.pos] 81 (0, 0))) ∧ Hid (wx.heap[Y]? = some (.cells #[.string y.name, .string y.of_.name, .int .i64 y.of_.pos, .string y.core.word, .bool y.core.has, .bool y.core.minus, .int .u64 y.core.num, .slice cqb y.core.caps.length ccb, .int .i64 y.core.pos, .slice vqb y.wraps.length vkb, .bool y.room, .int .u64 y.inbox, .string y.drop.name, .int .i64 y.drop.pos, .slice aqb y.after.length acb, .int .i64 y.pos] 81 (0, 0))) ∧ Hid (Below W.heap.size W wx))
 case first =>
  go_region
  ·go_wp2_with fail
   go_meet
   obtain ⟨r1, r2, r3⟩ := two_al v2 (#[.string x.core.word, .bool x.core.has, .bool x.core.minus, .int .u64 x.core.num, .slice cqa x.core.caps.length cca, .int .i64 x.core.pos] : Array Value) #[.string y.core.word, .bool y.core.has, .bool y.core.minus, .int .u64 y.core.num, .slice cqb y.core.caps.length ccb, .int .i64 y.core.pos]
   exact ⟨_, _, rfl, rfl, r1, r2, r3.1 X ltX HX0.out, r3.1 Y ltY HY0.out, HB0.out.trans (r3.2.mono HB0.out.size)⟩
  ·go_wp2_with fail
   go_meet
   obtain ⟨r1, r2, r3⟩ := two_al v2 (#[.string y.core.word, .bool y.core.has, .bool y.core.minus, .int .u64 y.core.num, .slice cqb y.core.caps.length ccb, .int .i64 y.core.pos] : Array Value) #[.string x.core.word, .bool x.core.has, .bool x.core.minus, .int .u64 x.core.num, .slice cqa x.core.caps.length cca, .int .i64 x.core.pos]
   exact ⟨_, _, rfl, rfl, r2, r1, r3.1 X ltX HX0.out, r3.1 Y ltY HY0.out, HB0.out.trans (r3.2.mono HB0.out.size)⟩
 case rest =>
  obtain ⟨P, Q, hs5, hs6, HP0, HQ0, HXw, HYw, HBw⟩ := hcut
  subst hs5; subst hs6
  clear HX0 HY0 HB0
  have HX0 := HXw
  have HY0 := HYw
  have HB0 := HBw
  clear HXw HYw HBw cX0 cX1 cX2 cX3 cX4 cX5 cX6 cX7 cX8 cX9 cX10 cX11 cX12 cX13 cX14 cX15 cY0 cY1 cY2 cY3 cY4 cY5 cY6 cY7 cY8 cY9 cY10 cY11 cY12 cY13 cY14 cY15 ltX ltY
  obtain ⟨cX0, cX1, cX2, cX3, cX4, cX5, cX6, cX7, cX8, cX9, cX10, cX11, cX12, cX13, cX14, cX15⟩ := row16_ HX0.out
  have ltX : X < wc.heap.size := (Array.getElem?_eq_some_iff.1 HX0.out).1
  obtain ⟨cY0, cY1, cY2, cY3, cY4, cY5, cY6, cY7, cY8, cY9, cY10, cY11, cY12, cY13, cY14, cY15⟩ := row16_ HY0.out
  have ltY : Y < wc.heap.size := (Array.getElem?_eq_some_iff.1 HY0.out).1
  obtain ⟨cP0, cP1, cP2, cP3, cP4, cP5⟩ := row6_ HP0.out
  have ltP : P < wc.heap.size := (Array.getElem?_eq_some_iff.1 HP0.out).1
  obtain ⟨cQ0, cQ1, cQ2, cQ3, cQ4, cQ5⟩ := row6_ HQ0.out
  have ltQ : Q < wc.heap.size := (Array.getElem?_eq_some_iff.1 HQ0.out).1
  have h0 := HK0.out
  have HJ0 := Lib.hid (decide_eq_true h0)
  rw [h0] at cX0
  clear h0
  have h1 := HK1.out
  have HJ1 := Lib.hid (decide_eq_true h1)
  rw [h1] at cX1
  clear h1
  have h2 := HK2.out
  have HJ2 := Lib.hid (decide_eq_true h2)
  rw [h2] at cP0
  clear h2
  by_cases hq3 : x.core.has = y.core.has
  ·have HJ3 := Lib.hid (decide_eq_true hq3)
   rw [hq3] at cP1
   clear hq3
   by_cases hq4 : x.core.minus = y.core.minus
   ·have HJ4 := Lib.hid (decide_eq_true hq4)
    rw [hq4] at cP2
    clear hq4
    by_cases hq5 : x.core.num = y.core.num
    ·have HJ5 := Lib.hid (decide_eq_true hq5)
     rw [hq5] at cP3
     clear hq5
     exact absurd ⟨of_decide_eq_true HJ3.out, of_decide_eq_true HJ4.out, of_decide_eq_true HJ5.out⟩ HNO.out
    ·obtain ⟨n15, n25⟩ := neI hq5
     have HJ5 := Lib.hid (decide_eq_false hq5)
     clear hq5
     have HR : Hid (sameH x y = false) := by show _ = _; unfold sameH sameC; simp [HJ0.out, HJ1.out, HJ2.out, HJ3.out, HJ4.out, HJ5.out]
     go_wp2_with fail
     rw [← HPP.out]
     exact ⟨by rw [HR.out] <;> rfl, HB0.out⟩
   ·have HJ4 := Lib.hid (decide_eq_false hq4)
    obtain ⟨n14, n24⟩ := neO hq4
    clear hq4
    have HR : Hid (sameH x y = false) := by show _ = _; unfold sameH sameC; simp [HJ0.out, HJ1.out, HJ2.out, HJ3.out, HJ4.out]
    go_wp2_with fail
    rw [← HPP.out]
    exact ⟨by rw [HR.out] <;> rfl, HB0.out⟩
  ·have HJ3 := Lib.hid (decide_eq_false hq3)
   obtain ⟨n13, n23⟩ := neO hq3
   clear hq3
   have HR : Hid (sameH x y = false) := by show _ = _; unfold sameH sameC; simp [HJ0.out, HJ1.out, HJ2.out, HJ3.out]
   go_wp2_with fail
   rw [← HPP.out]
   exact ⟨by rw [HR.out] <;> rfl, HB0.out⟩
end Go.Proofs.YtbdllefnghddcaaGreatDoor
