/- WIRE: a stream read by the program and by the reference. -/
import Derived.Test.YtmncpbfghabamaaDoorWireMRow
import Derived.Test.YtmncpbfghabamaaDoorWireLawK
namespace Go.Proofs.YtmncpbfghabamaaDoor
open Go Go.RowKit
attribute [local go_sem ↓] Go.wp_at_zero Go.wp_at_succ

theorem ownsRow_same {W : World} {base size n : Nat} {e : TypeId} {v : Value} {xs ys : List Value} (h : W.ownsRow base e size v n xs) (k : W.ownsRow base e size v n ys) : xs = ys := by
  rcases h.2 with ⟨h1, h2⟩ | ⟨g, cap, cur, h1, _, h3, _, _, _, h7⟩
  · have a := h.1
    have b := k.1
    rw [h2, Nat.zero_mul] at a b
    rw [List.eq_nil_of_length_eq_zero a, List.eq_nil_of_length_eq_zero b]
  · rcases k.2 with ⟨k1, _⟩ | ⟨g', cap', cur', k1, _, k3, _, _, _, k7⟩
    · rw [h1] at k1; cases k1
    · rw [h1] at k1
      injection k1 with k1 _ k2
      injection k1 with k1
      injection k1 with k1
      subst k1
      rw [h3] at k3
      injection k3 with k3
      injection k3 with k3
      rw [← h7, ← k7, k3]
set_option linter.unusedSimpArgs false in
set_option maxRecDepth 100000 in
set_option maxHeartbeats 4000000 in
theorem all_any (l : List UInt8) (pb : Option Addr) (nb cb : Nat) (w : World) (hv : Bs w (.slice pb nb cb) l) (hl : l.length ≤ 10000000) (hT : Tabs w) :
    Calls Tryd.prog 28 #[.slice pb nb cb] w (AllOut l w) := by
  obtain rfl : nb = l.length := hv.len.1
  obtain ⟨PP, hPP⟩ : ∃ PP, AllOut l w = PP := ⟨_, rfl⟩
  rw [hPP]
  have HPP := Lib.hid hPP
  have HV := Lib.hid hv
  have HTB := Lib.hid hT
  have CD : Hid (∀ (W : World) (v : Value) (m : List UInt8), Below w.heap.size w W → Bs W v m → m.length ≤ l.length → Calls Tryd.prog 22 #[v] W (DecOut m W)) := fun W v m hb hB hm => decode_any m v W hB (by omega) (hT.below hb)
  clear hPP hv hT
  go_enter Tryd.func28, Tryd.ntmps28
  go_wp2_with fail
  go_loopw [5, 6] (fun s5 s6 wr => ∃ (acc : List Mg) (p : Nat), s6 = .int .i64 (p : Nat) ∧ Hid (AllAt l acc p) ∧ Hid (MRow wr w.heap.size s5 acc) ∧ Hid (Below w.heap.size w wr)) (fun _ s6 _ => l.length - (intOf s6).toNat)
  case atStart => exact ⟨[], 0, rfl, AllAt.start l, MRow.nil _ _, Below.refl _ _⟩
  case round =>
    obtain ⟨acc, p, rfl, HA, HM, HB⟩ := hrel
    obtain ⟨qv, cv, rfl⟩ := HM.out.form
    have hple := HA.out.2.1
    have hpa := HA.out.1
    by_cases hlt : p < l.length
    · have hltI : (p : Int) < (l.length : Int) := by omega
      obtain ⟨q0, cq, hsl, hbs, -⟩ := Bs.cut (HV.out.below HB.out) (k := p) (by omega)
      have CDX : Hid (Calls Tryd.prog 22 #[.slice q0 (l.drop p).length cq] wr (DecOut (l.drop p) wr)) := CD.out wr _ _ HB.out hbs (by rw [List.length_drop]; omega)
      have hp0 : (0 : Int) ≤ (p : Int) := by omega
      clear hbs
      obtain ⟨ND, hND⟩ : ∃ ND, (l.drop p).length = ND := ⟨_, rfl⟩
      rw [hND] at hsl CDX
      clear hND
      go_wp2_with fail
      refine CDX.out.mono ?_
      rintro e W7 ⟨a0, a1, a2, a3, a4, a5, ta, ra, kd1, di1, db1, ds1, p1, n1, c1, k1, e1, rfl, hb7, hd1⟩
      have HB7 : Hid (Below wr.heap.size wr W7) := hb7
      have HBW : Hid (Below w.heap.size w W7) := HB.out.trans (hb7.mono HB.out.size)
      clear hb7
      cases hdd : decD (l.drop p) with
      | err e' =>
        rw [hdd] at hd1
        obtain ⟨rfl, rfl, -⟩ := hd1
        have HE := Lib.hid (HA.out.err hlt hdd)
        have hne : (e1 != 0) = true := by rcases decD_errs hdd with rfl | rfl | rfl <;> rfl
        have hne2 : (e1 == 0) = false := by rcases decD_errs hdd with rfl | rfl | rfl <;> rfl
        have HMX : Hid (MRow (W7.alloc (.cells #[.int .i64 a0, .string ta, .int .i64 kd1, .int .i64 di1, .int .u64 db1, .string ds1, .slice p1 n1 c1, .int .i64 a1, .int .i64 a2, .string ra, .int .i64 a3, .int .i64 a4, .int .i64 a5] 39)) w.heap.size (.slice qv acc.length cv) acc) := (HM.out.below HB7.out).below ((Below.refl _ _).alloc (Nat.le_refl _) _)
        have HBX : Hid (Below w.heap.size w (W7.alloc (.cells #[.int .i64 a0, .string ta, .int .i64 kd1, .int .i64 di1, .int .u64 db1, .string ds1, .slice p1 n1 c1, .int .i64 a1, .int .i64 a2, .string ra, .int .i64 a3, .int .i64 a4, .int .i64 a5] 39))) := HBW.out.alloc HBW.out.size _
        clear hdd
        go_wp2_with fail
        refine bodyPost_ret (v := .tuple #[.slice qv acc.length cv, .int .i64 (p : Nat), .int .i64 e1]) (by simp [results, Tryd.results28]) rfl ?_
        rw [← HPP.out]
        exact ⟨_, p, e1, rfl, HBX.out, by rw [HE.out], by rw [HE.out]; exact HMX.out⟩
      | ok x m =>
        rw [hdd] at hd1
        obtain ⟨rfl, rfl, hd1⟩ := hd1
        obtain ⟨HS, hm0⟩ := HA.out.step hlt hdd
        have HS := Lib.hid HS
        have hs2 := HS.out.2.1
        clear hdd
        obtain ⟨X7, hX7⟩ : ∃ X7, W7.alloc (.cells #[.int .i64 a0, .string ta, .int .i64 kd1, .int .i64 di1, .int .u64 db1, .string ds1, .slice p1 n1 c1, .int .i64 a1, .int .i64 a2, .string ra, .int .i64 a3, .int .i64 a4, .int .i64 a5] 39) = X7 := ⟨_, rfl⟩
        have BX : Hid (Below W7.heap.size W7 X7) := by show Below _ _ _; rw [← hX7]; exact (Below.refl _ _).alloc (Nat.le_refl _) _
        have XC : Hid (X7.heap[W7.heap.size]? = some (.cells #[.int .i64 a0, .string ta, .int .i64 kd1, .int .i64 di1, .int .u64 db1, .string ds1, .slice p1 n1 c1, .int .i64 a1, .int .i64 a2, .string ra, .int .i64 a3, .int .i64 a4, .int .i64 a5] 39 (0, 0))) := by show _ = _; rw [← hX7]; exact heap_alloc_new W7 _
        have HMX : Hid (MRow X7 w.heap.size (.slice qv acc.length cv) acc) := (HM.out.below HB7.out).below BX.out
        have HBX : Hid (Below w.heap.size w X7) := HBW.out.trans (BX.out.mono HBW.out.size)
        have HG : Hid (MgIn (RowP w.heap.size X7 (.slice qv acc.length cv)) X7 [.int .i64 a0, .string ta, .int .i64 kd1, .int .i64 di1, .int .u64 db1, .string ds1, .slice p1 n1 c1, .int .i64 a1, .int .i64 a2, .string ra, .int .i64 a3, .int .i64 a4, .int .i64 a5] x) := ⟨a0, a1, a2, a3, a4, a5, ta, ra, kd1, di1, db1, ds1, p1, n1, c1, rfl, hd1.1, hd1.2.1, hd1.2.2.1, hd1.2.2.2.kept fun b hb hlb => ⟨BX.out.block b hlb, Nat.le_trans HB.out.size hb, Nat.lt_of_lt_of_le hlb BX.out.size, fun e => by have := (HM.out.lt b e.symm).2; omega⟩⟩
        have HX7 := Lib.hid hX7
        clear hX7 hd1
        go_upto_region 7 with fail
        rw [HX7.out]
        obtain ⟨x0, x1, x2, x3, x4, x5, x6, x7, x8, x9, x10, x11, x12, hlx⟩ := cells13 XC.out
        obtain ⟨i0, hi, hz0, hz1, hz2⟩ := info_parts info_msg
        obtain ⟨csr, hown, -⟩ := id HMX.out
        have HOWN := Lib.hid hown
        clear hown
        go_wp2_with (at_builtin; refine wpList_append_own_at _ rfl _ _ 57 rfl w.heap.size 39 i0 mzero 13 144 Tryd.underlying57 hi hz0 hz1 hz2 rfl (by decide) (.slice qv acc.length cv) acc.length csr rfl (World.ownsRow.alloc HOWN.out _) ⟨X7.heap.size, 0, none⟩ 1 1 [.int .i64 a0, .string ta, .int .i64 kd1, .int .i64 di1, .int .u64 db1, .string ds1, .slice p1 n1 c1, .int .i64 a1, .int .i64 a2, .string ra, .int .i64 a3, .int .i64 a4, .int .i64 a5] rfl rfl (World.news_of_block (heap_alloc_new X7 (.cells #[.int .i64 a0, .string ta, .int .i64 kd1, .int .i64 di1, .int .u64 db1, .string ds1, .slice p1 n1 c1, .int .i64 a1, .int .i64 a2, .string ra, .int .i64 a3, .int .i64 a4, .int .i64 a5] 39))) (fun y hy => by simp at hy; rcases hy with rfl | rfl | rfl | rfl | rfl | rfl | rfl | rfl | rfl | rfl | rfl | rfl | rfl <;> rfl) (by unfold maxLen; omega) (by omega) (by have := HBX.out.size; simp; omega) ?_; intro v9 w9 hown9 hgrow9 _ hat9; obtain ⟨q9, n9, c9, rfl⟩ : ∃ q n c, v9 = .slice q n c := (by rcases hown9.2 with ⟨h, -⟩ | ⟨g, cap, cur, h, -⟩ <;> exact ⟨_, _, _, h⟩); have HM9 : Hid (MRow w9 w.heap.size (.slice q9 n9 c9) (acc ++ [x])) := MRow.snoc HMX.out HG.out (W1 := X7.alloc (.cells #[.int .i64 a0, .string ta, .int .i64 kd1, .int .i64 di1, .int .u64 db1, .string ds1, .slice p1 n1 c1, .int .i64 a1, .int .i64 a2, .string ra, .int .i64 a3, .int .i64 a4, .int .i64 a5] 39)) (by simp) (fun b hb => Below.heap_alloc _ _ _ hb) (fun cs hcs => by rw [ownsRow_same hcs HOWN.out]; exact hown9) hgrow9 hat9; have HB9 : Hid (Below w.heap.size w w9) := (HBX.out.alloc HBX.out.size _).trans ⟨hgrow9.os, hgrow9.tape, hgrow9.output, hgrow9.size, fun i hi => hgrow9.block i (Nat.lt_of_lt_of_le hi (HBX.out.alloc HBX.out.size _).size) (fun e => by have := (HMX.out.lt i e.symm).1; omega)⟩; clear hown9 hgrow9 hat9)
        clear x0 x1 x2 x3 x4 x5 x6 x7 x8 x9 x10 x11 x12 hlx
        go_wp2_with fail
        go_roundw
        case rel => exact ⟨acc ++ [x], p + m, by go_num, HS.out, HM9.out, HB9.out⟩
        case measure => simp [intOf]; omega
    · have hnI : ¬ (p : Int) < (l.length : Int) := by omega
      have HE := Lib.hid (HA.out.done hlt)
      go_wp2_with fail
      refine bodyPost_ret (v := .tuple #[.slice qv acc.length cv, .int .i64 (p : Nat), .int .i64 0]) (by simp [results, Tryd.results28]) rfl ?_
      rw [← HPP.out]
      exact ⟨_, p, 0, rfl, HB.out, by rw [HE.out], by rw [HE.out]; exact HM.out⟩
set_option linter.unusedSimpArgs false in
set_option maxRecDepth 100000 in
set_option maxHeartbeats 4000000 in
theorem refAll_any (l : List UInt8) (pb : Option Addr) (nb cb : Nat) (w : World) (hv : Bs w (.slice pb nb cb) l) (hl : l.length ≤ 10000000) (hT : Tabs w) :
    Calls Tryd.prog 29 #[.slice pb nb cb] w (AllOut l w) := by
  obtain rfl : nb = l.length := hv.len.1
  obtain ⟨PP, hPP⟩ : ∃ PP, AllOut l w = PP := ⟨_, rfl⟩
  rw [hPP]
  have HPP := Lib.hid hPP
  have HV := Lib.hid hv
  have HTB := Lib.hid hT
  have CD : Hid (∀ (W : World) (v : Value) (m : List UInt8), Below w.heap.size w W → Bs W v m → m.length ≤ l.length → Calls Tryd.prog 23 #[v] W (DecOut m W)) := fun W v m hb hB hm => refDecode_any m v W hB (by omega) (hT.below hb)
  clear hPP hv hT
  go_enter Tryd.func29, Tryd.ntmps29
  go_wp2_with fail
  go_loopw [5, 6] (fun s5 s6 wr => ∃ (acc : List Mg) (p : Nat), s6 = .int .i64 (p : Nat) ∧ Hid (AllAt l acc p) ∧ Hid (MRow wr w.heap.size s5 acc) ∧ Hid (Below w.heap.size w wr)) (fun _ s6 _ => l.length - (intOf s6).toNat)
  case atStart => exact ⟨[], 0, rfl, AllAt.start l, MRow.nil _ _, Below.refl _ _⟩
  case round =>
    obtain ⟨acc, p, rfl, HA, HM, HB⟩ := hrel
    obtain ⟨qv, cv, rfl⟩ := HM.out.form
    have hple := HA.out.2.1
    have hpa := HA.out.1
    by_cases hlt : p < l.length
    · have hltI : (p : Int) < (l.length : Int) := by omega
      obtain ⟨q0, cq, hsl, hbs, -⟩ := Bs.cut (HV.out.below HB.out) (k := p) (by omega)
      have CDX : Hid (Calls Tryd.prog 23 #[.slice q0 (l.drop p).length cq] wr (DecOut (l.drop p) wr)) := CD.out wr _ _ HB.out hbs (by rw [List.length_drop]; omega)
      have hp0 : (0 : Int) ≤ (p : Int) := by omega
      clear hbs
      obtain ⟨ND, hND⟩ : ∃ ND, (l.drop p).length = ND := ⟨_, rfl⟩
      rw [hND] at hsl CDX
      clear hND
      go_wp2_with fail
      refine CDX.out.mono ?_
      rintro e W7 ⟨a0, a1, a2, a3, a4, a5, ta, ra, kd1, di1, db1, ds1, p1, n1, c1, k1, e1, rfl, hb7, hd1⟩
      have HB7 : Hid (Below wr.heap.size wr W7) := hb7
      have HBW : Hid (Below w.heap.size w W7) := HB.out.trans (hb7.mono HB.out.size)
      clear hb7
      cases hdd : decD (l.drop p) with
      | err e' =>
        rw [hdd] at hd1
        obtain ⟨rfl, rfl, -⟩ := hd1
        have HE := Lib.hid (HA.out.err hlt hdd)
        have hne : (e1 != 0) = true := by rcases decD_errs hdd with rfl | rfl | rfl <;> rfl
        have hne2 : (e1 == 0) = false := by rcases decD_errs hdd with rfl | rfl | rfl <;> rfl
        have HMX : Hid (MRow (W7.alloc (.cells #[.int .i64 a0, .string ta, .int .i64 kd1, .int .i64 di1, .int .u64 db1, .string ds1, .slice p1 n1 c1, .int .i64 a1, .int .i64 a2, .string ra, .int .i64 a3, .int .i64 a4, .int .i64 a5] 39)) w.heap.size (.slice qv acc.length cv) acc) := (HM.out.below HB7.out).below ((Below.refl _ _).alloc (Nat.le_refl _) _)
        have HBX : Hid (Below w.heap.size w (W7.alloc (.cells #[.int .i64 a0, .string ta, .int .i64 kd1, .int .i64 di1, .int .u64 db1, .string ds1, .slice p1 n1 c1, .int .i64 a1, .int .i64 a2, .string ra, .int .i64 a3, .int .i64 a4, .int .i64 a5] 39))) := HBW.out.alloc HBW.out.size _
        clear hdd
        go_wp2_with fail
        refine bodyPost_ret (v := .tuple #[.slice qv acc.length cv, .int .i64 (p : Nat), .int .i64 e1]) (by simp [results, Tryd.results29]) rfl ?_
        rw [← HPP.out]
        exact ⟨_, p, e1, rfl, HBX.out, by rw [HE.out], by rw [HE.out]; exact HMX.out⟩
      | ok x m =>
        rw [hdd] at hd1
        obtain ⟨rfl, rfl, hd1⟩ := hd1
        obtain ⟨HS, hm0⟩ := HA.out.step hlt hdd
        have HS := Lib.hid HS
        have hs2 := HS.out.2.1
        clear hdd
        obtain ⟨X7, hX7⟩ : ∃ X7, W7.alloc (.cells #[.int .i64 a0, .string ta, .int .i64 kd1, .int .i64 di1, .int .u64 db1, .string ds1, .slice p1 n1 c1, .int .i64 a1, .int .i64 a2, .string ra, .int .i64 a3, .int .i64 a4, .int .i64 a5] 39) = X7 := ⟨_, rfl⟩
        have BX : Hid (Below W7.heap.size W7 X7) := by show Below _ _ _; rw [← hX7]; exact (Below.refl _ _).alloc (Nat.le_refl _) _
        have XC : Hid (X7.heap[W7.heap.size]? = some (.cells #[.int .i64 a0, .string ta, .int .i64 kd1, .int .i64 di1, .int .u64 db1, .string ds1, .slice p1 n1 c1, .int .i64 a1, .int .i64 a2, .string ra, .int .i64 a3, .int .i64 a4, .int .i64 a5] 39 (0, 0))) := by show _ = _; rw [← hX7]; exact heap_alloc_new W7 _
        have HMX : Hid (MRow X7 w.heap.size (.slice qv acc.length cv) acc) := (HM.out.below HB7.out).below BX.out
        have HBX : Hid (Below w.heap.size w X7) := HBW.out.trans (BX.out.mono HBW.out.size)
        have HG : Hid (MgIn (RowP w.heap.size X7 (.slice qv acc.length cv)) X7 [.int .i64 a0, .string ta, .int .i64 kd1, .int .i64 di1, .int .u64 db1, .string ds1, .slice p1 n1 c1, .int .i64 a1, .int .i64 a2, .string ra, .int .i64 a3, .int .i64 a4, .int .i64 a5] x) := ⟨a0, a1, a2, a3, a4, a5, ta, ra, kd1, di1, db1, ds1, p1, n1, c1, rfl, hd1.1, hd1.2.1, hd1.2.2.1, hd1.2.2.2.kept fun b hb hlb => ⟨BX.out.block b hlb, Nat.le_trans HB.out.size hb, Nat.lt_of_lt_of_le hlb BX.out.size, fun e => by have := (HM.out.lt b e.symm).2; omega⟩⟩
        have HX7 := Lib.hid hX7
        clear hX7 hd1
        go_upto_region 7 with fail
        rw [HX7.out]
        obtain ⟨x0, x1, x2, x3, x4, x5, x6, x7, x8, x9, x10, x11, x12, hlx⟩ := cells13 XC.out
        obtain ⟨i0, hi, hz0, hz1, hz2⟩ := info_parts info_msg
        obtain ⟨csr, hown, -⟩ := id HMX.out
        have HOWN := Lib.hid hown
        clear hown
        go_wp2_with (at_builtin; refine wpList_append_own_at _ rfl _ _ 57 rfl w.heap.size 39 i0 mzero 13 144 Tryd.underlying57 hi hz0 hz1 hz2 rfl (by decide) (.slice qv acc.length cv) acc.length csr rfl (World.ownsRow.alloc HOWN.out _) ⟨X7.heap.size, 0, none⟩ 1 1 [.int .i64 a0, .string ta, .int .i64 kd1, .int .i64 di1, .int .u64 db1, .string ds1, .slice p1 n1 c1, .int .i64 a1, .int .i64 a2, .string ra, .int .i64 a3, .int .i64 a4, .int .i64 a5] rfl rfl (World.news_of_block (heap_alloc_new X7 (.cells #[.int .i64 a0, .string ta, .int .i64 kd1, .int .i64 di1, .int .u64 db1, .string ds1, .slice p1 n1 c1, .int .i64 a1, .int .i64 a2, .string ra, .int .i64 a3, .int .i64 a4, .int .i64 a5] 39))) (fun y hy => by simp at hy; rcases hy with rfl | rfl | rfl | rfl | rfl | rfl | rfl | rfl | rfl | rfl | rfl | rfl | rfl <;> rfl) (by unfold maxLen; omega) (by omega) (by have := HBX.out.size; simp; omega) ?_; intro v9 w9 hown9 hgrow9 _ hat9; obtain ⟨q9, n9, c9, rfl⟩ : ∃ q n c, v9 = .slice q n c := (by rcases hown9.2 with ⟨h, -⟩ | ⟨g, cap, cur, h, -⟩ <;> exact ⟨_, _, _, h⟩); have HM9 : Hid (MRow w9 w.heap.size (.slice q9 n9 c9) (acc ++ [x])) := MRow.snoc HMX.out HG.out (W1 := X7.alloc (.cells #[.int .i64 a0, .string ta, .int .i64 kd1, .int .i64 di1, .int .u64 db1, .string ds1, .slice p1 n1 c1, .int .i64 a1, .int .i64 a2, .string ra, .int .i64 a3, .int .i64 a4, .int .i64 a5] 39)) (by simp) (fun b hb => Below.heap_alloc _ _ _ hb) (fun cs hcs => by rw [ownsRow_same hcs HOWN.out]; exact hown9) hgrow9 hat9; have HB9 : Hid (Below w.heap.size w w9) := (HBX.out.alloc HBX.out.size _).trans ⟨hgrow9.os, hgrow9.tape, hgrow9.output, hgrow9.size, fun i hi => hgrow9.block i (Nat.lt_of_lt_of_le hi (HBX.out.alloc HBX.out.size _).size) (fun e => by have := (HMX.out.lt i e.symm).1; omega)⟩; clear hown9 hgrow9 hat9)
        clear x0 x1 x2 x3 x4 x5 x6 x7 x8 x9 x10 x11 x12 hlx
        go_wp2_with fail
        go_roundw
        case rel => exact ⟨acc ++ [x], p + m, by go_num, HS.out, HM9.out, HB9.out⟩
        case measure => simp [intOf]; omega
    · have hnI : ¬ (p : Int) < (l.length : Int) := by omega
      have HE := Lib.hid (HA.out.done hlt)
      go_wp2_with fail
      refine bodyPost_ret (v := .tuple #[.slice qv acc.length cv, .int .i64 (p : Nat), .int .i64 0]) (by simp [results, Tryd.results29]) rfl ?_
      rw [← HPP.out]
      exact ⟨_, p, 0, rfl, HB.out, by rw [HE.out], by rw [HE.out]; exact HM.out⟩
end Go.Proofs.YtmncpbfghabamaaDoor
