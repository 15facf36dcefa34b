/- WIRE: the reference writes a value. -/
import Derived.Test.YtmncpbfghabamaaDoorWireDatum
namespace Go.Proofs.YtmncpbfghabamaaDoor
open Go Go.RowKit
attribute [local go_sem ↓] Go.wp_at_zero Go.wp_at_succ

/-- the row, and the value's own block -/
structure PSt (base Bd : Nat) (cs : Array Value) (v : Value) (W : World) (l : List UInt8) (v1 : Value) (wx : World) : Prop where
  row : Row wx base v1 l
  grow : Grow none v W v1 wx
  blk : wx.heap[Bd]? = some (.cells cs 25 (0, 0))
theorem PSt.post {base Bd : Nat} {cs : Array Value} {v v1 v2 : Value} {W wx w2 : World} {l l2 : List UInt8} (h : PSt base Bd cs v W l v1 wx)
    (hr : Row w2 base v2 l2) (hg : Grow none v1 wx v2 w2) : PSt base Bd cs v W l2 v2 w2 :=
  ⟨hr, h.grow.trans hg, hg.boxed h.blk (by simp) (not_row h.blk (by decide) h.row)⟩
theorem rights_get : ∀ {ps : List Dv} {j : Nat} {t : Dv}, Rights ps → ps[j]? = some t → t.Right
  | [], j, t, _, hj => by simp at hj
  | a :: r, 0, t, h, hj => by injection hj with hj; subst hj; exact h.1
  | a :: r, j + 1, t, h, hj => rights_get (ps := r) h.2 (by simpa using hj)
theorem fit_none {kd di db : Int} {ds : ByteArray} {ps : List Dv} (h : FitV kd di db ds ps.length) (hk : kd ≠ 8 ∧ kd ≠ 9 ∧ kd ≠ 11) : ps = [] := by
  obtain ⟨h0, h14, hdi, hdb0, hdb1, hds, f1, f2, f3, f4, f5, f6, f7⟩ := h
  exact List.length_eq_zero_iff.1 (by omega)

set_option linter.unusedSimpArgs false in
set_option maxRecDepth 100000 in
set_option maxHeartbeats 8000000 in
theorem put_any : ∀ (k : Nat) (w0 W : World) (v : Value) (l : List UInt8) (kd di db : Int) (ds : ByteArray) (p : Option Addr) (n cap : Nat) (ps : List Dv), DvIs w0 k [.int .i64 kd, .int .i64 di, .int .u64 db, .string ds, .slice p n cap] (.mk kd di db ds ps) → Below w0.heap.size w0 W →
    Row W w0.heap.size v l → (Dv.mk kd di db ds ps).Right → l.length + (enc (.mk kd di db ds ps)).length ≤ 100000000 →
    Calls Tryd.prog 34 #[v, .agg #[.int .i64 kd, .int .i64 di, .int .u64 db, .string ds, .slice p n cap]] W (SPost w0.heap.size v W (l ++ enc (.mk kd di db ds ps))) := by
  intro k
  induction k with
  | zero => intro w0 W v l kd di db ds p n cap ps h; exact h.elim
  | succ k ih =>
    intro w0 W v l kd di db ds p n cap ps hD hB hrow hright hlen
    have IH := Lib.hid ih
    clear ih
    obtain ⟨rfl, hkd, hdi, hdb, hnc, hcap⟩ := hD.top
    obtain ⟨i0, hi, hz0, hz1, hz2⟩ := info_parts info_u8
    obtain ⟨PP, hPP⟩ : ∃ PP, SPost w0.heap.size v W (l ++ enc (.mk kd di db ds ps)) = PP := ⟨_, rfl⟩
    rw [hPP]
    have HPP := Lib.hid hPP
    have HD := Lib.hid hD
    have HB := Lib.hid hB
    have HDI := Lib.hid hdi
    have HDB := Lib.hid hdb
    have HR := Lib.hid hright
    have hsz0 := hB.size
    simp only [enc, List.length_cons, List.length_append] at hlen
    have hl : l.length ≤ 99999999 := by omega
    have HL := Lib.hid hlen
    have D0 : Hid (PSt w0.heap.size W.heap.size #[.int .i64 kd, .int .i64 di, .int .u64 db, .string ds, .slice p ps.length cap] v (W.alloc (.cells #[.int .i64 kd, .int .i64 di, .int .u64 db, .string ds, .slice p ps.length cap] 25)) l v (W.alloc (.cells #[.int .i64 kd, .int .i64 di, .int .u64 db, .string ds, .slice p ps.length cap] 25))) := ⟨World.ownsRow.alloc hrow _, Grow.refl _ _ _, heap_alloc_new W _⟩
    obtain ⟨q, m, c, rfl⟩ := row_val hrow
    have HV := Lib.hid (row_base hrow)
    clear hPP hD hB hlen hrow hkd hdi hdb hright
    go_enter Tryd.func34, Tryd.ntmps34
    go_upto_region 2 with (at_builtin; refine wpList_append_own_at _ rfl _ _ 26 rfl w0.heap.size 5 i0 (.int .u8 0) 1 1 Tryd.underlying26 hi hz0 hz1 hz2 rfl (by decide) _ l.length _ rfl (D0.out.row.alloc _) ⟨W.heap.size + 1, 0, none⟩ 1 1 [.int .u8 (kd % 256)] rfl rfl (by have h := news_cell (W.alloc (.cells #[.int .i64 kd, .int .i64 di, .int .u64 db, .string ds, .slice p ps.length cap] 25)) (.int .u8 (kd % 256)) 5; rw [World.size_alloc] at h; exact h) (fun x hx => by simp at hx; subst hx; rfl) (by unfold maxLen; omega) (by omega) (by simp; omega) ?_; intro v' w1 hown' hgrow _ hat; have T3 := Lib.hid (grow_row D0.out.row hown' hgrow hat); have T2 := Lib.hid (row_snoc hown' (kind_byte kd)); clear hown' hgrow hat)
    have D1 := Lib.hid (D0.out.post T2.out T3.out)
    clear T2 T3 D0 hl
    obtain ⟨v1, hv1⟩ : ∃ v1, v' = v1 := ⟨_, rfl⟩
    subst hv1
    have hown : (ownB kd di db ds ps.length).length ≤ 100000000 := by have := HL.out; omega
    obtain ⟨L1, hL1⟩ : ∃ L1, l ++ [kindB kd] = L1 := ⟨_, rfl⟩
    have hl1 : L1.length ≤ 100000000 := by rw [← hL1, List.length_append]; have := HL.out; simp; omega
    have HL1 := Lib.hid hL1
    rw [hL1] at D1
    clear hL1
    obtain ⟨c0, c1, c2, c3, c4, hlt⟩ := cells5 D1.out.blk
    have hsz := D1.out.grow.size
    simp only [World.size_alloc] at hsz
    go_upto_block 0 with fail
    go_cut [0] (fun s0 wx => PSt w0.heap.size W.heap.size #[.int .i64 kd, .int .i64 di, .int .u64 db, .string ds, .slice p ps.length cap] (.slice q m c) (W.alloc (.cells #[.int .i64 kd, .int .i64 di, .int .u64 db, .string ds, .slice p ps.length cap] 25)) (L1 ++ ownB kd di db ds ps.length) s0 wx)
    case first =>
      by_cases k1 : kd = 1
      · subst k1
        go_wp2_with (go_at_call 51; refine (refSigned_any w0.heap.size _ L1 di w1 D1.out.row (by omega) HDI.out (by omega)).mono ?_; rintro e w2 ⟨v2, rfl, h2, h3⟩; have D2 := Lib.hid (D1.out.post h2 h3); have hs2 := h3.size; obtain ⟨e0, e1, e2, e3, e4, e5⟩ := cells5 D2.out.blk; clear h2 h3)
        · rw [← HPP.out]
          refine ⟨_, rfl, ?_, D2.out.grow.ofAlloc⟩
          have h := D2.out.row
          have hn := fit_none HR.out.1 (by decide)
          have hL := HL1.out
          rw [show l ++ enc (.mk 1 di db ds ps) = L1 ++ (numB (zig di)) by rw [← hL, hn]; simp [enc, encs, ownB]]
          skip
          exact h

      by_cases k2 : kd = 2
      · subst k2
        go_wp2_with (go_at_call 51; refine (refSigned_any w0.heap.size _ L1 di w1 D1.out.row (by omega) HDI.out (by omega)).mono ?_; rintro e w2 ⟨v2, rfl, h2, h3⟩; have D2 := Lib.hid (D1.out.post h2 h3); have hs2 := h3.size; obtain ⟨e0, e1, e2, e3, e4, e5⟩ := cells5 D2.out.blk; clear h2 h3)
        · rw [← HPP.out]
          refine ⟨_, rfl, ?_, D2.out.grow.ofAlloc⟩
          have h := D2.out.row
          have hn := fit_none HR.out.1 (by decide)
          have hL := HL1.out
          rw [show l ++ enc (.mk 2 di db ds ps) = L1 ++ (numB (zig di)) by rw [← hL, hn]; simp [enc, encs, ownB]]
          skip
          exact h

      by_cases k3 : kd = 3
      · subst k3
        rw [show ((3 : Int) % 256) = 3 from rfl]
        go_wp2_with fail
        go_loopw [0, 5] (fun s0 s wr => ∃ (j : Nat), s = .int .i64 (j : Nat) ∧ j ≤ 8 ∧ Hid (PSt w0.heap.size W.heap.size #[.int .i64 3, .int .i64 di, .int .u64 db, .string ds, .slice p ps.length cap] (.slice q m c) (W.alloc (.cells #[.int .i64 3, .int .i64 di, .int .u64 db, .string ds, .slice p ps.length cap] 25)) (L1 ++ leB db.toNat j) s0 wr)) (fun _ s _ => (8 - intOf s).toNat)
        case atStart => exact ⟨0, rfl, by omega, by rw [leB, List.append_nil]; exact D1.out⟩
        case round =>
          obtain ⟨j, rfl, hj, D2⟩ := hrel
          have hsz2 := D2.out.grow.size
          simp only [World.size_alloc] at hsz2
          have hl2 : (L1 ++ leB db.toNat j).length ≤ 100000010 := by rw [List.length_append, leB_len]; omega
          obtain ⟨x0, x1, x2, x3, x4, x5⟩ := cells5 D2.out.blk
          by_cases hj8 : j = 8
          · subst hj8
            go_wp2_with fail
            go_meet
            case rel =>
              rw [show ownB 3 di db ds ps.length = leB db.toNat 8 by simp [ownB]]
              exact D2.out
          · have hj7 : j < 8 := by omega
            obtain ⟨LJ, hLJ⟩ : ∃ LJ, L1 ++ leB db.toNat j = LJ := ⟨_, rfl⟩
            have HLJ := Lib.hid hLJ
            rw [hLJ] at D2 hl2
            clear hLJ
            have hjI : (j : Int) < 8 := by omega
            have HSB : Hid (bv (UInt8.ofNat (db.toNat / 2 ^ (8 * j) % 256)) = .int .u8 (db / 2 ^ (8 * j) % 256)) := shift_byte HDB.out.1 (by simp)
            obtain ⟨q1, m1, e1, hs0⟩ := row_val D2.out.row
            subst hs0
            go_wp2_with (at_builtin; refine wpList_append_own_at _ rfl _ _ 26 rfl w0.heap.size 5 i0 (.int .u8 0) 1 1 Tryd.underlying26 hi hz0 hz1 hz2 rfl (by decide) _ (LJ).length _ rfl (D2.out.row.alloc _) ⟨wr.heap.size, 0, none⟩ 1 1 [.int .u8 (db / 2 ^ (8 * j) % 256)] rfl rfl (news_cell _ _ _) (fun x hx => by simp at hx; subst hx; rfl) (by unfold maxLen; omega) (by omega) (by simp; omega) ?_; intro v' w1 hown' hgrow _ hat; have T3 := Lib.hid (grow_row D2.out.row hown' hgrow hat); have T2 := Lib.hid hown'; clear hown' hgrow hat)
            go_roundw
            case rel => exact ⟨j + 1, by go_num, by omega, by rw [leB, ← List.append_assoc, HLJ.out]; exact D2.out.post (row_snoc T2.out HSB.out) T3.out⟩
            case measure => simp [intOf]; omega
      by_cases k4 : kd = 4
      · subst k4
        have hdsl : ds.size ≤ 100000000 := by have := hown; simp [ownB] at this; omega
        go_wp2_with (go_at_call 52; refine (refText_any w0.heap.size _ L1 ds w1 D1.out.row (by omega) hdsl (by omega)).mono ?_; rintro e w2 ⟨v2, rfl, h2, h3⟩; have D2 := Lib.hid (D1.out.post h2 h3); clear h2 h3)
        · rw [← HPP.out]
          refine ⟨_, rfl, ?_, D2.out.grow.ofAlloc⟩
          have h := D2.out.row
          have hn := fit_none HR.out.1 (by decide)
          have hL := HL1.out
          rw [show l ++ enc (.mk 4 di db ds ps) = L1 ++ (numB ds.size ++ ds.data.toList) by rw [← hL, hn]; simp [enc, encs, ownB]]
          skip
          exact h

      by_cases k5 : kd = 5
      · subst k5
        have hdsl : ds.size ≤ 100000000 := by have := hown; simp [ownB] at this; omega
        go_wp2_with (go_at_call 52; refine (refText_any w0.heap.size _ L1 ds w1 D1.out.row (by omega) hdsl (by omega)).mono ?_; rintro e w2 ⟨v2, rfl, h2, h3⟩; have D2 := Lib.hid (D1.out.post h2 h3); clear h2 h3)
        · rw [← HPP.out]
          refine ⟨_, rfl, ?_, D2.out.grow.ofAlloc⟩
          have h := D2.out.row
          have hn := fit_none HR.out.1 (by decide)
          have hL := HL1.out
          rw [show l ++ enc (.mk 5 di db ds ps) = L1 ++ (numB ds.size ++ ds.data.toList) by rw [← hL, hn]; simp [enc, encs, ownB]]
          skip
          exact h

      by_cases k7 : kd = 7
      · subst k7
        have hdsl : ds.size ≤ 100000000 := by have := hown; simp [ownB] at this; omega
        go_wp2_with (go_at_call 52; refine (refText_any w0.heap.size _ L1 ds w1 D1.out.row (by omega) hdsl (by omega)).mono ?_; rintro e w2 ⟨v2, rfl, h2, h3⟩; have D2 := Lib.hid (D1.out.post h2 h3); clear h2 h3)
        · rw [← HPP.out]
          refine ⟨_, rfl, ?_, D2.out.grow.ofAlloc⟩
          have h := D2.out.row
          have hn := fit_none HR.out.1 (by decide)
          have hL := HL1.out
          rw [show l ++ enc (.mk 7 di db ds ps) = L1 ++ (numB ds.size ++ ds.data.toList) by rw [← hL, hn]; simp [enc, encs, ownB]]
          skip
          exact h

      by_cases k6 : kd = 6
      · subst k6
        obtain ⟨q1, m1, e1, hs0⟩ := row_val D1.out.row
        subst hs0
        go_wp2_with (at_builtin; refine wpList_append_own_at _ rfl _ _ 26 rfl w0.heap.size 5 i0 (.int .u8 0) 1 1 Tryd.underlying26 hi hz0 hz1 hz2 rfl (by decide) _ (L1).length _ rfl (D1.out.row.alloc _) ⟨w1.heap.size, 0, none⟩ 1 1 [.int .u8 (di % 256)] rfl rfl (news_cell _ _ _) (fun x hx => by simp at hx; subst hx; rfl) (by unfold maxLen; omega) (by omega) (by simp; omega) ?_; intro v2 w2 hown' hgrow _ hat; have T3 := Lib.hid (grow_row D1.out.row hown' hgrow hat); have T2 := Lib.hid hown'; clear hown' hgrow hat)
        have D2 := Lib.hid (D1.out.post (row_snoc T2.out (kind_byte di)) T3.out)
        · rw [← HPP.out]
          refine ⟨_, rfl, ?_, D2.out.grow.ofAlloc⟩
          have h := D2.out.row
          have hn := fit_none HR.out.1 (by decide)
          have hL := HL1.out
          rw [show l ++ enc (.mk 6 di db ds ps) = L1 ++ ([UInt8.ofNat (di % 256).toNat]) by rw [← hL, hn]; simp [enc, encs, ownB]]
          skip
          exact h

      by_cases k10 : kd = 10
      · subst k10
        have hdsl : ds.size ≤ 100000000 := by have := hown; simp [ownB] at this; omega
        have hzl : L1.length + (numB (zig di)).length ≤ 100000000 := by have := HL.out; have h2 := congrArg List.length HL1.out; simp [ownB] at this h2; omega
        go_wp2_with fail
        go_region_held3 (fun w' => w'.cell? ⟨W.heap.size, 1, none⟩ = some (.int .i64 di) ∧ w'.cell? ⟨W.heap.size, 3, none⟩ = some (.string ds)) (first | exact ⟨g1, g3⟩ | exact ⟨e1, e3⟩ | go_keep) (first | (go_at_call 51; refine (refSigned_any w0.heap.size _ L1 di _ (World.ownsRow.drew D1.out.row) (by simp; omega) HDI.out (by omega)).mono ?_; rintro e w2 ⟨v2, rfl, h2, h3⟩; have D2 := Lib.hid (D1.out.post h2 ⟨h3.os, h3.tape, h3.output, h3.size, h3.block, h3.at_⟩); have hs2 := h3.size; obtain ⟨e0, e1, e2, e3, e4, e5⟩ := cells5 D2.out.blk; clear h2 h3) | (go_at_call 52; (with_reducible refine (refText_any w0.heap.size _ (L1 ++ numB (zig di)) ds _ D2.out.row (by omega) hdsl (by rw [List.length_append]; omega)).mono ?_); rintro e w3 ⟨v3, rfl, h2, h3⟩; have D3 := Lib.hid (D2.out.post h2 h3); obtain ⟨g0, g1, g2, g3, g4, g5⟩ := cells5 D3.out.blk; clear h2 h3))
        all_goals go_wp2_with fail
        · rw [← HPP.out]
          refine ⟨_, rfl, ?_, D3.out.grow.ofAlloc⟩
          have h := D3.out.row
          have hn := fit_none HR.out.1 (by decide)
          have hL := HL1.out
          rw [show l ++ enc (.mk 10 di db ds ps) = L1 ++ (numB (zig di) ++ (numB ds.size ++ ds.data.toList)) by rw [← hL, hn]; simp [enc, encs, ownB]]
          rw [← List.append_assoc]
          exact h

      by_cases k11 : kd = 11
      · subst k11
        have hx1 : (di % 18446744073709551616).toNat < 18446744073709551616 := by omega
        have hxw : IntKind.u64.wrap di = (((di % 18446744073709551616).toNat : Nat) : Int) := by rw [wrap64u]; omega
        obtain ⟨X, hX⟩ : ∃ X, (di % 18446744073709551616).toNat = X := ⟨_, rfl⟩
        rw [hX] at hx1 hxw
        have HX := Lib.hid hX
        clear hX
        go_wp2_with (go_at_call 42; refine (refNumber_any w0.heap.size _ L1 X w1 D1.out.row (by omega) hx1 (by omega)).mono ?_; rintro e w2 ⟨v2, rfl, h2, h3⟩; have D2 := Lib.hid (D1.out.post h2 h3); clear h2 h3)
        · rw [HX.out.symm] at D2
          go_meet
          case rel =>
            have h := D2.out
            rw [show ownB _ di db ds ps.length = numB (di % 18446744073709551616).toNat by simp [ownB]]
            exact h

      by_cases k8 : kd = 8
      · subst k8
        have hx1 : ps.length < 18446744073709551616 := by omega
        go_wp2_with (go_at_call 42; refine (refNumber_any w0.heap.size _ L1 ps.length w1 D1.out.row (by omega) hx1 (by omega)).mono ?_; rintro e w2 ⟨v2, rfl, h2, h3⟩; have D2 := Lib.hid (D1.out.post h2 h3); clear h2 h3)
        · go_meet
          case rel =>
            have h := D2.out
            rw [show ownB _ di db ds ps.length = numB ps.length by simp [ownB]]
            exact h

      have b1 : (kd == 1) = false := by simpa using k1
      have b2 : (kd == 2) = false := by simpa using k2
      have b3 : (kd == 3) = false := by simpa using k3
      have b4 : (kd == 4) = false := by simpa using k4
      have b5 : (kd == 5) = false := by simpa using k5
      have b6 : (kd == 6) = false := by simpa using k6
      have b7 : (kd == 7) = false := by simpa using k7
      have b8 : (kd == 8) = false := by simpa using k8
      have b10 : (kd == 10) = false := by simpa using k10
      have b11 : (kd == 11) = false := by simpa using k11
      go_wp2_with fail
      go_meet
      case rel =>
        rw [show ownB kd di db ds ps.length = [] by simp [ownB, k1, k2, k3, k4, k5, k6, k7, k8, k10, k11], List.append_nil]
        exact D1.out
    case rest =>
      have D2 := Lib.hid hcut
      clear hcut D1 c0 c1 c2 c3 c4 hlt hsz hown hl1
      obtain ⟨L2, hL2⟩ : ∃ L2, L1 ++ ownB kd di db ds ps.length = L2 := ⟨_, rfl⟩
      have HL2 := Lib.hid hL2
      rw [hL2] at D2
      clear hL2
      go_wp2_with fail
      go_loopw [0, 6] (fun s0 s wr => ∃ (j : Nat), s = .int .i64 (j : Nat) ∧ j ≤ ps.length ∧ Hid (PSt w0.heap.size W.heap.size #[.int .i64 kd, .int .i64 di, .int .u64 db, .string ds, .slice p ps.length cap] (.slice q m c) (W.alloc (.cells #[.int .i64 kd, .int .i64 di, .int .u64 db, .string ds, .slice p ps.length cap] 25)) (L2 ++ encs (ps.take j)) s0 wr)) (fun _ s _ => (ps.length - intOf s).toNat)
      case atStart => exact ⟨0, rfl, by omega, by rw [List.take_zero, encs, List.append_nil]; exact D2.out⟩
      case round =>
        obtain ⟨j, rfl, hj, D3⟩ := hrel
        obtain ⟨c0, c1, c2, c3, c4, hlt⟩ := cells5 D3.out.blk
        by_cases hjn : j = ps.length
        · subst hjn
          go_wp2_with fail
          rw [← HPP.out]
          refine ⟨_, rfl, ?_, D3.out.grow.ofAlloc⟩
          have h := D3.out.row
          rw [← HL2.out, ← HL1.out, List.take_length] at h
          simp only [enc]
          simpa using h
        · obtain ⟨t, ht⟩ : ∃ t, ps[j]? = some t := ⟨_, List.getElem?_eq_getElem (by omega)⟩
          have hrt := rights_get HR.out.2 ht
          obtain ⟨b, o, kd', di', db', ds', q', m', c', l', rfl, hbl, rfl, y0, y1, y2, y3, y4, hD'⟩ := HD.out.part ht
          have HRT := Lib.hid hrt
          have HBr : Hid (Below w0.heap.size w0 wr) := D3.out.grow.below (HB.out.alloc (by omega) _) (by simp; omega) (fun k e => by cases e) HV.out
          have hlb := HBr.out.size
          have z0 := (HBr.out.cell (p := ⟨b, o + j * 5, none⟩) hbl).trans y0
          have z1 := (HBr.out.cell (p := ⟨b, o + j * 5 + 1, none⟩) hbl).trans y1
          have z2 := (HBr.out.cell (p := ⟨b, o + j * 5 + 2, none⟩) hbl).trans y2
          have z3 := (HBr.out.cell (p := ⟨b, o + j * 5 + 3, none⟩) hbl).trans y3
          have z4 := (HBr.out.cell (p := ⟨b, o + j * 5 + 4, none⟩) hbl).trans y4
          have HD2 := Lib.hid hD'
          have HLn : Hid ((L2 ++ encs (ps.take j)).length + (enc (.mk kd' di' db' ds' l')).length ≤ 100000000) := by
            have h1 := encs_part ht
            have h2 := congrArg List.length HL2.out
            have h3 := congrArg List.length HL1.out
            have h4 := HL.out
            show _ ≤ _
            simp only [List.length_append, List.length_cons, List.length_nil] at h2 h3 ⊢
            omega
          have HE : Hid (L2 ++ encs (ps.take (j + 1)) = (L2 ++ encs (ps.take j)) ++ enc (.mk kd' di' db' ds' l')) := by
            show _ = _
            rw [encs_take ht, List.append_assoc]
          have hjI : (j : Int) < (ps.length : Int) := by omega
          clear y0 y1 y2 y3 y4 hD' hrt
          go_wp2_with (go_at_call 34; refine (IH.out w0 _ _ (L2 ++ encs (ps.take j)) kd' di' db' ds' q' m' c' l' HD2.out HBr.out D3.out.row HRT.out HLn.out).mono ?_; rintro e w4 ⟨v4, rfl, h2, h3⟩; have D4 := Lib.hid (D3.out.post h2 h3); clear h2 h3)
          go_roundw
          case rel => exact ⟨j + 1, by go_num, by omega, by rw [HE.out]; exact D4.out⟩
          case measure => simp [intOf]; omega
end Go.Proofs.YtmncpbfghabamaaDoor
