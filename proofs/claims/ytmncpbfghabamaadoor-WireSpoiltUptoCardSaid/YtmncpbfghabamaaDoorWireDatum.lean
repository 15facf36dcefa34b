/- WIRE: the program writes a value. -/
import Derived.Test.YtmncpbfghabamaaDoorWireDSt
namespace Go.Proofs.YtmncpbfghabamaaDoor
open Go Go.RowKit
attribute [local go_sem ↓] Go.wp_at_zero Go.wp_at_succ
set_option linter.unusedSimpArgs false in
set_option maxRecDepth 100000 in
set_option maxHeartbeats 8000000 in
theorem datum_any : ∀ (k : Nat) (w0 W : World) (Bw : Nat) (v : Value) (l : List UInt8) (kd di db : Int) (ds : ByteArray) (p : Option Addr) (n cap : Nat) (ps : List Dv), DvIs w0 k [.int .i64 kd, .int .i64 di, .int .u64 db, .string ds, .slice p n cap] (.mk kd di db ds ps) → Below w0.heap.size w0 W → w0.heap.size ≤ Bw →
    Boxed W Bw 67 v → Row W w0.heap.size v l → l.length + (enc (.mk kd di db ds ps)).length ≤ 100000000 →
    Calls Tryd.prog 33 #[.pointer (some ⟨Bw, 0, none⟩), .agg #[.int .i64 kd, .int .i64 di, .int .u64 db, .string ds, .slice p n cap]] W (WPost Bw w0.heap.size v W (l ++ enc (.mk kd di db ds ps))) := by
  intro k
  induction k with
  | zero => intro w0 W Bw v l kd di db ds p n cap ps h; exact h.elim
  | succ k ih =>
    intro w0 W Bw v l kd di db ds p n cap ps hD hB hBw hbox hrow hlen
    have IH := Lib.hid ih
    clear ih
    obtain ⟨rfl, hkd, hdi, hdb, hnc, hcap⟩ := hD.top
    obtain ⟨i0, hi, hz0, hz1, hz2⟩ := info_parts info_u8
    obtain ⟨PP, hPP⟩ : ∃ PP, WPost Bw w0.heap.size v W (l ++ enc (.mk kd di db ds ps)) = PP := ⟨_, rfl⟩
    rw [hPP]
    have HPP := Lib.hid hPP
    have HD := Lib.hid hD
    have HB := Lib.hid hB
    have HDI := Lib.hid hdi
    have HDB := Lib.hid hdb
    have hsz0 := hB.size
    have hltB := hbox.lt
    have hne : W.heap.size ≠ Bw := by omega
    simp only [enc, List.length_cons, List.length_append] at hlen
    have hl : l.length ≤ 99999999 := by omega
    have HL := Lib.hid hlen
    have D0 : Hid (DSt Bw w0.heap.size W.heap.size #[.int .i64 kd, .int .i64 di, .int .u64 db, .string ds, .slice p ps.length cap] v (W.alloc (.cells #[.int .i64 kd, .int .i64 di, .int .u64 db, .string ds, .slice p ps.length cap] 25)) l v (W.alloc (.cells #[.int .i64 kd, .int .i64 di, .int .u64 db, .string ds, .slice p ps.length cap] 25))) := ⟨hbox.alloc _, World.ownsRow.alloc hrow _, Grow.refl _ _ _, heap_alloc_new W _⟩
    obtain ⟨q, m, c, rfl⟩ := row_val hrow
    have hc := hbox.cell
    have hf := hbox.frozen
    have HNB : Hid (some Bw ≠ (Value.slice q m c).ownBlock) := not_row hbox (by decide) hrow
    have HND : Hid (some W.heap.size ≠ (Value.slice q m c).ownBlock) := not_row D0.out.blk (by decide) D0.out.row
    have HNW : Hid (∀ j u, [Value.int .u8 (kd % 256)][j]? = some u → ((W.alloc (.cells #[.int .i64 kd, .int .i64 di, .int .u64 db, .string ds, .slice p ps.length cap] 25)).alloc (.cells #[.int .u8 (kd % 256)] 5)).cell? ((⟨W.heap.size + 1, 0, none⟩ : Addr).add j) = some u) := by
      have h := news_cell (W.alloc (.cells #[.int .i64 kd, .int .i64 di, .int .u64 db, .string ds, .slice p ps.length cap] 25)) (.int .u8 (kd % 256)) 5
      rw [World.size_alloc] at h
      exact h
    have HV := Lib.hid (row_base hrow)
    clear hPP hD hB hlen hbox hrow hkd hdi hdb
    go_enter Tryd.func33, Tryd.ntmps33
    go_upto_region 1 with fail
    go_cut [] (fun wx => ∃ v1, DSt Bw w0.heap.size W.heap.size #[.int .i64 kd, .int .i64 di, .int .u64 db, .string ds, .slice p ps.length cap] (.slice q m c) (W.alloc (.cells #[.int .i64 kd, .int .i64 di, .int .u64 db, .string ds, .slice p ps.length cap] 25)) (l ++ [kindB kd]) v1 wx)
    case first =>
      refine wp_region_held_drew (S := fun w' => w'.cell? ⟨W.heap.size, 0, none⟩ = some (.int .i64 kd)) (by kernel_rfl) (by go_simp) (fun hHeld => ?_)
      refine wpAnyH_take (i := 0) (oi := _) (v := ?_) rfl (by kernel_rfl) (by kernel_rfl) (by kernel_rfl) (fun _ _ _ h => h) (Or.inl ⟨by rfl, ?_⟩) (by assumption) ?_
      rotate_left
      focus (intro w' hSw; (try dsimp only at hSw); go_simp; try with_reducible rfl)
      (try simp only [Act.put, List.setIfInBounds_toArray, List.set_cons_zero, List.set_cons_succ, List.getElem_toArray, List.getElem_cons_succ, List.getElem_cons_zero])
      refine wpAnyH_take (i := 1) (oi := _) (v := ?_) rfl (by kernel_rfl) (by kernel_rfl) (by kernel_rfl) (fun _ _ _ h => h) (Or.inl ⟨by rfl, ?_⟩) (by assumption) ?_
      rotate_left
      focus (intro w' hSw; (try dsimp only at hSw); go_simp; try with_reducible rfl)
      (try simp only [Act.put, List.setIfInBounds_toArray, List.set_cons_zero, List.set_cons_succ, List.getElem_toArray, List.getElem_cons_succ, List.getElem_cons_zero])
      refine wpAnyH_take (i := 2) (oi := _) (v := ?_) rfl (by kernel_rfl) (by kernel_rfl) (by kernel_rfl) (fun _ _ _ h => h) (Or.inl ⟨by rfl, ?_⟩) (by assumption) ?_
      rotate_left
      focus (intro w' hSw; (try dsimp only at hSw); go_simp; try with_reducible rfl)
      (try simp only [Act.put, List.setIfInBounds_toArray, List.set_cons_zero, List.set_cons_succ, List.getElem_toArray, List.getElem_cons_succ, List.getElem_cons_zero])
      refine wpAnyH_take (i := 3) (oi := _) (v := ?_) rfl (by kernel_rfl) (by kernel_rfl) (by kernel_rfl) (fun _ _ _ h => h) (Or.inl ⟨by rfl, ?_⟩) (by assumption) ?_
      rotate_left
      focus (intro w' hSw; (try dsimp only at hSw); go_simp; try with_reducible rfl)
      (try simp only [Act.put, List.setIfInBounds_toArray, List.set_cons_zero, List.set_cons_succ, List.getElem_toArray, List.getElem_cons_succ, List.getElem_cons_zero])
      refine wpAnyH_take (i := 5) (oi := _) (v := ?_) rfl (by kernel_rfl) (by kernel_rfl) (by kernel_rfl) (fun _ _ _ h => h) (Or.inl ⟨by rfl, ?_⟩) (by assumption) ?_
      rotate_left
      focus (intro w' hSw; (try dsimp only at hSw); go_simp; try with_reducible rfl)
      (try simp only [Act.put, List.setIfInBounds_toArray, List.set_cons_zero, List.set_cons_succ, List.getElem_toArray, List.getElem_cons_succ, List.getElem_cons_zero])
      refine wpAnyH_take (i := 6) (oi := _) (v := ?_) rfl (by kernel_rfl) (by kernel_rfl) (by kernel_rfl) (fun _ _ _ h => h) (Or.inl ⟨by rfl, ?_⟩) (by assumption) ?_
      rotate_left
      focus (intro w' hSw; (try dsimp only at hSw); go_simp; try with_reducible rfl)
      (try simp only [Act.put, List.setIfInBounds_toArray, List.set_cons_zero, List.set_cons_succ, List.getElem_toArray, List.getElem_cons_succ, List.getElem_cons_zero])
      refine wpAnyH_take (i := 7) (oi := _) (v := ?_) rfl (by kernel_rfl) (by kernel_rfl) (by kernel_rfl) (fun _ _ _ h => h) (Or.inl ⟨by rfl, ?_⟩) (by assumption) ?_
      rotate_left
      focus (intro w' hSw; (try dsimp only at hSw); go_simp; try with_reducible rfl)
      (try simp only [Act.put, List.setIfInBounds_toArray, List.set_cons_zero, List.set_cons_succ, List.getElem_toArray, List.getElem_cons_succ, List.getElem_cons_zero])
      refine wpAnyH_ready (rs := [4, 8]) (by kernel_rfl) (by simp) ?_
      refine AllReadyH.cons (o := _) rfl (fun K hK => ?_) ?_
      · go_simp
        refine hK.out _ _ (by exact hHeld) (fun hHeld => ?_)
        clear hK K
        (try simp only [Act.put, List.setIfInBounds_toArray, List.set_cons_zero, List.set_cons_succ, List.getElem_toArray, List.getElem_cons_succ, List.getElem_cons_zero])
        refine wpAnyH_ready (rs := [8]) (by kernel_rfl) (by simp) ?_
        refine AllReadyH.cons (o := _) rfl (fun K hK => ?_) AllReadyH.nil
        go_simp
        refine hK.out _ _ (by first | (go_simp; exact hHeld) | go_simp) (fun hHeld => ?_)
        clear hK K
        (try simp only [Act.put, List.setIfInBounds_toArray, List.set_cons_zero, List.set_cons_succ, List.getElem_toArray, List.getElem_cons_succ, List.getElem_cons_zero])
        refine wpAnyH_ready (rs := [9]) (by kernel_rfl) (by simp) ?_
        refine AllReadyH.cons (o := _) rfl (fun K hK => ?_) AllReadyH.nil
        (refine step_append_lies _ (by rfl) _ _ _ (by rfl) w0.heap.size 5 i0 (.int .u8 0) 1 1 Tryd.underlying26 hi hz0 hz1 hz2 rfl (by decide) (.slice q m c) l.length (l.map bv) (by rfl) (by exact D0.out.row.alloc _) ⟨W.heap.size + 1, 0, none⟩ 1 1 [.int .u8 (kd % 256)] (by rfl) rfl HNW.out (by simp [Value.oneCell']) (by decide) (by unfold maxLen; omega) (by omega) (by simp; omega) (W.heap.size + 1 + 1) (by simp) ?_); intro g2 cap2 w1 hown' hgrow hat hlt2; obtain ⟨hc3, hf3, hl3⟩ := DSt.appendBox (tmp := .cells #[.int .u8 (kd % 256)] 5) D0.out ⟨hgrow.os, hgrow.tape, hgrow.output, hgrow.size, hgrow.block⟩; have hst := Lib.hid (DSt.append (x := kindB kd) (tmp := .cells #[.int .u8 (kd % 256)] 5) D0.out hne (kind_byte kd) rfl hown' ⟨hgrow.os, hgrow.tape, hgrow.output, hgrow.size, hgrow.block⟩ (by rcases hat with hat | hat; exact .inl hat.symm; exact .inr (by rw [hat]; simp [Value.ownBlock])))
        refine hK.out _ _ (keep_cell hgrow (by first | (simp; omega) | (simp <;> omega) | simp) HND.out (by first | (go_simp; exact hHeld) | go_simp | exact hHeld)) (fun hHeld => ?_)
        clear hK K
        (try simp only [Act.put, List.setIfInBounds_toArray, List.set_cons_zero, List.set_cons_succ, List.getElem_toArray, List.getElem_cons_succ, List.getElem_cons_zero])
        refine wpAnyH_take (i := 10) (oi := _) (v := ?_) rfl (by kernel_rfl) (by kernel_rfl) (by kernel_rfl) (fun _ _ _ h => h) (Or.inl ⟨by rfl, ?_⟩) (by assumption) ?_
        rotate_left
        focus (intro w' hSw; (try dsimp only at hSw); go_simp; try with_reducible rfl)
        (try simp only [Act.put, List.setIfInBounds_toArray, List.set_cons_zero, List.set_cons_succ, List.getElem_toArray, List.getElem_cons_succ, List.getElem_cons_zero])
        refine wpAnyH_take (i := 11) (oi := _) (v := ?_) rfl (by kernel_rfl) (by kernel_rfl) (by kernel_rfl) (fun _ _ _ h => h) (Or.inl ⟨by rfl, ?_⟩) (by assumption) ?_
        rotate_left
        focus (intro w' hSw; (try dsimp only at hSw); go_simp; try with_reducible rfl)
        (try simp only [Act.put, List.setIfInBounds_toArray, List.set_cons_zero, List.set_cons_succ, List.getElem_toArray, List.getElem_cons_succ, List.getElem_cons_zero])
        refine wpAnyH_ready (rs := [12]) (by kernel_rfl) (by simp) ?_
        refine AllReadyH.cons (o := _) rfl (fun K hK => ?_) AllReadyH.nil
        go_simp
        refine hK.out _ _ ((World.cell?_setCell_other _ _ _ _ (by intro h; simp only [Addr.mk.injEq] at h; omega)).trans hHeld) (fun hHeld => ?_)
        clear hK K
        (try simp only [Act.put, List.setIfInBounds_toArray, List.set_cons_zero, List.set_cons_succ, List.getElem_toArray, List.getElem_cons_succ, List.getElem_cons_zero])
        refine wpAnyH_done (by kernel_rfl) ?_ _
        go_wp2_with fail
        go_meet
        case rel => exact ⟨_, hst.out⟩
      refine AllReadyH.cons (o := _) rfl (fun K hK => ?_) AllReadyH.nil
      go_simp
      refine hK.out _ _ (by first | (go_simp; exact hHeld) | go_simp) (fun hHeld => ?_)
      clear hK K
      (try simp only [Act.put, List.setIfInBounds_toArray, List.set_cons_zero, List.set_cons_succ, List.getElem_toArray, List.getElem_cons_succ, List.getElem_cons_zero])
      refine wpAnyH_ready (rs := [4]) (by kernel_rfl) (by simp) ?_
      refine AllReadyH.cons (o := _) rfl (fun K hK => ?_) AllReadyH.nil
      go_simp
      refine hK.out _ _ (by exact hHeld) (fun hHeld => ?_)
      clear hK K
      (try simp only [Act.put, List.setIfInBounds_toArray, List.set_cons_zero, List.set_cons_succ, List.getElem_toArray, List.getElem_cons_succ, List.getElem_cons_zero])
      refine wpAnyH_ready (rs := [9]) (by kernel_rfl) (by simp) ?_
      refine AllReadyH.cons (o := _) rfl (fun K hK => ?_) AllReadyH.nil
      (refine step_append_lies _ (by rfl) _ _ _ (by rfl) w0.heap.size 5 i0 (.int .u8 0) 1 1 Tryd.underlying26 hi hz0 hz1 hz2 rfl (by decide) (.slice q m c) l.length (l.map bv) (by rfl) (by exact D0.out.row.alloc _) ⟨W.heap.size + 1, 0, none⟩ 1 1 [.int .u8 (kd % 256)] (by rfl) rfl HNW.out (by simp [Value.oneCell']) (by decide) (by unfold maxLen; omega) (by omega) (by simp; omega) (W.heap.size + 1 + 1) (by simp) ?_); intro g2 cap2 w1 hown' hgrow hat hlt2; obtain ⟨hc3, hf3, hl3⟩ := DSt.appendBox (tmp := .cells #[.int .u8 (kd % 256)] 5) D0.out ⟨hgrow.os, hgrow.tape, hgrow.output, hgrow.size, hgrow.block⟩; have hst := Lib.hid (DSt.append (x := kindB kd) (tmp := .cells #[.int .u8 (kd % 256)] 5) D0.out hne (kind_byte kd) rfl hown' ⟨hgrow.os, hgrow.tape, hgrow.output, hgrow.size, hgrow.block⟩ (by rcases hat with hat | hat; exact .inl hat.symm; exact .inr (by rw [hat]; simp [Value.ownBlock])))
      refine hK.out _ _ (keep_cell hgrow (by first | (simp; omega) | (simp <;> omega) | simp) HND.out (by first | (go_simp; exact hHeld) | go_simp | exact hHeld)) (fun hHeld => ?_)
      clear hK K
      (try simp only [Act.put, List.setIfInBounds_toArray, List.set_cons_zero, List.set_cons_succ, List.getElem_toArray, List.getElem_cons_succ, List.getElem_cons_zero])
      refine wpAnyH_take (i := 10) (oi := _) (v := ?_) rfl (by kernel_rfl) (by kernel_rfl) (by kernel_rfl) (fun _ _ _ h => h) (Or.inl ⟨by rfl, ?_⟩) (by assumption) ?_
      rotate_left
      focus (intro w' hSw; (try dsimp only at hSw); go_simp; try with_reducible rfl)
      (try simp only [Act.put, List.setIfInBounds_toArray, List.set_cons_zero, List.set_cons_succ, List.getElem_toArray, List.getElem_cons_succ, List.getElem_cons_zero])
      refine wpAnyH_take (i := 11) (oi := _) (v := ?_) rfl (by kernel_rfl) (by kernel_rfl) (by kernel_rfl) (fun _ _ _ h => h) (Or.inl ⟨by rfl, ?_⟩) (by assumption) ?_
      rotate_left
      focus (intro w' hSw; (try dsimp only at hSw); go_simp; try with_reducible rfl)
      (try simp only [Act.put, List.setIfInBounds_toArray, List.set_cons_zero, List.set_cons_succ, List.getElem_toArray, List.getElem_cons_succ, List.getElem_cons_zero])
      refine wpAnyH_ready (rs := [12]) (by kernel_rfl) (by simp) ?_
      refine AllReadyH.cons (o := _) rfl (fun K hK => ?_) AllReadyH.nil
      go_simp
      refine hK.out _ _ ((World.cell?_setCell_other _ _ _ _ (by intro h; simp only [Addr.mk.injEq] at h; omega)).trans hHeld) (fun hHeld => ?_)
      clear hK K
      (try simp only [Act.put, List.setIfInBounds_toArray, List.set_cons_zero, List.set_cons_succ, List.getElem_toArray, List.getElem_cons_succ, List.getElem_cons_zero])
      refine wpAnyH_done (by kernel_rfl) ?_ _
      go_wp2_with fail
      go_meet
      case rel => exact ⟨_, hst.out⟩
    case rest =>
      obtain ⟨v1, hD1⟩ := hcut
      have D1 := Lib.hid hD1
      clear hD1 D0 hc hf HNB HND HNW hl
      have hown : (ownB kd di db ds ps.length).length ≤ 100000000 := by have := HL.out; omega
      obtain ⟨L1, hL1⟩ : ∃ L1, l ++ [kindB kd] = L1 := ⟨_, rfl⟩
      have hl1 : L1.length ≤ 100000000 := by rw [← hL1, List.length_append]; have := HL.out; simp; omega
      have HL1 := Lib.hid hL1
      rw [hL1] at D1
      clear hL1
      obtain ⟨c0, c1, c2, c3, c4, hlt⟩ := cells5 D1.out.blk
      have hsz := D1.out.grow.size
      simp only [World.size_alloc] at hsz
      go_upto_block 0 with fail
      go_cut [] (fun wx => ∃ v2, DSt Bw w0.heap.size W.heap.size #[.int .i64 kd, .int .i64 di, .int .u64 db, .string ds, .slice p ps.length cap] (.slice q m c) (W.alloc (.cells #[.int .i64 kd, .int .i64 di, .int .u64 db, .string ds, .slice p ps.length cap] 25)) (L1 ++ ownB kd di db ds ps.length) v2 wx)
      case first =>
        by_cases k1 : kd = 1
        · subst k1
          go_wp2_with (go_at_call 39; refine (signed_any Bw w0.heap.size _ L1 di wc D1.out.box D1.out.row (by omega) HDI.out (by omega)).mono ?_; rintro e w2 ⟨v2, rfl, h1, h2, h3⟩; have D2 := Lib.hid (D1.out.post hne h1 h2 h3); have hs2 := h3.size; obtain ⟨e0, e1, e2, e3, e4, e5⟩ := cells5 D2.out.blk; clear h1 h2 h3)
          go_meet
          case rel =>
            refine ⟨v2, ?_⟩
            have h := D2.out
            rw [show ownB _ di db ds ps.length = numB (zig di) by simp [ownB]]
            skip
            exact h

        by_cases k2 : kd = 2
        · subst k2
          go_wp2_with (go_at_call 39; refine (signed_any Bw w0.heap.size _ L1 di wc D1.out.box D1.out.row (by omega) HDI.out (by omega)).mono ?_; rintro e w2 ⟨v2, rfl, h1, h2, h3⟩; have D2 := Lib.hid (D1.out.post hne h1 h2 h3); have hs2 := h3.size; obtain ⟨e0, e1, e2, e3, e4, e5⟩ := cells5 D2.out.blk; clear h1 h2 h3)
          go_meet
          case rel =>
            refine ⟨v2, ?_⟩
            have h := D2.out
            rw [show ownB _ di db ds ps.length = numB (zig di) by simp [ownB]]
            skip
            exact h

        by_cases k3 : kd = 3
        · subst k3
          go_wp2_with fail
          go_loopw [30] (fun s wr => ∃ (j : Nat) (v2 : Value), s = .int .i64 (j : Nat) ∧ j ≤ 8 ∧ Hid (DSt Bw w0.heap.size W.heap.size #[.int .i64 3, .int .i64 di, .int .u64 db, .string ds, .slice p ps.length cap] (.slice q m c) (W.alloc (.cells #[.int .i64 3, .int .i64 di, .int .u64 db, .string ds, .slice p ps.length cap] 25)) (L1 ++ leB db.toNat j) v2 wr)) (fun s _ => (8 - intOf s).toNat)
          case atStart => exact ⟨0, v1, rfl, by omega, by rw [leB, List.append_nil]; exact D1.out⟩
          case round =>
            obtain ⟨j, v2, rfl, hj, D2⟩ := hrel
            have hsz2 := D2.out.grow.size
            simp only [World.size_alloc] at hsz2
            have hl2 : (L1 ++ leB db.toNat j).length ≤ 100000010 := by rw [List.length_append, leB_len]; omega
            obtain ⟨q1, m1, e1, rfl⟩ := row_val D2.out.row
            have hc := D2.out.box.cell
            have hf := D2.out.box.frozen
            have hlb := D2.out.box.lt
            obtain ⟨x0, x1, x2, x3, x4, x5⟩ := cells5 D2.out.blk
            have HND : Hid (some W.heap.size ≠ (Value.slice q1 m1 e1).ownBlock) := not_row D2.out.blk (by decide) D2.out.row
            by_cases hj8 : j = 8
            · subst hj8
              go_wp2_with fail
              go_meet
              case rel =>
                refine ⟨.slice q1 m1 e1, ?_⟩
                rw [show ownB 3 di db ds ps.length = leB db.toNat 8 by simp [ownB]]
                exact D2.out
            · have hj7 : j < 8 := by omega
              obtain ⟨LJ, hLJ⟩ : ∃ LJ, L1 ++ leB db.toNat j = LJ := ⟨_, rfl⟩
              have HLJ := Lib.hid hLJ
              rw [hLJ] at D2 hl2
              clear hLJ
              have hjI : (j : Int) < 8 := by omega
              obtain ⟨S, hS⟩ : ∃ S, db / ((2 ^ (8 * j) : Nat) : Int) = S := ⟨_, rfl⟩
              have hsh : ∀ w', (Op.shift .shr .u64 db .i64 (IntKind.i64.wrap (8 * (j : Int)))).run Tryd.prog w' = .ok (.int .u64 S) w' := fun w' => by rw [run_shr8 _ _ _ hj7, hS]
              have HSB : Hid (bv (UInt8.ofNat (db.toNat / 2 ^ (8 * j) % 256)) = .int .u8 (S % 256)) := by rw [← hS]; exact shift_byte HDB.out.1 rfl
              clear hS
              have HNW : Hid (∀ i u, [Value.int .u8 (S % 256)][i]? = some u → (wr.alloc (.cells #[.int .u8 (S % 256)] 5)).cell? ((⟨wr.heap.size, 0, none⟩ : Addr).add i) = some u) := news_cell _ _ _
              go_upto_region 10 with fail
              refine wp_region_held_drew (S := fun w' => w'.cell? ⟨W.heap.size, 2, none⟩ = some (.int .u64 db)) (by kernel_rfl) (by go_simp) (fun hHeld => ?_)
              refine wpAnyH_take (i := 0) (oi := _) (v := ?_) rfl (by kernel_rfl) (by kernel_rfl) (by kernel_rfl) (fun _ _ _ h => h) (Or.inl ⟨by rfl, ?_⟩) (by assumption) ?_
              rotate_left
              focus (intro w' hSw; (try dsimp only at hSw); go_simp; try with_reducible rfl)
              (try simp only [Act.put, List.setIfInBounds_toArray, List.set_cons_zero, List.set_cons_succ, List.getElem_toArray, List.getElem_cons_succ, List.getElem_cons_zero])
              refine wpAnyH_take (i := 1) (oi := _) (v := ?_) rfl (by kernel_rfl) (by kernel_rfl) (by kernel_rfl) (fun _ _ _ h => h) (Or.inl ⟨by rfl, ?_⟩) (by assumption) ?_
              rotate_left
              focus (intro w' hSw; (try dsimp only at hSw); go_simp; try with_reducible rfl)
              (try simp only [Act.put, List.setIfInBounds_toArray, List.set_cons_zero, List.set_cons_succ, List.getElem_toArray, List.getElem_cons_succ, List.getElem_cons_zero])
              refine wpAnyH_take (i := 2) (oi := _) (v := ?_) rfl (by kernel_rfl) (by kernel_rfl) (by kernel_rfl) (fun _ _ _ h => h) (Or.inl ⟨by rfl, ?_⟩) (by assumption) ?_
              rotate_left
              focus (intro w' hSw; (try dsimp only at hSw); go_simp; try with_reducible rfl)
              (try simp only [Act.put, List.setIfInBounds_toArray, List.set_cons_zero, List.set_cons_succ, List.getElem_toArray, List.getElem_cons_succ, List.getElem_cons_zero])
              refine wpAnyH_take (i := 3) (oi := _) (v := ?_) rfl (by kernel_rfl) (by kernel_rfl) (by kernel_rfl) (fun _ _ _ h => h) (Or.inl ⟨by rfl, ?_⟩) (by assumption) ?_
              rotate_left
              focus (intro w' hSw; (try dsimp only at hSw); go_simp; try with_reducible rfl)
              (try simp only [Act.put, List.setIfInBounds_toArray, List.set_cons_zero, List.set_cons_succ, List.getElem_toArray, List.getElem_cons_succ, List.getElem_cons_zero])
              refine wpAnyH_take (i := 5) (oi := _) (v := ?_) rfl (by kernel_rfl) (by kernel_rfl) (by kernel_rfl) (fun _ _ _ h => h) (Or.inl ⟨by rfl, ?_⟩) (by assumption) ?_
              rotate_left
              focus (intro w' hSw; (try dsimp only at hSw); go_simp; try with_reducible rfl)
              (try simp only [Act.put, List.setIfInBounds_toArray, List.set_cons_zero, List.set_cons_succ, List.getElem_toArray, List.getElem_cons_succ, List.getElem_cons_zero])
              refine wpAnyH_take (i := 6) (oi := _) (v := ?_) rfl (by kernel_rfl) (by kernel_rfl) (by kernel_rfl) (fun _ _ _ h => h) (Or.inl ⟨by rfl, ?_⟩) (by assumption) ?_
              rotate_left
              focus (intro w' hSw; (try dsimp only at hSw); go_simp; try with_reducible rfl)
              (try simp only [Act.put, List.setIfInBounds_toArray, List.set_cons_zero, List.set_cons_succ, List.getElem_toArray, List.getElem_cons_succ, List.getElem_cons_zero])
              refine wpAnyH_take (i := 7) (oi := _) (v := ?_) rfl (by kernel_rfl) (by kernel_rfl) (by kernel_rfl) (fun _ _ _ h => h) (Or.inl ⟨by rfl, ?_⟩) (by assumption) ?_
              rotate_left
              focus (intro w' hSw; (try dsimp only at hSw); go_simp; try with_reducible rfl)
              (try simp only [Act.put, List.setIfInBounds_toArray, List.set_cons_zero, List.set_cons_succ, List.getElem_toArray, List.getElem_cons_succ, List.getElem_cons_zero])
              refine wpAnyH_take (i := 8) (oi := _) (v := ?_) rfl (by kernel_rfl) (by kernel_rfl) (by kernel_rfl) (fun _ _ _ h => h) (Or.inl ⟨by rfl, ?_⟩) (by assumption) ?_
              rotate_left
              focus (intro w' hSw; (try dsimp only at hSw); go_simp; try with_reducible rfl)
              (try simp only [Act.put, List.setIfInBounds_toArray, List.set_cons_zero, List.set_cons_succ, List.getElem_toArray, List.getElem_cons_succ, List.getElem_cons_zero])
              refine wpAnyH_take (i := 9) (oi := _) (v := ?_) rfl (by kernel_rfl) (by kernel_rfl) (by kernel_rfl) (fun _ _ _ h => h) (Or.inl ⟨by rfl, ?_⟩) (by assumption) ?_
              rotate_left
              focus (intro w' hSw; (try dsimp only at hSw); go_simp; try with_reducible rfl)
              (try simp only [Act.put, List.setIfInBounds_toArray, List.set_cons_zero, List.set_cons_succ, List.getElem_toArray, List.getElem_cons_succ, List.getElem_cons_zero])
              refine wpAnyH_take (i := 10) (oi := _) (v := ?_) rfl (by kernel_rfl) (by kernel_rfl) (by kernel_rfl) (fun _ _ _ h => h) (Or.inl ⟨by rfl, ?_⟩) (by assumption) ?_
              rotate_left
              focus (intro w' hSw; (try dsimp only at hSw); go_simp; try with_reducible rfl)
              (try simp only [Act.put, List.setIfInBounds_toArray, List.set_cons_zero, List.set_cons_succ, List.getElem_toArray, List.getElem_cons_succ, List.getElem_cons_zero])
              refine wpAnyH_ready (rs := [4, 11]) (by kernel_rfl) (by simp) ?_
              refine AllReadyH.cons (o := _) rfl (fun K hK => ?_) ?_
              · go_simp
                refine hK.out _ _ (by exact hHeld) (fun hHeld => ?_)
                clear hK K
                (try simp only [Act.put, List.setIfInBounds_toArray, List.set_cons_zero, List.set_cons_succ, List.getElem_toArray, List.getElem_cons_succ, List.getElem_cons_zero])
                refine wpAnyH_ready (rs := [11]) (by kernel_rfl) (by simp) ?_
                refine AllReadyH.cons (o := _) rfl (fun K hK => ?_) AllReadyH.nil
                go_simp
                refine hK.out _ _ (by first | (go_simp; exact hHeld) | go_simp) (fun hHeld => ?_)
                clear hK K
                (try simp only [Act.put, List.setIfInBounds_toArray, List.set_cons_zero, List.set_cons_succ, List.getElem_toArray, List.getElem_cons_succ, List.getElem_cons_zero])
                refine wpAnyH_ready (rs := [12]) (by kernel_rfl) (by simp) ?_
                refine AllReadyH.cons (o := _) rfl (fun K hK => ?_) AllReadyH.nil
                (refine step_append_lies _ (by rfl) _ _ _ (by rfl) w0.heap.size 5 i0 (.int .u8 0) 1 1 Tryd.underlying26 hi hz0 hz1 hz2 rfl (by decide) (.slice q1 m1 e1) LJ.length (LJ.map bv) (by rfl) (by exact D2.out.row.alloc _) ⟨wr.heap.size, 0, none⟩ 1 1 [.int .u8 (S % 256)] (by rfl) rfl HNW.out (by simp [Value.oneCell']) (by decide) (by unfold maxLen; omega) (by omega) (by simp; omega) (wr.heap.size + 1) (by simp) ?_); intro g2 cap2 w1 hown' hgrow hat hlt2; obtain ⟨hc3, hf3, hl3⟩ := DSt.appendBox (tmp := .cells #[.int .u8 (S % 256)] 5) D2.out ⟨hgrow.os, hgrow.tape, hgrow.output, hgrow.size, hgrow.block⟩; have hst := Lib.hid (DSt.append (x := (UInt8.ofNat (db.toNat / 2 ^ (8 * j) % 256))) (tmp := .cells #[.int .u8 (S % 256)] 5) D2.out hne (HSB.out) rfl hown' ⟨hgrow.os, hgrow.tape, hgrow.output, hgrow.size, hgrow.block⟩ (by rcases hat with hat | hat; exact .inl hat.symm; exact .inr (by rw [hat]; simp [Value.ownBlock])))
                refine hK.out _ _ (keep_cell hgrow (by first | (simp; omega) | (simp <;> omega) | simp) HND.out (by first | (go_simp; exact hHeld) | go_simp | exact hHeld)) (fun hHeld => ?_)
                clear hK K
                (try simp only [Act.put, List.setIfInBounds_toArray, List.set_cons_zero, List.set_cons_succ, List.getElem_toArray, List.getElem_cons_succ, List.getElem_cons_zero])
                refine wpAnyH_take (i := 13) (oi := _) (v := ?_) rfl (by kernel_rfl) (by kernel_rfl) (by kernel_rfl) (fun _ _ _ h => h) (Or.inl ⟨by rfl, ?_⟩) (by assumption) ?_
                rotate_left
                focus (intro w' hSw; (try dsimp only at hSw); go_simp; try with_reducible rfl)
                (try simp only [Act.put, List.setIfInBounds_toArray, List.set_cons_zero, List.set_cons_succ, List.getElem_toArray, List.getElem_cons_succ, List.getElem_cons_zero])
                refine wpAnyH_take (i := 14) (oi := _) (v := ?_) rfl (by kernel_rfl) (by kernel_rfl) (by kernel_rfl) (fun _ _ _ h => h) (Or.inl ⟨by rfl, ?_⟩) (by assumption) ?_
                rotate_left
                focus (intro w' hSw; (try dsimp only at hSw); go_simp; try with_reducible rfl)
                (try simp only [Act.put, List.setIfInBounds_toArray, List.set_cons_zero, List.set_cons_succ, List.getElem_toArray, List.getElem_cons_succ, List.getElem_cons_zero])
                refine wpAnyH_ready (rs := [15]) (by kernel_rfl) (by simp) ?_
                refine AllReadyH.cons (o := _) rfl (fun K hK => ?_) AllReadyH.nil
                go_simp
                refine hK.out _ _ ((World.cell?_setCell_other _ _ _ _ (by intro h; simp only [Addr.mk.injEq] at h; omega)).trans hHeld) (fun hHeld => ?_)
                clear hK K
                (try simp only [Act.put, List.setIfInBounds_toArray, List.set_cons_zero, List.set_cons_succ, List.getElem_toArray, List.getElem_cons_succ, List.getElem_cons_zero])
                refine wpAnyH_done (by kernel_rfl) ?_ _
                go_wp2_with fail
                go_roundw
                case rel => exact ⟨j + 1, _, by go_num, by omega, by rw [leB, ← List.append_assoc, HLJ.out]; exact hst.out⟩
                case measure => simp [intOf]; omega
              refine AllReadyH.cons (o := _) rfl (fun K hK => ?_) AllReadyH.nil
              go_simp
              refine hK.out _ _ (by first | (go_simp; exact hHeld) | go_simp) (fun hHeld => ?_)
              clear hK K
              (try simp only [Act.put, List.setIfInBounds_toArray, List.set_cons_zero, List.set_cons_succ, List.getElem_toArray, List.getElem_cons_succ, List.getElem_cons_zero])
              refine wpAnyH_ready (rs := [4]) (by kernel_rfl) (by simp) ?_
              refine AllReadyH.cons (o := _) rfl (fun K hK => ?_) AllReadyH.nil
              go_simp
              refine hK.out _ _ (by exact hHeld) (fun hHeld => ?_)
              clear hK K
              (try simp only [Act.put, List.setIfInBounds_toArray, List.set_cons_zero, List.set_cons_succ, List.getElem_toArray, List.getElem_cons_succ, List.getElem_cons_zero])
              refine wpAnyH_ready (rs := [12]) (by kernel_rfl) (by simp) ?_
              refine AllReadyH.cons (o := _) rfl (fun K hK => ?_) AllReadyH.nil
              (refine step_append_lies _ (by rfl) _ _ _ (by rfl) w0.heap.size 5 i0 (.int .u8 0) 1 1 Tryd.underlying26 hi hz0 hz1 hz2 rfl (by decide) (.slice q1 m1 e1) LJ.length (LJ.map bv) (by rfl) (by exact D2.out.row.alloc _) ⟨wr.heap.size, 0, none⟩ 1 1 [.int .u8 (S % 256)] (by rfl) rfl HNW.out (by simp [Value.oneCell']) (by decide) (by unfold maxLen; omega) (by omega) (by simp; omega) (wr.heap.size + 1) (by simp) ?_); intro g2 cap2 w1 hown' hgrow hat hlt2; obtain ⟨hc3, hf3, hl3⟩ := DSt.appendBox (tmp := .cells #[.int .u8 (S % 256)] 5) D2.out ⟨hgrow.os, hgrow.tape, hgrow.output, hgrow.size, hgrow.block⟩; have hst := Lib.hid (DSt.append (x := (UInt8.ofNat (db.toNat / 2 ^ (8 * j) % 256))) (tmp := .cells #[.int .u8 (S % 256)] 5) D2.out hne (HSB.out) rfl hown' ⟨hgrow.os, hgrow.tape, hgrow.output, hgrow.size, hgrow.block⟩ (by rcases hat with hat | hat; exact .inl hat.symm; exact .inr (by rw [hat]; simp [Value.ownBlock])))
              refine hK.out _ _ (keep_cell hgrow (by first | (simp; omega) | (simp <;> omega) | simp) HND.out (by first | (go_simp; exact hHeld) | go_simp | exact hHeld)) (fun hHeld => ?_)
              clear hK K
              (try simp only [Act.put, List.setIfInBounds_toArray, List.set_cons_zero, List.set_cons_succ, List.getElem_toArray, List.getElem_cons_succ, List.getElem_cons_zero])
              refine wpAnyH_take (i := 13) (oi := _) (v := ?_) rfl (by kernel_rfl) (by kernel_rfl) (by kernel_rfl) (fun _ _ _ h => h) (Or.inl ⟨by rfl, ?_⟩) (by assumption) ?_
              rotate_left
              focus (intro w' hSw; (try dsimp only at hSw); go_simp; try with_reducible rfl)
              (try simp only [Act.put, List.setIfInBounds_toArray, List.set_cons_zero, List.set_cons_succ, List.getElem_toArray, List.getElem_cons_succ, List.getElem_cons_zero])
              refine wpAnyH_take (i := 14) (oi := _) (v := ?_) rfl (by kernel_rfl) (by kernel_rfl) (by kernel_rfl) (fun _ _ _ h => h) (Or.inl ⟨by rfl, ?_⟩) (by assumption) ?_
              rotate_left
              focus (intro w' hSw; (try dsimp only at hSw); go_simp; try with_reducible rfl)
              (try simp only [Act.put, List.setIfInBounds_toArray, List.set_cons_zero, List.set_cons_succ, List.getElem_toArray, List.getElem_cons_succ, List.getElem_cons_zero])
              refine wpAnyH_ready (rs := [15]) (by kernel_rfl) (by simp) ?_
              refine AllReadyH.cons (o := _) rfl (fun K hK => ?_) AllReadyH.nil
              go_simp
              refine hK.out _ _ ((World.cell?_setCell_other _ _ _ _ (by intro h; simp only [Addr.mk.injEq] at h; omega)).trans hHeld) (fun hHeld => ?_)
              clear hK K
              (try simp only [Act.put, List.setIfInBounds_toArray, List.set_cons_zero, List.set_cons_succ, List.getElem_toArray, List.getElem_cons_succ, List.getElem_cons_zero])
              refine wpAnyH_done (by kernel_rfl) ?_ _
              go_wp2_with fail
              go_roundw
              case rel => exact ⟨j + 1, _, by go_num, by omega, by rw [leB, ← List.append_assoc, HLJ.out]; exact hst.out⟩
              case measure => simp [intOf]; omega
        by_cases k4 : kd = 4
        · subst k4
          have hdsl : ds.size ≤ 100000000 := by have := hown; simp [ownB] at this; omega
          go_wp2_with (go_at_call 40; refine (text_any Bw w0.heap.size _ L1 ds wc D1.out.box D1.out.row (by omega) hdsl (by omega)).mono ?_; rintro e w2 ⟨v2, rfl, h1, h2, h3⟩; have D2 := Lib.hid (D1.out.post hne h1 h2 h3); clear h1 h2 h3)
          go_meet
          case rel =>
            refine ⟨v2, ?_⟩
            have h := D2.out
            rw [show ownB _ di db ds ps.length = numB ds.size ++ ds.data.toList by simp [ownB]]
            skip
            exact h

        by_cases k5 : kd = 5
        · subst k5
          have hdsl : ds.size ≤ 100000000 := by have := hown; simp [ownB] at this; omega
          go_wp2_with (go_at_call 40; refine (text_any Bw w0.heap.size _ L1 ds wc D1.out.box D1.out.row (by omega) hdsl (by omega)).mono ?_; rintro e w2 ⟨v2, rfl, h1, h2, h3⟩; have D2 := Lib.hid (D1.out.post hne h1 h2 h3); clear h1 h2 h3)
          go_meet
          case rel =>
            refine ⟨v2, ?_⟩
            have h := D2.out
            rw [show ownB _ di db ds ps.length = numB ds.size ++ ds.data.toList by simp [ownB]]
            skip
            exact h

        by_cases k7 : kd = 7
        · subst k7
          have hdsl : ds.size ≤ 100000000 := by have := hown; simp [ownB] at this; omega
          go_wp2_with (go_at_call 40; refine (text_any Bw w0.heap.size _ L1 ds wc D1.out.box D1.out.row (by omega) hdsl (by omega)).mono ?_; rintro e w2 ⟨v2, rfl, h1, h2, h3⟩; have D2 := Lib.hid (D1.out.post hne h1 h2 h3); clear h1 h2 h3)
          go_meet
          case rel =>
            refine ⟨v2, ?_⟩
            have h := D2.out
            rw [show ownB _ di db ds ps.length = numB ds.size ++ ds.data.toList by simp [ownB]]
            skip
            exact h

        by_cases k6 : kd = 6
        · subst k6
          obtain ⟨q1, m1, e1, rfl⟩ := row_val D1.out.row
          have hc := D1.out.box.cell
          have hf := D1.out.box.frozen
          have hlb := D1.out.box.lt
          have HND : Hid (some W.heap.size ≠ (Value.slice q1 m1 e1).ownBlock) := not_row D1.out.blk (by decide) D1.out.row
          have HNW : Hid (∀ j u, [Value.int .u8 (di % 256)][j]? = some u → (wc.alloc (.cells #[.int .u8 (di % 256)] 5)).cell? ((⟨wc.heap.size, 0, none⟩ : Addr).add j) = some u) := news_cell _ _ _
          go_upto_region 17 with fail
          refine wp_region_held_drew (S := fun w' => w'.cell? ⟨W.heap.size, 1, none⟩ = some (.int .i64 di)) (by kernel_rfl) (by go_simp) (fun hHeld => ?_)
          refine wpAnyH_take (i := 0) (oi := _) (v := ?_) rfl (by kernel_rfl) (by kernel_rfl) (by kernel_rfl) (fun _ _ _ h => h) (Or.inl ⟨by rfl, ?_⟩) (by assumption) ?_
          rotate_left
          focus (intro w' hSw; (try dsimp only at hSw); go_simp; try with_reducible rfl)
          (try simp only [Act.put, List.setIfInBounds_toArray, List.set_cons_zero, List.set_cons_succ, List.getElem_toArray, List.getElem_cons_succ, List.getElem_cons_zero])
          refine wpAnyH_take (i := 1) (oi := _) (v := ?_) rfl (by kernel_rfl) (by kernel_rfl) (by kernel_rfl) (fun _ _ _ h => h) (Or.inl ⟨by rfl, ?_⟩) (by assumption) ?_
          rotate_left
          focus (intro w' hSw; (try dsimp only at hSw); go_simp; try with_reducible rfl)
          (try simp only [Act.put, List.setIfInBounds_toArray, List.set_cons_zero, List.set_cons_succ, List.getElem_toArray, List.getElem_cons_succ, List.getElem_cons_zero])
          refine wpAnyH_take (i := 2) (oi := _) (v := ?_) rfl (by kernel_rfl) (by kernel_rfl) (by kernel_rfl) (fun _ _ _ h => h) (Or.inl ⟨by rfl, ?_⟩) (by assumption) ?_
          rotate_left
          focus (intro w' hSw; (try dsimp only at hSw); go_simp; try with_reducible rfl)
          (try simp only [Act.put, List.setIfInBounds_toArray, List.set_cons_zero, List.set_cons_succ, List.getElem_toArray, List.getElem_cons_succ, List.getElem_cons_zero])
          refine wpAnyH_take (i := 3) (oi := _) (v := ?_) rfl (by kernel_rfl) (by kernel_rfl) (by kernel_rfl) (fun _ _ _ h => h) (Or.inl ⟨by rfl, ?_⟩) (by assumption) ?_
          rotate_left
          focus (intro w' hSw; (try dsimp only at hSw); go_simp; try with_reducible rfl)
          (try simp only [Act.put, List.setIfInBounds_toArray, List.set_cons_zero, List.set_cons_succ, List.getElem_toArray, List.getElem_cons_succ, List.getElem_cons_zero])
          refine wpAnyH_take (i := 5) (oi := _) (v := ?_) rfl (by kernel_rfl) (by kernel_rfl) (by kernel_rfl) (fun _ _ _ h => h) (Or.inl ⟨by rfl, ?_⟩) (by assumption) ?_
          rotate_left
          focus (intro w' hSw; (try dsimp only at hSw); go_simp; try with_reducible rfl)
          (try simp only [Act.put, List.setIfInBounds_toArray, List.set_cons_zero, List.set_cons_succ, List.getElem_toArray, List.getElem_cons_succ, List.getElem_cons_zero])
          refine wpAnyH_take (i := 6) (oi := _) (v := ?_) rfl (by kernel_rfl) (by kernel_rfl) (by kernel_rfl) (fun _ _ _ h => h) (Or.inl ⟨by rfl, ?_⟩) (by assumption) ?_
          rotate_left
          focus (intro w' hSw; (try dsimp only at hSw); go_simp; try with_reducible rfl)
          (try simp only [Act.put, List.setIfInBounds_toArray, List.set_cons_zero, List.set_cons_succ, List.getElem_toArray, List.getElem_cons_succ, List.getElem_cons_zero])
          refine wpAnyH_take (i := 7) (oi := _) (v := ?_) rfl (by kernel_rfl) (by kernel_rfl) (by kernel_rfl) (fun _ _ _ h => h) (Or.inl ⟨by rfl, ?_⟩) (by assumption) ?_
          rotate_left
          focus (intro w' hSw; (try dsimp only at hSw); go_simp; try with_reducible rfl)
          (try simp only [Act.put, List.setIfInBounds_toArray, List.set_cons_zero, List.set_cons_succ, List.getElem_toArray, List.getElem_cons_succ, List.getElem_cons_zero])
          refine wpAnyH_ready (rs := [4, 8]) (by kernel_rfl) (by simp) ?_
          refine AllReadyH.cons (o := _) rfl (fun K hK => ?_) ?_
          · go_simp
            refine hK.out _ _ (by exact hHeld) (fun hHeld => ?_)
            clear hK K
            (try simp only [Act.put, List.setIfInBounds_toArray, List.set_cons_zero, List.set_cons_succ, List.getElem_toArray, List.getElem_cons_succ, List.getElem_cons_zero])
            refine wpAnyH_ready (rs := [8]) (by kernel_rfl) (by simp) ?_
            refine AllReadyH.cons (o := _) rfl (fun K hK => ?_) AllReadyH.nil
            go_simp
            refine hK.out _ _ (by first | (go_simp; exact hHeld) | go_simp) (fun hHeld => ?_)
            clear hK K
            (try simp only [Act.put, List.setIfInBounds_toArray, List.set_cons_zero, List.set_cons_succ, List.getElem_toArray, List.getElem_cons_succ, List.getElem_cons_zero])
            refine wpAnyH_ready (rs := [9]) (by kernel_rfl) (by simp) ?_
            refine AllReadyH.cons (o := _) rfl (fun K hK => ?_) AllReadyH.nil
            (refine step_append_lies _ (by rfl) _ _ _ (by rfl) w0.heap.size 5 i0 (.int .u8 0) 1 1 Tryd.underlying26 hi hz0 hz1 hz2 rfl (by decide) (.slice q1 m1 e1) L1.length (L1.map bv) (by rfl) (by exact D1.out.row.alloc _) ⟨wc.heap.size, 0, none⟩ 1 1 [.int .u8 (di % 256)] (by rfl) rfl HNW.out (by simp [Value.oneCell']) (by decide) (by unfold maxLen; omega) (by omega) (by simp; omega) (wc.heap.size + 1) (by simp) ?_); intro g2 cap2 w1 hown' hgrow hat hlt2; obtain ⟨hc3, hf3, hl3⟩ := DSt.appendBox (tmp := .cells #[.int .u8 (di % 256)] 5) D1.out ⟨hgrow.os, hgrow.tape, hgrow.output, hgrow.size, hgrow.block⟩; have hst := Lib.hid (DSt.append (x := kindB di) (tmp := .cells #[.int .u8 (di % 256)] 5) D1.out hne (kind_byte di) rfl hown' ⟨hgrow.os, hgrow.tape, hgrow.output, hgrow.size, hgrow.block⟩ (by rcases hat with hat | hat; exact .inl hat.symm; exact .inr (by rw [hat]; simp [Value.ownBlock])))
            refine hK.out _ _ (keep_cell hgrow (by first | (simp; omega) | (simp <;> omega) | simp) HND.out (by first | (go_simp; exact hHeld) | go_simp | exact hHeld)) (fun hHeld => ?_)
            clear hK K
            (try simp only [Act.put, List.setIfInBounds_toArray, List.set_cons_zero, List.set_cons_succ, List.getElem_toArray, List.getElem_cons_succ, List.getElem_cons_zero])
            refine wpAnyH_take (i := 10) (oi := _) (v := ?_) rfl (by kernel_rfl) (by kernel_rfl) (by kernel_rfl) (fun _ _ _ h => h) (Or.inl ⟨by rfl, ?_⟩) (by assumption) ?_
            rotate_left
            focus (intro w' hSw; (try dsimp only at hSw); go_simp; try with_reducible rfl)
            (try simp only [Act.put, List.setIfInBounds_toArray, List.set_cons_zero, List.set_cons_succ, List.getElem_toArray, List.getElem_cons_succ, List.getElem_cons_zero])
            refine wpAnyH_take (i := 11) (oi := _) (v := ?_) rfl (by kernel_rfl) (by kernel_rfl) (by kernel_rfl) (fun _ _ _ h => h) (Or.inl ⟨by rfl, ?_⟩) (by assumption) ?_
            rotate_left
            focus (intro w' hSw; (try dsimp only at hSw); go_simp; try with_reducible rfl)
            (try simp only [Act.put, List.setIfInBounds_toArray, List.set_cons_zero, List.set_cons_succ, List.getElem_toArray, List.getElem_cons_succ, List.getElem_cons_zero])
            refine wpAnyH_ready (rs := [12]) (by kernel_rfl) (by simp) ?_
            refine AllReadyH.cons (o := _) rfl (fun K hK => ?_) AllReadyH.nil
            go_simp
            refine hK.out _ _ ((World.cell?_setCell_other _ _ _ _ (by intro h; simp only [Addr.mk.injEq] at h; omega)).trans hHeld) (fun hHeld => ?_)
            clear hK K
            (try simp only [Act.put, List.setIfInBounds_toArray, List.set_cons_zero, List.set_cons_succ, List.getElem_toArray, List.getElem_cons_succ, List.getElem_cons_zero])
            refine wpAnyH_done (by kernel_rfl) ?_ _
            go_wp2_with fail
            go_meet
            case rel => exact ⟨_, hst.out⟩
          refine AllReadyH.cons (o := _) rfl (fun K hK => ?_) AllReadyH.nil
          go_simp
          refine hK.out _ _ (by first | (go_simp; exact hHeld) | go_simp) (fun hHeld => ?_)
          clear hK K
          (try simp only [Act.put, List.setIfInBounds_toArray, List.set_cons_zero, List.set_cons_succ, List.getElem_toArray, List.getElem_cons_succ, List.getElem_cons_zero])
          refine wpAnyH_ready (rs := [4]) (by kernel_rfl) (by simp) ?_
          refine AllReadyH.cons (o := _) rfl (fun K hK => ?_) AllReadyH.nil
          go_simp
          refine hK.out _ _ (by exact hHeld) (fun hHeld => ?_)
          clear hK K
          (try simp only [Act.put, List.setIfInBounds_toArray, List.set_cons_zero, List.set_cons_succ, List.getElem_toArray, List.getElem_cons_succ, List.getElem_cons_zero])
          refine wpAnyH_ready (rs := [9]) (by kernel_rfl) (by simp) ?_
          refine AllReadyH.cons (o := _) rfl (fun K hK => ?_) AllReadyH.nil
          (refine step_append_lies _ (by rfl) _ _ _ (by rfl) w0.heap.size 5 i0 (.int .u8 0) 1 1 Tryd.underlying26 hi hz0 hz1 hz2 rfl (by decide) (.slice q1 m1 e1) L1.length (L1.map bv) (by rfl) (by exact D1.out.row.alloc _) ⟨wc.heap.size, 0, none⟩ 1 1 [.int .u8 (di % 256)] (by rfl) rfl HNW.out (by simp [Value.oneCell']) (by decide) (by unfold maxLen; omega) (by omega) (by simp; omega) (wc.heap.size + 1) (by simp) ?_); intro g2 cap2 w1 hown' hgrow hat hlt2; obtain ⟨hc3, hf3, hl3⟩ := DSt.appendBox (tmp := .cells #[.int .u8 (di % 256)] 5) D1.out ⟨hgrow.os, hgrow.tape, hgrow.output, hgrow.size, hgrow.block⟩; have hst := Lib.hid (DSt.append (x := kindB di) (tmp := .cells #[.int .u8 (di % 256)] 5) D1.out hne (kind_byte di) rfl hown' ⟨hgrow.os, hgrow.tape, hgrow.output, hgrow.size, hgrow.block⟩ (by rcases hat with hat | hat; exact .inl hat.symm; exact .inr (by rw [hat]; simp [Value.ownBlock])))
          refine hK.out _ _ (keep_cell hgrow (by first | (simp; omega) | (simp <;> omega) | simp) HND.out (by first | (go_simp; exact hHeld) | go_simp | exact hHeld)) (fun hHeld => ?_)
          clear hK K
          (try simp only [Act.put, List.setIfInBounds_toArray, List.set_cons_zero, List.set_cons_succ, List.getElem_toArray, List.getElem_cons_succ, List.getElem_cons_zero])
          refine wpAnyH_take (i := 10) (oi := _) (v := ?_) rfl (by kernel_rfl) (by kernel_rfl) (by kernel_rfl) (fun _ _ _ h => h) (Or.inl ⟨by rfl, ?_⟩) (by assumption) ?_
          rotate_left
          focus (intro w' hSw; (try dsimp only at hSw); go_simp; try with_reducible rfl)
          (try simp only [Act.put, List.setIfInBounds_toArray, List.set_cons_zero, List.set_cons_succ, List.getElem_toArray, List.getElem_cons_succ, List.getElem_cons_zero])
          refine wpAnyH_take (i := 11) (oi := _) (v := ?_) rfl (by kernel_rfl) (by kernel_rfl) (by kernel_rfl) (fun _ _ _ h => h) (Or.inl ⟨by rfl, ?_⟩) (by assumption) ?_
          rotate_left
          focus (intro w' hSw; (try dsimp only at hSw); go_simp; try with_reducible rfl)
          (try simp only [Act.put, List.setIfInBounds_toArray, List.set_cons_zero, List.set_cons_succ, List.getElem_toArray, List.getElem_cons_succ, List.getElem_cons_zero])
          refine wpAnyH_ready (rs := [12]) (by kernel_rfl) (by simp) ?_
          refine AllReadyH.cons (o := _) rfl (fun K hK => ?_) AllReadyH.nil
          go_simp
          refine hK.out _ _ ((World.cell?_setCell_other _ _ _ _ (by intro h; simp only [Addr.mk.injEq] at h; omega)).trans hHeld) (fun hHeld => ?_)
          clear hK K
          (try simp only [Act.put, List.setIfInBounds_toArray, List.set_cons_zero, List.set_cons_succ, List.getElem_toArray, List.getElem_cons_succ, List.getElem_cons_zero])
          refine wpAnyH_done (by kernel_rfl) ?_ _
          go_wp2_with fail
          go_meet
          case rel => exact ⟨_, hst.out⟩

        by_cases k10 : kd = 10
        · subst k10
          have hdsl : ds.size ≤ 100000000 := by have := hown; simp [ownB] at this; omega
          have hzl : L1.length + (numB (zig di)).length ≤ 100000000 := by have := HL.out; have h2 := congrArg List.length HL1.out; simp [ownB] at this h2; omega
          go_wp2_with (first | (go_at_call 39; refine (signed_any Bw w0.heap.size _ L1 di wc D1.out.box D1.out.row (by omega) HDI.out (by omega)).mono ?_; rintro e w2 ⟨v2, rfl, h1, h2, h3⟩; have D2 := Lib.hid (D1.out.post hne h1 h2 h3); have hs2 := h3.size; obtain ⟨e0, e1, e2, e3, e4, e5⟩ := cells5 D2.out.blk; clear h1 h2 h3) | (go_at_call 40; refine (text_any Bw w0.heap.size _ (L1 ++ numB (zig di)) ds w2 D2.out.box D2.out.row (by omega) hdsl (by rw [List.length_append]; omega)).mono ?_; rintro e w3 ⟨v3, rfl, h1, h2, h3⟩; have D3 := Lib.hid (D2.out.post hne h1 h2 h3); clear h1 h2 h3))
          go_meet
          case rel =>
            refine ⟨v3, ?_⟩
            have h := D3.out
            rw [show ownB _ di db ds ps.length = numB (zig di) ++ (numB ds.size ++ ds.data.toList) by simp [ownB]]
            rw [← List.append_assoc]
            exact h

        by_cases k11 : kd = 11
        · subst k11
          have hx1 : (di % 18446744073709551616).toNat < 18446744073709551616 := by omega
          have hxw : IntKind.u64.wrap di = (((di % 18446744073709551616).toNat : Nat) : Int) := by rw [wrap64u]; omega
          obtain ⟨X, hX⟩ : ∃ X, (di % 18446744073709551616).toNat = X := ⟨_, rfl⟩
          rw [hX] at hx1 hxw
          have HX := Lib.hid hX
          clear hX
          go_wp2_with (go_at_call 41; refine (number_any Bw w0.heap.size _ L1 X wc D1.out.box D1.out.row (by omega) hx1 (by omega)).mono ?_; rintro e w2 ⟨v2, rfl, h1, h2, h3⟩; have D2 := Lib.hid (D1.out.post hne h1 h2 h3); clear h1 h2 h3)
          rw [HX.out.symm] at D2
          go_meet
          case rel =>
            refine ⟨v2, ?_⟩
            have h := D2.out
            rw [show ownB _ di db ds ps.length = numB (di % 18446744073709551616).toNat by simp [ownB]]
            skip
            exact h

        by_cases k8 : kd = 8
        · subst k8
          have hx1 : ps.length < 18446744073709551616 := by omega
          go_wp2_with (go_at_call 41; refine (number_any Bw w0.heap.size _ L1 ps.length wc D1.out.box D1.out.row (by omega) hx1 (by omega)).mono ?_; rintro e w2 ⟨v2, rfl, h1, h2, h3⟩; have D2 := Lib.hid (D1.out.post hne h1 h2 h3); clear h1 h2 h3)
          go_meet
          case rel =>
            refine ⟨v2, ?_⟩
            have h := D2.out
            rw [show ownB _ di db ds ps.length = numB ps.length by simp [ownB]]
            skip
            exact h

        have b1 : (kd == 1) = false := by simpa using k1
        have b2 : (kd == 2) = false := by simpa using k2
        have b3 : (kd == 3) = false := by simpa using k3
        have b4 : (kd == 4) = false := by simpa using k4
        have b5 : (kd == 5) = false := by simpa using k5
        have b6 : (kd == 6) = false := by simpa using k6
        have b7 : (kd == 7) = false := by simpa using k7
        have b8 : (kd == 8) = false := by simpa using k8
        have b10 : (kd == 10) = false := by simpa using k10
        have b11 : (kd == 11) = false := by simpa using k11
        go_wp2_with fail
        go_meet
        case rel =>
          refine ⟨v1, ?_⟩
          rw [show ownB kd di db ds ps.length = [] by simp [ownB, k1, k2, k3, k4, k5, k6, k7, k8, k10, k11], List.append_nil]
          exact D1.out
      case rest =>
        obtain ⟨v2, hD2⟩ := hcut
        have D2 := Lib.hid hD2
        clear hD2 D1 c0 c1 c2 c3 c4 hlt hsz hown hl1
        obtain ⟨L2, hL2⟩ : ∃ L2, L1 ++ ownB kd di db ds ps.length = L2 := ⟨_, rfl⟩
        have HL2 := Lib.hid hL2
        rw [hL2] at D2
        clear hL2
        obtain ⟨c0, c1, c2, c3, c4, hlt⟩ := cells5 D2.out.blk
        have hsz := D2.out.grow.size
        simp only [World.size_alloc] at hsz
        go_wp2_with fail
        go_loopw [99] (fun s wr => ∃ (j : Nat) (v3 : Value), s = .int .i64 (j : Nat) ∧ j ≤ ps.length ∧ Hid (DSt Bw w0.heap.size W.heap.size #[.int .i64 kd, .int .i64 di, .int .u64 db, .string ds, .slice p ps.length cap] (.slice q m c) (W.alloc (.cells #[.int .i64 kd, .int .i64 di, .int .u64 db, .string ds, .slice p ps.length cap] 25)) (L2 ++ encs (ps.take j)) v3 wr)) (fun s _ => (ps.length - intOf s).toNat)
        case atStart => exact ⟨0, v2, rfl, by omega, by rw [List.take_zero, encs, List.append_nil]; exact D2.out⟩
        case round =>
          obtain ⟨j, v3, rfl, hj, D3⟩ := hrel
          by_cases hjn : j = ps.length
          · subst hjn
            go_wp2_with fail
            refine bodyPost_end (results_none rfl _ _ _) rfl ?_
            rw [← HPP.out]
            refine ⟨v3, rfl, D3.out.box, ?_, D3.out.grow.ofAlloc⟩
            have h := D3.out.row
            rw [← HL2.out, ← HL1.out, List.take_length] at h
            simp only [enc]
            simpa using h
          · obtain ⟨t, ht⟩ : ∃ t, ps[j]? = some t := ⟨_, List.getElem?_eq_getElem (by omega)⟩
            obtain ⟨b, o, kd', di', db', ds', q', m', c', l', rfl, hbl, rfl, y0, y1, y2, y3, y4, hD'⟩ := HD.out.part ht
            have HBr : Hid (Below w0.heap.size w0 wr) := D3.out.grow.below (HB.out.alloc (by omega) _) (by simp; omega) (fun k e => by injection e with e; omega) HV.out
            have hlb := HBr.out.size
            have z0 := (HBr.out.cell (p := ⟨b, o + j * 5, none⟩) hbl).trans y0
            have z1 := (HBr.out.cell (p := ⟨b, o + j * 5 + 1, none⟩) hbl).trans y1
            have z2 := (HBr.out.cell (p := ⟨b, o + j * 5 + 2, none⟩) hbl).trans y2
            have z3 := (HBr.out.cell (p := ⟨b, o + j * 5 + 3, none⟩) hbl).trans y3
            have z4 := (HBr.out.cell (p := ⟨b, o + j * 5 + 4, none⟩) hbl).trans y4
            have HD2 := Lib.hid hD'
            have HLn : Hid ((L2 ++ encs (ps.take j)).length + (enc (.mk kd' di' db' ds' l')).length ≤ 100000000) := by
              have h1 := encs_part ht
              have h2 := congrArg List.length HL2.out
              have h3 := congrArg List.length HL1.out
              have h4 := HL.out
              show _ ≤ _
              simp only [List.length_append, List.length_cons, List.length_nil] at h2 h3 ⊢
              omega
            have HE : Hid (L2 ++ encs (ps.take (j + 1)) = (L2 ++ encs (ps.take j)) ++ enc (.mk kd' di' db' ds' l')) := by
              show _ = _
              rw [encs_take ht, List.append_assoc]
            clear y0 y1 y2 y3 y4 hD' c0 c1 c2 c3 c4
            go_wp2_with (go_at_call 33; refine (IH.out w0 _ Bw v3 (L2 ++ encs (ps.take j)) kd' di' db' ds' q' m' c' l' HD2.out (HBr.out.alloc (by omega) _) hBw (D3.out.box.alloc _) (World.ownsRow.alloc D3.out.row _) HLn.out).mono ?_; rintro e w4 ⟨v4, rfl, h1, h2, h3⟩; have D4 := Lib.hid (D3.out.post hne h1 h2 h3.ofAlloc); clear h1 h2 h3)
            go_roundw
            case rel => exact ⟨j + 1, v4, by go_num, by omega, by rw [HE.out]; exact D4.out⟩
            case measure => simp [intOf]; omega
end Go.Proofs.YtmncpbfghabamaaDoor
