/- WIRE: WireFrames walked. -/
import Derived.Test.YtmncpbfghabamaaDoorWireFit
import Derived.Test.YtmncpbfghabamaaDoorWireREnc
import Derived.Test.YtmncpbfghabamaaDoorWireAwake
namespace Go.Proofs.YtmncpbfghabamaaDoor
open Go Go.RowKit
attribute [local go_sem ↓] Go.wp_at_zero Go.wp_at_succ

set_option linter.unusedSimpArgs false in
set_option maxRecDepth 100000 in
set_option maxHeartbeats 8000000 in
theorem wireFrames_any (k : Nat) (w : World) (id at_ un co pr hp : Int) (tp rp : ByteArray) (kd di db : Int) (ds : ByteArray) (p : Option Addr) (n cap : Nat) (ps : List Dv) (hD : DvIs w k [.int .i64 kd, .int .i64 di, .int .u64 db, .string ds, .slice p n cap] (.mk kd di db ds ps)) (hi : ∀ x ∈ [id, at_, un, co, pr, hp], I64 x) (htp : tp.size ≤ 2000000) (hrp : rp.size ≤ 2000000) (hl : (enc (.mk kd di db ds ps)).length ≤ 90000000) (hT : Tabs w) :
    Calls Tryd.prog 4 #[.agg #[.int .i64 id, .string tp, .int .i64 kd, .int .i64 di, .int .u64 db, .string ds, .slice p n cap, .int .i64 at_, .int .i64 un, .string rp, .int .i64 co, .int .i64 pr, .int .i64 hp]] w (AwPost w) := by
  obtain ⟨PP, hPP⟩ : ∃ PP, AwPost w = PP := ⟨_, rfl⟩
  rw [hPP]
  have HPP := Lib.hid hPP
  obtain ⟨A, hA⟩ : ∃ A, w.alloc (.cells #[.int .i64 id, .string tp, .int .i64 kd, .int .i64 di, .int .u64 db, .string ds, .slice p n cap, .int .i64 at_, .int .i64 un, .string rp, .int .i64 co, .int .i64 pr, .int .i64 hp] 39) = A := ⟨_, rfl⟩
  have BA : Hid (Below w.heap.size w A) := by show Below _ _ _; rw [← hA]; exact (Below.refl _ _).alloc (Nat.le_refl _) _
  have KA : Hid (A.heap[w.heap.size]? = some (.cells #[.int .i64 id, .string tp, .int .i64 kd, .int .i64 di, .int .u64 db, .string ds, .slice p n cap, .int .i64 at_, .int .i64 un, .string rp, .int .i64 co, .int .i64 pr, .int .i64 hp] 39 (0, 0))) := by show _ = _; rw [← hA]; exact heap_alloc_new w _
  have CF : Hid (∀ W, Below w.heap.size w W → Calls Tryd.prog 18 #[.agg #[.int .i64 id, .string tp, .int .i64 kd, .int .i64 di, .int .u64 db, .string ds, .slice p n cap, .int .i64 at_, .int .i64 un, .string rp, .int .i64 co, .int .i64 pr, .int .i64 hp]] W (FmPost (FtX (.mk kd di db ds ps) [id, at_, un, co, pr, hp] tp rp) W)) := fun W hb => fit26_any k W id at_ un co pr hp tp rp kd di db ds p n cap ps (hD.below hb) (by omega) (by omega) (hT.below hb)
  have CW : Hid (∀ W, Below w.heap.size w W → Calls Tryd.prog 19 #[.agg #[.int .i64 id, .string tp, .int .i64 kd, .int .i64 di, .int .u64 db, .string ds, .slice p n cap, .int .i64 at_, .int .i64 un, .string rp, .int .i64 co, .int .i64 pr, .int .i64 hp]] W (BPost (frameB (bodyB [id, at_, un, co, pr, hp] tp rp (.mk kd di db ds ps))) W)) := fun W hb => encode_any k W id at_ un co pr hp tp rp kd di db ds p n cap ps (hD.below hb) hi htp hrp hl
  have CR : Hid (∀ W, Below w.heap.size w W → VB (.mk kd di db ds ps) → Calls Tryd.prog 20 #[.agg #[.int .i64 id, .string tp, .int .i64 kd, .int .i64 di, .int .u64 db, .string ds, .slice p n cap, .int .i64 at_, .int .i64 un, .string rp, .int .i64 co, .int .i64 pr, .int .i64 hp]] W (BPost (frameB (bodyB [id, at_, un, co, pr, hp] tp rp (.mk kd di db ds ps))) W)) := fun W hb hv => refEncode_any k W id at_ un co pr hp tp rp kd di db ds p n cap ps (hD.below hb) (fair_right k _ _ hD hv.2 hv.1.1) hi htp hrp hl
  have CA : Hid (∀ W, Below w.heap.size w W → Calls Tryd.prog 17 #[] W (AwPost W)) := fun W hb => awake_any W (hT.below hb)
  have HAA := Lib.hid hA
  clear hPP hT hD hA hi htp hrp hl
  go_enter Tryd.func4, Tryd.ntmps4
  go_upto_region 1 with fail
  rw [HAA.out]
  obtain ⟨c0, c1, c2, c3, c4, c5, c6, c7, c8, c9, c10, c11, c12, hcl⟩ := cells13 KA.out
  go_wp2_with fail
  refine (CF.out _ BA.out).mono ?_
  rintro e W1 ⟨b, rfl, hiff, hb⟩
  have HB1 := Lib.hid (BA.out.trans (hb.mono BA.out.size))
  have K1 : Hid (W1.heap[w.heap.size]? = some (.cells #[.int .i64 id, .string tp, .int .i64 kd, .int .i64 di, .int .u64 db, .string ds, .slice p n cap, .int .i64 at_, .int .i64 un, .string rp, .int .i64 co, .int .i64 pr, .int .i64 hp] 39 (0, 0))) := (hb.block _ hcl).trans KA.out
  have HI := Lib.hid hiff
  clear hb hiff c0 c1 c2 c3 c4 c5 c6 c7 c8 c9 c10 c11 c12 hcl
  cases b with
  | false =>
    go_wp2_with fail
    refine (CA.out _ HB1.out).mono ?_
    rintro e W2 ⟨rfl, hb⟩
    have HB2 := Lib.hid (HB1.out.trans (hb.mono HB1.out.size))
    clear hb
    go_wp2_with fail
    rw [← HPP.out]
    exact ⟨rfl, HB2.out⟩
  | true =>
    have HV := Lib.hid (HI.out.1 rfl).1
    obtain ⟨c0, c1, c2, c3, c4, c5, c6, c7, c8, c9, c10, c11, c12, hcl⟩ := cells13 K1.out
    go_wp2_with fail
    refine wp_region_held_drew (S := (fun w' => w'.cell? ⟨w.heap.size, 0, none⟩ = some (.int .i64 id) ∧ w'.cell? ⟨w.heap.size, 1, none⟩ = some (.string tp) ∧ w'.cell? ⟨w.heap.size, 2, none⟩ = some (.int .i64 kd) ∧ w'.cell? ⟨w.heap.size, 3, none⟩ = some (.int .i64 di) ∧ w'.cell? ⟨w.heap.size, 4, none⟩ = some (.int .u64 db) ∧ w'.cell? ⟨w.heap.size, 5, none⟩ = some (.string ds) ∧ w'.cell? ⟨w.heap.size, 6, none⟩ = some (.slice p n cap) ∧ w'.cell? ⟨w.heap.size, 7, none⟩ = some (.int .i64 at_) ∧ w'.cell? ⟨w.heap.size, 8, none⟩ = some (.int .i64 un) ∧ w'.cell? ⟨w.heap.size, 9, none⟩ = some (.string rp) ∧ w'.cell? ⟨w.heap.size, 10, none⟩ = some (.int .i64 co) ∧ w'.cell? ⟨w.heap.size, 11, none⟩ = some (.int .i64 pr) ∧ w'.cell? ⟨w.heap.size, 12, none⟩ = some (.int .i64 hp))) (by kernel_rfl) ⟨c0, c1, c2, c3, c4, c5, c6, c7, c8, c9, c10, c11, c12⟩ (fun hHeld => ?_)
    refine wpAnyH_take (i := 0) (oi := _) (v := ?_) rfl (by kernel_rfl) (by kernel_rfl) (by kernel_rfl) (fun _ _ _ h => h) (Or.inl ⟨by rfl, ?_⟩) (by assumption) ?_
    rotate_left
    focus (intro w' hSw; (try dsimp only at hSw); go_simp; try with_reducible rfl)
    (try simp only [Act.put, List.setIfInBounds_toArray, List.set_cons_zero, List.set_cons_succ, List.getElem_toArray, List.getElem_cons_succ, List.getElem_cons_zero])
    refine wpAnyH_take (i := 3) (oi := _) (v := ?_) rfl (by kernel_rfl) (by kernel_rfl) (by kernel_rfl) (fun _ _ _ h => h) (Or.inl ⟨by rfl, ?_⟩) (by assumption) ?_
    rotate_left
    focus (intro w' hSw; (try dsimp only at hSw); go_simp; try with_reducible rfl)
    (try simp only [Act.put, List.setIfInBounds_toArray, List.set_cons_zero, List.set_cons_succ, List.getElem_toArray, List.getElem_cons_succ, List.getElem_cons_zero])
    refine wpAnyH_ready (rs := [1]) (by kernel_rfl) (by simp) ?_
    refine AllReadyH.cons (o := _) rfl (fun K hK => ?_) AllReadyH.nil
    (go_simp; refine (CW.out _ (below_drew HB1.out)).mono ?_; rintro e W2 ⟨v1, rfl, hr1, hb⟩; have HB2 := Lib.hid ((below_drew HB1.out).trans (hb.mono HB1.out.size)); obtain ⟨q1, m1, cc1, rfl⟩ := row_val hr1; have HR1 := Lib.hid (bs_of_own hr1); have htx1 := HR1.out.text; have g0 := (hb.cell hcl).trans c0; have g1 := (hb.cell hcl).trans c1; have g2 := (hb.cell hcl).trans c2; have g3 := (hb.cell hcl).trans c3; have g4 := (hb.cell hcl).trans c4; have g5 := (hb.cell hcl).trans c5; have g6 := (hb.cell hcl).trans c6; have g7 := (hb.cell hcl).trans c7; have g8 := (hb.cell hcl).trans c8; have g9 := (hb.cell hcl).trans c9; have g10 := (hb.cell hcl).trans c10; have g11 := (hb.cell hcl).trans c11; have g12 := (hb.cell hcl).trans c12; have hl2 := Nat.lt_of_lt_of_le hcl hb.size; clear hb hr1; try go_simp)
    refine hK.out _ _ ⟨g0, g1, g2, g3, g4, g5, g6, g7, g8, g9, g10, g11, g12⟩ (fun hHeld => ?_)
    clear hK K
    (try simp only [Act.put, List.setIfInBounds_toArray, List.set_cons_zero, List.set_cons_succ, List.getElem_toArray, List.getElem_cons_succ, List.getElem_cons_zero])
    refine wpAnyH_ready (rs := [2, 4]) (by kernel_rfl) (by simp) ?_
    refine AllReadyH.cons (o := _) rfl (fun K hK => ?_) ?_
    · go_simp
      refine hK.out _ _ ⟨g0, g1, g2, g3, g4, g5, g6, g7, g8, g9, g10, g11, g12⟩ (fun hHeld => ?_)
      clear hK K
      (try simp only [Act.put, List.setIfInBounds_toArray, List.set_cons_zero, List.set_cons_succ, List.getElem_toArray, List.getElem_cons_succ, List.getElem_cons_zero])
      refine wpAnyH_ready (rs := [4]) (by kernel_rfl) (by simp) ?_
      refine AllReadyH.cons (o := _) rfl (fun K hK => ?_) AllReadyH.nil
      (go_simp; refine (CR.out _ HB2.out HV.out).mono ?_; rintro e W3 ⟨v2, rfl, hr2, hb⟩; have HB3 := Lib.hid (HB2.out.trans (hb.mono HB2.out.size)); obtain ⟨q2, m2, cc2, rfl⟩ := row_val hr2; have HR2 := Lib.hid (bs_of_own hr2); have htx2 := HR2.out.text; have htx3 := (HR1.out.below hb).text; have h0 := (hb.cell hl2).trans g0; have h1 := (hb.cell hl2).trans g1; have h2 := (hb.cell hl2).trans g2; have h3 := (hb.cell hl2).trans g3; have h4 := (hb.cell hl2).trans g4; have h5 := (hb.cell hl2).trans g5; have h6 := (hb.cell hl2).trans g6; have h7 := (hb.cell hl2).trans g7; have h8 := (hb.cell hl2).trans g8; have h9 := (hb.cell hl2).trans g9; have h10 := (hb.cell hl2).trans g10; have h11 := (hb.cell hl2).trans g11; have h12 := (hb.cell hl2).trans g12; have hl3 := Nat.lt_of_lt_of_le hl2 hb.size; clear hb hr2; try go_simp)
      refine hK.out _ _ ⟨h0, h1, h2, h3, h4, h5, h6, h7, h8, h9, h10, h11, h12⟩ (fun hHeld => ?_)
      clear hK K
      (try simp only [Act.put, List.setIfInBounds_toArray, List.set_cons_zero, List.set_cons_succ, List.getElem_toArray, List.getElem_cons_succ, List.getElem_cons_zero])
      refine wpAnyH_ready (rs := [5]) (by kernel_rfl) (by simp) ?_
      refine AllReadyH.cons (o := _) rfl (fun K hK => ?_) AllReadyH.nil
      go_simp
      refine hK.out _ _ ⟨h0, h1, h2, h3, h4, h5, h6, h7, h8, h9, h10, h11, h12⟩ (fun hHeld => ?_)
      clear hK K
      (try simp only [Act.put, List.setIfInBounds_toArray, List.set_cons_zero, List.set_cons_succ, List.getElem_toArray, List.getElem_cons_succ, List.getElem_cons_zero])
      refine wpAnyH_take (i := 6) (oi := _) (v := ?_) rfl (by kernel_rfl) (by kernel_rfl) (by kernel_rfl) (fun _ _ _ h => h) (Or.inl ⟨by rfl, ?_⟩) (by assumption) ?_
      rotate_left
      focus (intro w' hSw; (try dsimp only at hSw); go_simp; try with_reducible rfl)
      (try simp only [Act.put, List.setIfInBounds_toArray, List.set_cons_zero, List.set_cons_succ, List.getElem_toArray, List.getElem_cons_succ, List.getElem_cons_zero])
      refine wpAnyH_take (i := 7) (oi := _) (v := ?_) rfl (by kernel_rfl) (by kernel_rfl) (by kernel_rfl) (fun _ _ _ h => h) (Or.inl ⟨by rfl, ?_⟩) (by assumption) ?_
      rotate_left
      focus (intro w' hSw; (try dsimp only at hSw); go_simp; try with_reducible rfl)
      (try simp only [Act.put, List.setIfInBounds_toArray, List.set_cons_zero, List.set_cons_succ, List.getElem_toArray, List.getElem_cons_succ, List.getElem_cons_zero])
      refine wpAnyH_ready (rs := [8]) (by kernel_rfl) (by simp) ?_
      refine AllReadyH.cons (o := _) rfl (fun K hK => ?_) AllReadyH.nil
      (go_simp; refine (CA.out _ HB3.out).mono ?_; rintro e W4 ⟨rfl, hb⟩; have HB4 := Lib.hid (HB3.out.trans (hb.mono HB3.out.size)); have k0 := (hb.cell hl3).trans h0; have k1 := (hb.cell hl3).trans h1; have k2 := (hb.cell hl3).trans h2; have k3 := (hb.cell hl3).trans h3; have k4 := (hb.cell hl3).trans h4; have k5 := (hb.cell hl3).trans h5; have k6 := (hb.cell hl3).trans h6; have k7 := (hb.cell hl3).trans h7; have k8 := (hb.cell hl3).trans h8; have k9 := (hb.cell hl3).trans h9; have k10 := (hb.cell hl3).trans h10; have k11 := (hb.cell hl3).trans h11; have k12 := (hb.cell hl3).trans h12; clear hb; try go_simp)
      refine hK.out _ _ ⟨k0, k1, k2, k3, k4, k5, k6, k7, k8, k9, k10, k11, k12⟩ (fun hHeld => ?_)
      clear hK K
      (try simp only [Act.put, List.setIfInBounds_toArray, List.set_cons_zero, List.set_cons_succ, List.getElem_toArray, List.getElem_cons_succ, List.getElem_cons_zero])
      refine wpAnyH_take (i := 9) (oi := _) (v := ?_) rfl (by kernel_rfl) (by kernel_rfl) (by kernel_rfl) (fun _ _ _ h => h) (Or.inl ⟨by rfl, ?_⟩) (by assumption) ?_
      rotate_left
      focus (intro w' hSw; (try dsimp only at hSw); go_simp; try with_reducible rfl)
      (try simp only [Act.put, List.setIfInBounds_toArray, List.set_cons_zero, List.set_cons_succ, List.getElem_toArray, List.getElem_cons_succ, List.getElem_cons_zero])
      refine wpAnyH_take (i := 10) (oi := _) (v := ?_) rfl (by kernel_rfl) (by kernel_rfl) (by kernel_rfl) (fun _ _ _ h => h) (Or.inl ⟨by rfl, ?_⟩) (by assumption) ?_
      rotate_left
      focus (intro w' hSw; (try dsimp only at hSw); go_simp; try with_reducible rfl)
      (try simp only [Act.put, List.setIfInBounds_toArray, List.set_cons_zero, List.set_cons_succ, List.getElem_toArray, List.getElem_cons_succ, List.getElem_cons_zero])
      refine wpAnyH_done (by kernel_rfl) ?_ _
      go_wp2_with fail
      rw [← HPP.out]
      exact ⟨rfl, by first | exact HB4.out | exact below_drew HB4.out⟩
    refine AllReadyH.cons (o := _) rfl (fun K hK => ?_) AllReadyH.nil
    (go_simp; refine (CR.out _ HB2.out HV.out).mono ?_; rintro e W3 ⟨v2, rfl, hr2, hb⟩; have HB3 := Lib.hid (HB2.out.trans (hb.mono HB2.out.size)); obtain ⟨q2, m2, cc2, rfl⟩ := row_val hr2; have HR2 := Lib.hid (bs_of_own hr2); have htx2 := HR2.out.text; have htx3 := (HR1.out.below hb).text; have h0 := (hb.cell hl2).trans g0; have h1 := (hb.cell hl2).trans g1; have h2 := (hb.cell hl2).trans g2; have h3 := (hb.cell hl2).trans g3; have h4 := (hb.cell hl2).trans g4; have h5 := (hb.cell hl2).trans g5; have h6 := (hb.cell hl2).trans g6; have h7 := (hb.cell hl2).trans g7; have h8 := (hb.cell hl2).trans g8; have h9 := (hb.cell hl2).trans g9; have h10 := (hb.cell hl2).trans g10; have h11 := (hb.cell hl2).trans g11; have h12 := (hb.cell hl2).trans g12; have hl3 := Nat.lt_of_lt_of_le hl2 hb.size; clear hb hr2; try go_simp)
    refine hK.out _ _ ⟨h0, h1, h2, h3, h4, h5, h6, h7, h8, h9, h10, h11, h12⟩ (fun hHeld => ?_)
    clear hK K
    (try simp only [Act.put, List.setIfInBounds_toArray, List.set_cons_zero, List.set_cons_succ, List.getElem_toArray, List.getElem_cons_succ, List.getElem_cons_zero])
    refine wpAnyH_ready (rs := [2, 5]) (by kernel_rfl) (by simp) ?_
    refine AllReadyH.cons (o := _) rfl (fun K hK => ?_) ?_
    · go_simp
      refine hK.out _ _ ⟨h0, h1, h2, h3, h4, h5, h6, h7, h8, h9, h10, h11, h12⟩ (fun hHeld => ?_)
      clear hK K
      (try simp only [Act.put, List.setIfInBounds_toArray, List.set_cons_zero, List.set_cons_succ, List.getElem_toArray, List.getElem_cons_succ, List.getElem_cons_zero])
      refine wpAnyH_ready (rs := [5]) (by kernel_rfl) (by simp) ?_
      refine AllReadyH.cons (o := _) rfl (fun K hK => ?_) AllReadyH.nil
      go_simp
      refine hK.out _ _ ⟨h0, h1, h2, h3, h4, h5, h6, h7, h8, h9, h10, h11, h12⟩ (fun hHeld => ?_)
      clear hK K
      (try simp only [Act.put, List.setIfInBounds_toArray, List.set_cons_zero, List.set_cons_succ, List.getElem_toArray, List.getElem_cons_succ, List.getElem_cons_zero])
      refine wpAnyH_take (i := 6) (oi := _) (v := ?_) rfl (by kernel_rfl) (by kernel_rfl) (by kernel_rfl) (fun _ _ _ h => h) (Or.inl ⟨by rfl, ?_⟩) (by assumption) ?_
      rotate_left
      focus (intro w' hSw; (try dsimp only at hSw); go_simp; try with_reducible rfl)
      (try simp only [Act.put, List.setIfInBounds_toArray, List.set_cons_zero, List.set_cons_succ, List.getElem_toArray, List.getElem_cons_succ, List.getElem_cons_zero])
      refine wpAnyH_take (i := 7) (oi := _) (v := ?_) rfl (by kernel_rfl) (by kernel_rfl) (by kernel_rfl) (fun _ _ _ h => h) (Or.inl ⟨by rfl, ?_⟩) (by assumption) ?_
      rotate_left
      focus (intro w' hSw; (try dsimp only at hSw); go_simp; try with_reducible rfl)
      (try simp only [Act.put, List.setIfInBounds_toArray, List.set_cons_zero, List.set_cons_succ, List.getElem_toArray, List.getElem_cons_succ, List.getElem_cons_zero])
      refine wpAnyH_ready (rs := [8]) (by kernel_rfl) (by simp) ?_
      refine AllReadyH.cons (o := _) rfl (fun K hK => ?_) AllReadyH.nil
      (go_simp; refine (CA.out _ HB3.out).mono ?_; rintro e W4 ⟨rfl, hb⟩; have HB4 := Lib.hid (HB3.out.trans (hb.mono HB3.out.size)); have k0 := (hb.cell hl3).trans h0; have k1 := (hb.cell hl3).trans h1; have k2 := (hb.cell hl3).trans h2; have k3 := (hb.cell hl3).trans h3; have k4 := (hb.cell hl3).trans h4; have k5 := (hb.cell hl3).trans h5; have k6 := (hb.cell hl3).trans h6; have k7 := (hb.cell hl3).trans h7; have k8 := (hb.cell hl3).trans h8; have k9 := (hb.cell hl3).trans h9; have k10 := (hb.cell hl3).trans h10; have k11 := (hb.cell hl3).trans h11; have k12 := (hb.cell hl3).trans h12; clear hb; try go_simp)
      refine hK.out _ _ ⟨k0, k1, k2, k3, k4, k5, k6, k7, k8, k9, k10, k11, k12⟩ (fun hHeld => ?_)
      clear hK K
      (try simp only [Act.put, List.setIfInBounds_toArray, List.set_cons_zero, List.set_cons_succ, List.getElem_toArray, List.getElem_cons_succ, List.getElem_cons_zero])
      refine wpAnyH_take (i := 9) (oi := _) (v := ?_) rfl (by kernel_rfl) (by kernel_rfl) (by kernel_rfl) (fun _ _ _ h => h) (Or.inl ⟨by rfl, ?_⟩) (by assumption) ?_
      rotate_left
      focus (intro w' hSw; (try dsimp only at hSw); go_simp; try with_reducible rfl)
      (try simp only [Act.put, List.setIfInBounds_toArray, List.set_cons_zero, List.set_cons_succ, List.getElem_toArray, List.getElem_cons_succ, List.getElem_cons_zero])
      refine wpAnyH_take (i := 10) (oi := _) (v := ?_) rfl (by kernel_rfl) (by kernel_rfl) (by kernel_rfl) (fun _ _ _ h => h) (Or.inl ⟨by rfl, ?_⟩) (by assumption) ?_
      rotate_left
      focus (intro w' hSw; (try dsimp only at hSw); go_simp; try with_reducible rfl)
      (try simp only [Act.put, List.setIfInBounds_toArray, List.set_cons_zero, List.set_cons_succ, List.getElem_toArray, List.getElem_cons_succ, List.getElem_cons_zero])
      refine wpAnyH_done (by kernel_rfl) ?_ _
      go_wp2_with fail
      rw [← HPP.out]
      exact ⟨rfl, by first | exact HB4.out | exact below_drew HB4.out⟩
    refine AllReadyH.cons (o := _) rfl (fun K hK => ?_) AllReadyH.nil
    go_simp
    refine hK.out _ _ ⟨h0, h1, h2, h3, h4, h5, h6, h7, h8, h9, h10, h11, h12⟩ (fun hHeld => ?_)
    clear hK K
    (try simp only [Act.put, List.setIfInBounds_toArray, List.set_cons_zero, List.set_cons_succ, List.getElem_toArray, List.getElem_cons_succ, List.getElem_cons_zero])
    refine wpAnyH_ready (rs := [2]) (by kernel_rfl) (by simp) ?_
    refine AllReadyH.cons (o := _) rfl (fun K hK => ?_) AllReadyH.nil
    go_simp
    refine hK.out _ _ ⟨h0, h1, h2, h3, h4, h5, h6, h7, h8, h9, h10, h11, h12⟩ (fun hHeld => ?_)
    clear hK K
    (try simp only [Act.put, List.setIfInBounds_toArray, List.set_cons_zero, List.set_cons_succ, List.getElem_toArray, List.getElem_cons_succ, List.getElem_cons_zero])
    refine wpAnyH_take (i := 6) (oi := _) (v := ?_) rfl (by kernel_rfl) (by kernel_rfl) (by kernel_rfl) (fun _ _ _ h => h) (Or.inl ⟨by rfl, ?_⟩) (by assumption) ?_
    rotate_left
    focus (intro w' hSw; (try dsimp only at hSw); go_simp; try with_reducible rfl)
    (try simp only [Act.put, List.setIfInBounds_toArray, List.set_cons_zero, List.set_cons_succ, List.getElem_toArray, List.getElem_cons_succ, List.getElem_cons_zero])
    refine wpAnyH_take (i := 7) (oi := _) (v := ?_) rfl (by kernel_rfl) (by kernel_rfl) (by kernel_rfl) (fun _ _ _ h => h) (Or.inl ⟨by rfl, ?_⟩) (by assumption) ?_
    rotate_left
    focus (intro w' hSw; (try dsimp only at hSw); go_simp; try with_reducible rfl)
    (try simp only [Act.put, List.setIfInBounds_toArray, List.set_cons_zero, List.set_cons_succ, List.getElem_toArray, List.getElem_cons_succ, List.getElem_cons_zero])
    refine wpAnyH_ready (rs := [8]) (by kernel_rfl) (by simp) ?_
    refine AllReadyH.cons (o := _) rfl (fun K hK => ?_) AllReadyH.nil
    (go_simp; refine (CA.out _ HB3.out).mono ?_; rintro e W4 ⟨rfl, hb⟩; have HB4 := Lib.hid (HB3.out.trans (hb.mono HB3.out.size)); have k0 := (hb.cell hl3).trans h0; have k1 := (hb.cell hl3).trans h1; have k2 := (hb.cell hl3).trans h2; have k3 := (hb.cell hl3).trans h3; have k4 := (hb.cell hl3).trans h4; have k5 := (hb.cell hl3).trans h5; have k6 := (hb.cell hl3).trans h6; have k7 := (hb.cell hl3).trans h7; have k8 := (hb.cell hl3).trans h8; have k9 := (hb.cell hl3).trans h9; have k10 := (hb.cell hl3).trans h10; have k11 := (hb.cell hl3).trans h11; have k12 := (hb.cell hl3).trans h12; clear hb; try go_simp)
    refine hK.out _ _ ⟨k0, k1, k2, k3, k4, k5, k6, k7, k8, k9, k10, k11, k12⟩ (fun hHeld => ?_)
    clear hK K
    (try simp only [Act.put, List.setIfInBounds_toArray, List.set_cons_zero, List.set_cons_succ, List.getElem_toArray, List.getElem_cons_succ, List.getElem_cons_zero])
    refine wpAnyH_take (i := 9) (oi := _) (v := ?_) rfl (by kernel_rfl) (by kernel_rfl) (by kernel_rfl) (fun _ _ _ h => h) (Or.inl ⟨by rfl, ?_⟩) (by assumption) ?_
    rotate_left
    focus (intro w' hSw; (try dsimp only at hSw); go_simp; try with_reducible rfl)
    (try simp only [Act.put, List.setIfInBounds_toArray, List.set_cons_zero, List.set_cons_succ, List.getElem_toArray, List.getElem_cons_succ, List.getElem_cons_zero])
    refine wpAnyH_take (i := 10) (oi := _) (v := ?_) rfl (by kernel_rfl) (by kernel_rfl) (by kernel_rfl) (fun _ _ _ h => h) (Or.inl ⟨by rfl, ?_⟩) (by assumption) ?_
    rotate_left
    focus (intro w' hSw; (try dsimp only at hSw); go_simp; try with_reducible rfl)
    (try simp only [Act.put, List.setIfInBounds_toArray, List.set_cons_zero, List.set_cons_succ, List.getElem_toArray, List.getElem_cons_succ, List.getElem_cons_zero])
    refine wpAnyH_done (by kernel_rfl) ?_ _
    go_wp2_with fail
    rw [← HPP.out]
    exact ⟨rfl, by first | exact HB4.out | exact below_drew HB4.out⟩
end Go.Proofs.YtmncpbfghabamaaDoor
