/- the law ScanTwice, walked (not yet done). -/
import Derived.Test.YtmbejmhnoeoohaaDoorScanPair
import Derived.Test.YtmbejmhnoeoohaaDoorScanLawD
namespace Go.Proofs.YtmbejmhnoeoohaaDoor
open Go Go.RowKit

theorem glueS_len_step (l : List UInt8) (ts : List Tok) (k : Nat) (t : Tok) (h : ts[k]? = some t) : glueS l (ts.take (k + 1)) = glueS l (ts.take k) ++ (l.drop t.pos).take (t.stop - t.pos) ++ [32] := by
  rw [List.take_add_one, h]
  simp [glueS]
theorem Bs.news {w : World} {b o n cap : Nat} {l : List UInt8} (h : Bs w (.slice (some ⟨b, o, none⟩) n cap) l) : ∀ j u, (bc l)[j]? = some u → w.cell? ((⟨b, o, none⟩ : Addr).add j) = some u := by
  intro j u hu
  obtain ⟨x, hx, rfl⟩ : ∃ x, l[j]? = some x ∧ Value.int .u8 (x.toNat : Nat) = u := by unfold bc at hu; rw [List.getElem?_map] at hu; exact Option.map_eq_some_iff.1 hu
  have hadd : (⟨b, o, none⟩ : Addr).add j = ⟨b, o + j, none⟩ := by unfold Addr.add; split <;> simp_all
  rw [hadd]; exact h.cell hx
/-- where the tokens lie -/
theorem toks_in {l : List UInt8} {ts : List Tok} (h : scanAt l 0 16384 = .toks ts) (hl : l.length ≤ 65536) : ∀ (k : Nat) (t : Tok), ts[k]? = some t → t.pos < t.stop ∧ t.stop ≤ l.length := by
  have H : ∀ k, k ≤ ts.length → ∃ a, Bt l ts k a := by
    intro k
    induction k with
    | zero => exact fun _ => ⟨0, bt_start h⟩
    | succ k ih =>
      intro hk
      obtain ⟨a, ha⟩ := ih (by omega)
      obtain ⟨_, _, _, _, hb⟩ := bt_tok ha hl (List.getElem?_eq_getElem (show k < ts.length by omega))
      exact ⟨_, hb⟩
  intro k t ht
  obtain ⟨hk, _⟩ := List.getElem?_eq_some_iff.1 ht
  obtain ⟨a, ha⟩ := H k (by omega)
  obtain ⟨_, h1, h2, _⟩ := bt_tok ha hl ht
  exact ⟨h1, h2⟩

theorem glueS_le (l : List UInt8) : ∀ (ts : List Tok), (glueS l ts).length ≤ ts.length * (l.length + 1)
  | [] => by simp [glueS]
  | t :: ts => by
    have ih := glueS_le l ts
    have h1 : ((l.drop t.pos).take (t.stop - t.pos)).length ≤ l.length := by rw [List.length_take, List.length_drop]; omega
    unfold glueS at ih ⊢
    rw [List.flatMap_cons, List.length_append, List.length_append, List.length_cons, List.length_cons, List.length_nil, Nat.add_mul]
    omega
theorem glueS_small {l : List UInt8} {ts : List Tok} {k : Nat} (hl : l.length ≤ 65536) (hk : ts.length ≤ 16384) : (glueS l (ts.take k)).length ≤ 1073758208 := by
  refine Nat.le_trans (glueS_le l _) ?_
  have h1 : (ts.take k).length ≤ 16384 := by rw [List.length_take]; omega
  calc (ts.take k).length * (l.length + 1) ≤ 16384 * 65537 := Nat.mul_le_mul h1 (by omega)
    _ ≤ 1073758208 := by decide
theorem own_grow_s {w w1 : World} {base : Nat} {v v' : Value} {l news : List UInt8} (hown : w.ownsRow base 5 1 v l.length (bc l)) (hb : base ≤ w.heap.size)
    (hown' : w1.ownsRow base 5 1 v' (l.length + news.length) (bc l ++ bc news)) (hgrow : w.drew.grownBy w1 v.ownBlock) :
    w1.ownsRow base 5 1 v' (l ++ news).length (bc (l ++ news)) ∧ Below base w w1 := by
  refine ⟨by rw [List.length_append, bc_app]; exact hown', ?_⟩
  exact ((Below.refl _ _).drew).grown hgrow (by simp; omega) (fun j hj => (hown.lt j hj).1)
theorem own_far_s {w w0 w1 : World} {base : Nat} {v : Value} {n : Nat} {xs : List Value} (hgrow : w0.grownBy w1 v.ownBlock) (hown : w.ownsRow base 5 1 v n xs) {b i : Nat} (hb : b < base)
    {x : Value} (hc : w0.cell? ⟨b, i, none⟩ = some x) : w1.cell? ⟨b, i, none⟩ = some x :=
  (World.cell?_of_block (a := ⟨b, i, none⟩) (hgrow.block b (World.block_lt_of_cell? w0 _ hc) (fun e => by have := (hown.lt b e.symm).1; omega))).trans hc
theorem core_at {us ts : List Tok} (h : us.map coreT = ts.map coreT) {k : Nat} {t : Tok} (ht : ts[k]? = some t) : ∃ u, us[k]? = some u ∧ u.kind = t.kind ∧ u.num = t.num ∧ u.text = t.text := by
  have h1 : (us.map coreT)[k]? = some (coreT t) := by rw [h, List.getElem?_map, ht]; rfl
  rw [List.getElem?_map] at h1
  obtain ⟨u, hu, he⟩ := Option.map_eq_some_iff.1 h1
  injection he with h2 h3
  injection h3 with h3 h4
  exact ⟨u, hu, h2, h3, h4⟩

set_option maxRecDepth 100000 in
set_option maxHeartbeats 4000000 in
theorem scanTwice_any (p : Option Addr) (n cap : Nat) (l : List UInt8) (w : World) (hVp : Bs w (.slice p n cap) l ∧ (p = none → cap = 0)) (hl : l.length ≤ 1048576) (hE : Env w) :
    Calls Tryd.prog 6 #[.slice p n cap] w fun e w' => e = .returned (.bool true) ∧ Below w.heap.size w w' := by
  obtain ⟨hV, hp⟩ := hVp
  obtain ⟨i0, hi, hz0, hz1, hz2⟩ := info_parts info_byte
  have HE := Lib.hid hE
  have HV := Lib.hid hV
  obtain ⟨rfl, hc1, hc2⟩ := hV.len
  clear hp
  cases hG : scanS l with
  | bad q k =>
    obtain ⟨hk, hq⟩ := scanS_bad hG
    have hs1 := scan_any _ l w hE hV (by omega)
    rw [hG] at hs1
    have CS1 := Lib.hid hs1
    have hk' : ((k : Int) == 0) = false := beq_eq_false_iff_ne.2 (by omega)
    clear hs1 hG hE hV
    go_enter Tryd.func6, Tryd.ntmps6
    go_wp2_with fail
    refine CS1.out.mono ?_
    rintro e w1 ⟨hb1, he⟩
    have he' : e = .returned (.tuple #[.slice none 0 0, .agg #[.int .i64 (q : Nat), .int .i64 (k : Nat)]]) := he
    subst he'
    have HB1 : Hid (∀ o : Obj, Below w.heap.size w (w1.alloc o)) := fun o => hb1.alloc hb1.size _
    clear hb1 he
    go_wp2_with fail
    refine (awake_any _ (HE.out.below (HB1.out _))).mono ?_
    rintro e w3 ⟨rfl, hb3⟩
    go_wp2
    go_ret
    exact ⟨rfl, (HB1.out _).trans (hb3.mono (HB1.out _).size)⟩
  | toks ts =>
    obtain ⟨hl2, hS⟩ := scanS_toks hG
    have HI := Lib.hid (toks_in hS hl2)
    obtain ⟨us, hu, hcore⟩ := scan_glue l ts 0 16384 0 (Nat.zero_le _) hS
    have hcount := scanF_count _ _ _ _ _ hS
    have HU := Lib.hid hu
    have HC := Lib.hid hcore
    have HGl := Lib.hid (fun k t h => glueS_len_step l ts k t h)
    have hs1 := scan_any _ l w hE hV (by omega)
    rw [hG] at hs1
    have CS1 := Lib.hid hs1
    clear hs1 hG hE hV hS hu hcore
    go_enter Tryd.func6, Tryd.ntmps6
    go_wp2_with fail
    refine CS1.out.mono ?_
    rintro e w1 ⟨hb1, v1, rfl, hT1⟩
    have HT1 := Lib.hid hT1
    obtain ⟨p1, cap1, rfl, hcap, hm, -⟩ := hT1
    have HB1 : Hid (∀ o : Obj, Below w.heap.size w (w1.alloc o)) := fun o => hb1.alloc hb1.size _
    have HB2 : Hid (∀ o : Obj, Below w1.heap.size w1 (w1.alloc o)) := fun o => (Below.refl _ _).alloc (Nat.le_refl _) _
    have hz := hb1.size
    have HBw := Lib.hid hb1
    clear hb1
    go_wp2
    go_loopw [5, 6] (fun b i wr => ∃ k : Nat, k ≤ ts.length ∧ i = .int .i64 (k : Nat) ∧ wr.ownsRow w1.heap.size 5 1 b (glueS l (ts.take k)).length (bc (glueS l (ts.take k))) ∧ Below w1.heap.size w1 wr) (fun _ i _ => ts.length - (intOf i).toNat)
    case atStart => exact ⟨0, Nat.zero_le _, rfl, World.ownsRow_nil _ _ _ _, HB2.out _⟩
    case round =>
      obtain ⟨k, hk, rfl, hown, hbw⟩ := hrel
      by_cases hk2 : k < ts.length
      · obtain ⟨t, ht⟩ : ∃ t, ts[k]? = some t := ⟨_, List.getElem?_eq_getElem hk2⟩
        obtain ⟨f1, f2⟩ := HI.out k t ht
        obtain ⟨b, o, cap2, e1, hbl, hcells⟩ := HT1.out.cellsAt (by omega)
        injection e1 with e1 e2 e3
        subst e1; subst e3
        obtain ⟨-, d1, d2, -, -⟩ := hcells k t ht
        have d1 := (hbw.cell (p := ⟨b, o + k * 5 + 1, none⟩) hbl).trans d1
        have d2 := (hbw.cell (p := ⟨b, o + k * 5 + 2, none⟩) hbl).trans d2
        have hbw0 : Below w.heap.size w wr := HBw.out.trans (hbw.mono hz)
        obtain ⟨q, cq, hrun, hB2⟩ := (HV.out.below hbw0).window (i := t.pos) (j := t.stop) (by omega) f2
        have g4 : (k : Int) < (ts.length : Int) := by omega
        have HGk := Lib.hid (HGl.out k t ht)
        clear hcells
        generalize t.pos = P at *
        generalize t.stop = S at *
        have hXl : ((l.drop P).take (S - P)).length = S - P := by rw [List.length_take, List.length_drop]; omega
        obtain ⟨b3, o3, cap3, e3, -⟩ := hB2.form (by omega)
        injection e3 with e3 e4 e5
        subst e3; subst e5
        have hnews := hB2.news
        generalize (l.drop P).take (S - P) = X at *
        have hsmall : (glueS l (ts.take k)).length ≤ 1073758208 := glueS_small hl2 hcount
        have p1' : (0 : Int) ≤ (P : Int) := by omega
        have p2' : (P : Int) ≤ (S : Int) := by omega
        have hbz := hbw.size
        obtain ⟨b5, o5, c5, e5, -⟩ := HV.out.form (by omega)
        injection e5 with e5 e6 e7
        subst e5; subst e7
        clear e4 e6
        have HXl := Lib.hid hXl
        clear hXl
        go_wp2
        go_region_held3 (fun w' => w'.cell? ⟨b, o + k * 5 + 1, none⟩ = some (.int .i64 (P : Nat)) ∧ w'.cell? ⟨b, o + k * 5 + 2, none⟩ = some (.int .i64 (S : Nat))) (first | exact ⟨own_far_s hgrow hown hbl d1, own_far_s hgrow hown hbl d2⟩ | go_keep) (first
          | ((refine step_append_lies _ (by rfl) _ _ _ (by rfl) w1.heap.size 5 i0 (.int .u8 0) 1 1 Tryd.underlying22 hi hz0 hz1 hz2 rfl (by decide) u5 (glueS l (ts.take k)).length (bc (glueS l (ts.take k))) (by rfl) (by exact hown) ⟨b3, o3, none⟩ (S - P) cq (bc X) (by rfl) (by rw [bc_len, HXl.out, Nat.mul_one]) (by exact hnews) (bc_one _) (by omega) (by unfold maxLen; omega) (by omega) (by exact hbz) wr.heap.size (by simp) ?_); intro g4 cap4 w4 hown' hgrow hat hlt2))
        all_goals
          have hown3 : w4.ownsRow w1.heap.size 5 1 (.slice (some ⟨g4, 0, none⟩) ((glueS l (ts.take k)).length + (S - P)) cap4) ((glueS l (ts.take k)).length + X.length) (bc (glueS l (ts.take k)) ++ bc X) := by rw [HXl.out]; exact hown'
          obtain ⟨hown2, hb2⟩ := own_grow_s hown hbz hown3 hgrow
          have hl4 : ((glueS l (ts.take k)) ++ X).length ≤ 1073823744 := by rw [List.length_append, HXl.out]; omega
          have hz4 := hb2.size
          have HBK := Lib.hid (hbw.trans hb2)
          clear hown' hgrow hat hlt2 hown hown3 d1 d2 hnews hrun hB2 hb2
          go_wp2_with (at_builtin; refine wpList_append_own _ rfl _ _ 22 rfl w1.heap.size 5 i0 (.int .u8 0) 1 1 Tryd.underlying22 hi hz0 hz1 hz2 rfl (by decide) _ _ _ rfl (hown2.alloc _) ⟨w4.heap.size, 0, none⟩ 1 1 (bc [32]) rfl rfl (news_cells _ (bc [32]) _) (bc_one _) (by unfold maxLen; omega) (by omega) (by simp; omega) ?_; intro v' w5 hown' hgrow hnil)
          obtain ⟨hown4, hb3⟩ := own_grow hown2 (Nat.le_trans hbz hz4) hown' hgrow
          clear hown' hgrow hown2 hnil
          go_wp2
          go_roundw
          case rel => exact ⟨k + 1, by omega, by go_num, by rw [HGk.out]; exact hown4, HBK.out.trans hb3⟩
          case measure => simp [intOf]; omega
      · obtain rfl : k = ts.length := by omega
        have hown : wr.ownsRow w1.heap.size 5 1 u5 (glueS l ts).length (bc (glueS l ts)) := by rw [List.take_length] at hown; exact hown
        have hsm : (glueS l ts).length ≤ 1073758208 := by have := glueS_small (k := ts.length) hl2 hcount; rwa [List.take_length] at this
        have hBG := Bs.of_own hown
        obtain ⟨pG, cG, rfl, -, -, -⟩ := id hBG
        have hbw0 : Below w.heap.size w wr := HBw.out.trans (hbw.mono hz)
        have hEr := HE.out.below hbw0
        have HEr := Lib.hid hEr
        have HBr := Lib.hid hbw0
        have hg4 : ¬ ts.length < ts.length := by omega
        by_cases hlong : 65536 < (glueS l ts).length
        · have hlong' : (65536 : Int) < ((glueS l ts).length : Int) := by omega
          generalize (glueS l ts).length = G at *
          clear hown hBG hbw hbw0 hEr
          go_wp2_with fail
          refine (awake_any _ HEr.out).mono ?_
          rintro e w8 ⟨rfl, hb8⟩
          go_wp2
          go_ret
          exact ⟨rfl, HBr.out.trans (hb8.mono HBr.out.size)⟩
        · have hlong' : ¬ (65536 : Int) < ((glueS l ts).length : Int) := by omega
          have hs2 := scan_any _ (glueS l ts) wr hEr hBG (by omega)
          have hGs : scanS (glueS l ts) = .toks us := by unfold scanS; rw [if_neg hlong]; exact HU.out
          rw [hGs] at hs2
          have CS2 := Lib.hid hs2
          have hul : us.length = ts.length := by have := congrArg List.length HC.out; simpa using this
          clear hs2 hGs hBG hEr hown hbw0
          generalize (glueS l ts).length = G at *
          go_wp2_with fail
          refine CS2.out.mono ?_
          rintro e w2 ⟨hb2, v2, rfl, hT2⟩
          have HT2 := Lib.hid hT2
          obtain ⟨p2, cap2, rfl, -, -, -⟩ := hT2
          have HB3 : Hid (∀ o : Obj, Below w2.heap.size w2 (w2.alloc o)) := fun o => (Below.refl _ _).alloc (Nat.le_refl _) _
          have HBx : Hid (Below w1.heap.size w1 w2) := hbw.trans (hb2.mono hbw.size)
          have hz2x := HBx.out.size
          have hul' : ((us.length : Int) != (ts.length : Int)) = false := by rw [hul]; simp
          clear hb2 hbw
          go_wp2
          go_loopw [9] (fun i wr => ∃ k : Nat, k ≤ ts.length ∧ i = .int .i64 (k : Nat) ∧ Below w2.heap.size w2 wr) (fun i _ => ts.length - (intOf i).toNat)
          case atStart => exact ⟨0, Nat.zero_le _, rfl, HB3.out _⟩
          case round =>
            obtain ⟨k, hk, rfl, hbw⟩ := hrel
            by_cases hk2 : k < ts.length
            · obtain ⟨t, ht⟩ : ∃ t, ts[k]? = some t := ⟨_, List.getElem?_eq_getElem hk2⟩
              obtain ⟨u, hu, q1, q2, q3⟩ := core_at HC.out ht
              obtain ⟨b, o, cap3, e1, hbl, hcells⟩ := (HT1.out.below (HBx.out.trans (hbw.mono hz2x))).cellsAt (by omega)
              injection e1 with e1 e2 e3
              subst e1; subst e3
              obtain ⟨d0, -, -, d3, d4⟩ := hcells k t ht
              obtain ⟨b', o', cap4, e1, hbl2, hcells2⟩ := (HT2.out.below hbw).cellsAt (by omega)
              injection e1 with e1 e2 e3
              subst e1; subst e3
              obtain ⟨c0, -, -, c3, c4⟩ := hcells2 k u hu
              rw [q1] at c0
              rw [q2] at c3
              rw [q3] at c4
              have g4 : (k : Int) < (ts.length : Int) := by omega
              have g5 : (k : Int) < (us.length : Int) := by omega
              have hbx := hbw
              generalize t.kind = tk at *
              generalize t.num = tn at *
              generalize ba t.text = tx at *
              clear hcells hcells2 hu ht q1 q2 q3 hbw
              go_wp2
              go_quiet (fail)
              go_wp2
              go_roundw
              case rel => exact ⟨k + 1, by omega, by go_num, below_drewN hbx _⟩
              case measure => simp [intOf]; omega
            · obtain rfl : k = ts.length := by omega
              have hbx := HBx.out.trans (hbw.mono hz2x)
              have hby := HBw.out.trans (hbx.mono hz)
              have HEr2 := Lib.hid (HE.out.below hby)
              have HBr2 := Lib.hid hby
              clear hbw hbx hby
              go_wp2_with fail
              refine (awake_any _ HEr2.out).mono ?_
              rintro e w8 ⟨rfl, hb8⟩
              go_wp2
              go_ret
              exact ⟨rfl, HBr2.out.trans (hb8.mono HBr2.out.size)⟩
end Go.Proofs.YtmbejmhnoeoohaaDoor
