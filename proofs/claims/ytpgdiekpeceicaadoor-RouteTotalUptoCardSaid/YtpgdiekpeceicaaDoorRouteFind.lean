/- ROUTE: route.Find. -/
import Derived.Test.YtpgdiekpeceicaaDoorRouteFindR
import Derived.Maps.OwnIn
namespace Go.Proofs.YtpgdiekpeceicaaDoor
open Go Go.RowKit Go.Shelf
attribute [local go_sem] Oper.semAt_some

/-- what the range leaves: two boxes (the first ones, the spare ones), each with a row of its own, the two rows apart; the result's box; what the iterator reads -/
def TwoI (w : World) (p : Option Addr) (cap : Nat) (l : List Rt) (mv : Array Value) (pre : List (Nat × Bool)) (W : World) : Prop :=
  (∃ v u, Boxed W (w.heap.size + 2) 31 v ∧ Boxed W (w.heap.size + 3) 31 u ∧
    W.ownsRow (w.heap.size + 6) 3 1 v (pl false pre).length ((pl false pre).map nv) ∧ W.ownsRow (w.heap.size + 6) 3 1 u (pl true pre).length ((pl true pre).map nv) ∧ (v.ownBlock = none ∨ v.ownBlock ≠ u.ownBlock)) ∧
  W.heap[w.heap.size + 1]? = some (.cells #[.slice none 0 0, .bool false] 33 (0, 0)) ∧
  W.heap[w.heap.size + 4]? = some (.cells #[.slice p l.length cap] 22 (0, 0)) ∧ W.heap[w.heap.size + 5]? = some (.cells mv 28 (0, 0)) ∧ Below w.heap.size w W ∧ w.heap.size + 6 ≤ W.heap.size

theorem TwoI.holds (w : World) (p : Option Addr) (cap : Nat) (l : List Rt) (mv : Array Value) : Holds (w.heap.size + 6) w.heap.size (TwoI w p cap l mv) := by
  rintro s A B row ⟨⟨v, u, h1, h2, r1, r2, hne⟩, h4, h5, h6, hb, hsz⟩ hg hrow
  have keep : ∀ k o, A.heap[k]? = some o → w.heap.size < k → k < w.heap.size + 6 → B.heap[k]? = some o := fun k o h hk1 hk2 =>
    (hg.block k (Array.getElem?_eq_some_iff.1 h).1 (fun e => by rcases hrow k (by first | exact e | exact e.symm) with h | ⟨h, _⟩ <;> omega)).trans h
  have own : ∀ v (xs : List Value) n, A.ownsRow (w.heap.size + 6) 3 1 v n xs → B.ownsRow (w.heap.size + 6) 3 1 v n xs := fun v xs n hr => hr.kept hg (by
    rcases hr.2 with ⟨rfl, _⟩ | ⟨g, cap, cur, rfl, hbg, hgb, _⟩
    · exact .inl rfl
    · refine .inr fun e' => ?_
      rcases hrow g (by simpa [Value.ownBlock] using e'.symm) with h | ⟨_, o, ho, hc⟩
      · omega
      · rw [hgb] at ho; cases ho; cases hc)
  refine ⟨⟨v, u, keep _ _ h1 (by omega) (by omega), keep _ _ h2 (by omega) (by omega), own _ _ _ r1, own _ _ _ r2, hne⟩, keep _ _ h4 (by omega) (by omega), keep _ _ h5 (by omega) (by omega), keep _ _ h6 (by omega) (by omega), ?_, Nat.le_trans hsz hg.size⟩
  exact hb.grown hg hb.size (fun k e => by rcases hrow k e with h | ⟨h, _⟩ <;> omega)
theorem resTk9 {W : World} {B : Nat} {cs : Array Value} (h : W.heap[B]? = some (.cells cs 33 (0, 0))) (hs : cs.size = 2) (tmps : Array Value) (h4 : tmps.getD 4 undef = .pointer (some ⟨B, 0, none⟩)) :
    (results Tryd.f9 tmps).run Tryd.prog W = .ok (.agg cs) W := by
  have h4' : tmps[4]?.getD undef = .pointer (some ⟨B, 0, none⟩) := by simpa using h4
  have hl := run_loadVar_row (P := Tryd.prog) W B 33 33 cs (0, 0) _ h Tryd.underlying33 rfl (by rw [hs]; kernel_rfl)
  simp [results, Tryd.results9, h4', asAddr, hl]
theorem ne_flip {a b : Option Nat} (h : a = none ∨ a ≠ b) : b = none ∨ b ≠ a := by
  rcases h with h | h
  · rw [h]; exact Decidable.em _
  · exact .inr (Ne.symm h)
theorem two_add {w W w1 : World} {v u v' : Value} {n m n' B : Nat} {xs us ys : List Value} {tmp : Obj} (hsz : w.heap.size + 6 ≤ W.heap.size) (hB : B < w.heap.size + 6) (hB0 : w.heap.size ≤ B) (hv : Boxed W B 31 v)
    (r1 : W.ownsRow (w.heap.size + 6) 3 1 v n xs) (r2 : W.ownsRow (w.heap.size + 6) 3 1 u m us) (hne : v.ownBlock = none ∨ v.ownBlock ≠ u.ownBlock)
    (hown' : w1.ownsRow (w.heap.size + 6) 3 1 v' n' ys) (hg : (W.alloc tmp).grownBy w1 v.ownBlock) (hat : v'.ownBlock = v.ownBlock ∨ v'.ownBlock = some (W.alloc tmp).heap.size) :
    Boxed (w1.setCell ⟨B, 0, none⟩ v') B 31 v' ∧ (w1.setCell ⟨B, 0, none⟩ v').ownsRow (w.heap.size + 6) 3 1 v' n' ys ∧ (w1.setCell ⟨B, 0, none⟩ v').ownsRow (w.heap.size + 6) 3 1 u m us ∧
      (v'.ownBlock = none ∨ v'.ownBlock ≠ u.ownBlock) ∧ (∀ k, k < w.heap.size + 6 → k ≠ B → (w1.setCell ⟨B, 0, none⟩ v').heap[k]? = W.heap[k]?) ∧ KeepsFrom (w.heap.size + 6) W (w1.setCell ⟨B, 0, none⟩ v') ∧ Below w.heap.size W (w1.setCell ⟨B, 0, none⟩ v') ∧ W.heap.size ≤ (w1.setCell ⟨B, 0, none⟩ v').heap.size := by
  obtain ⟨hv1, hv2, hr2, hk2, hb2⟩ := hv.appended (n₀ := w.heap.size) (by decide) (ownsRow_mono r1 (by omega)) (by omega) hB0 (ownsRow_mono hown' (by omega)) hg
  refine ⟨hv2, ownsRow_setCell_below hown' hB _, ownsRow_setCell_below ((r2.alloc tmp).kept hg ?_) hB _, ?_, fun k hk hkB => ?_, hk2.from _, hb2, hk2.size⟩
  · rcases hne with h | h
    · rw [h]; exact Decidable.em _
    · exact .inr (Ne.symm h)
  · rcases hat with h | h
    · rw [h]; exact hne
    · refine .inr fun e => ?_
      rw [h] at e
      have := (r2.lt _ e.symm).2
      rw [World.size_alloc] at this
      omega
  · rw [Below.heap_setCell _ _ _ _ (by simpa using hkB), hg.block k (by simp; omega) (fun e => by have := (r1.lt k (by first | exact e | exact e.symm)).1; omega)]
    exact Below.heap_alloc _ _ _ (by omega)
theorem TwoI.start (w : World) (p : Option Addr) (cap : Nat) (l : List Rt) (mv : Array Value) : TwoI w p cap l mv [] ((((((w.alloc (.cells mv 28)).alloc (.cells #[.slice none 0 0, .bool false] 33)).alloc (.cells #[.slice none 0 0] 31)).alloc (.cells #[.slice none 0 0] 31)).alloc (.cells #[.slice p l.length cap] 22)).alloc (.cells mv 28)) := by
  generalize hw1 : w.alloc (.cells mv 28) = w1
  have s1 : w1.heap.size = w.heap.size + 1 := by rw [← hw1]; simp
  generalize hw2 : w1.alloc (.cells #[.slice none 0 0, .bool false] 33) = w2
  have s2 : w2.heap.size = w.heap.size + 2 := by rw [← hw2]; simp; omega
  generalize hw3 : w2.alloc (.cells #[.slice none 0 0] 31) = w3
  have s3 : w3.heap.size = w.heap.size + 3 := by rw [← hw3]; simp; omega
  generalize hw4 : w3.alloc (.cells #[.slice none 0 0] 31) = w4
  have s4 : w4.heap.size = w.heap.size + 4 := by rw [← hw4]; simp; omega
  generalize hw5 : w4.alloc (.cells #[.slice p l.length cap] 22) = w5
  have s5 : w5.heap.size = w.heap.size + 5 := by rw [← hw5]; simp; omega
  have n1 : w2.heap[w.heap.size + 1]? = some (.cells #[.slice none 0 0, .bool false] 33 (0, 0)) := by rw [← s1, ← hw2]; exact heap_alloc_new _ _
  have n2 : w3.heap[w.heap.size + 2]? = some (.cells #[.slice none 0 0] 31 (0, 0)) := by rw [← s2, ← hw3]; exact heap_alloc_new _ _
  have n3 : w4.heap[w.heap.size + 3]? = some (.cells #[.slice none 0 0] 31 (0, 0)) := by rw [← s3, ← hw4]; exact heap_alloc_new _ _
  have n4 : w5.heap[w.heap.size + 4]? = some (.cells #[.slice p l.length cap] 22 (0, 0)) := by rw [← s4, ← hw5]; exact heap_alloc_new _ _
  have b0 : Below w.heap.size w w1 := hw1 ▸ (Below.refl _ _).alloc (Nat.le_refl _) _
  have b1 : Below w1.heap.size w1 w2 := hw2 ▸ (Below.refl _ _).alloc (Nat.le_refl _) _
  have b2 : Below w2.heap.size w2 w3 := hw3 ▸ (Below.refl _ _).alloc (Nat.le_refl _) _
  have b3 : Below w3.heap.size w3 w4 := hw4 ▸ (Below.refl _ _).alloc (Nat.le_refl _) _
  have b4 : Below w4.heap.size w4 w5 := hw5 ▸ (Below.refl _ _).alloc (Nat.le_refl _) _
  have b5 : Below w5.heap.size w5 (w5.alloc (.cells mv 28)) := (Below.refl _ _).alloc (Nat.le_refl _) _
  have b45 := b4.trans (b5.mono b4.size)
  have b35 := b3.trans (b45.mono b3.size)
  have b25 := b2.trans (b35.mono b2.size)
  have b15 := b1.trans (b25.mono b1.size)
  have b05 := b0.trans (b15.mono b0.size)
  refine ⟨⟨_, _, (b35.block _ (by omega)).trans n2, (b45.block _ (by omega)).trans n3, World.ownsRow_nil _ _ _ _, World.ownsRow_nil _ _ _ _, .inl rfl⟩, (b25.block _ (by omega)).trans n1, (b5.block _ (by omega)).trans n4, ?_, b05, by simp; omega⟩
  rw [← s5]; exact heap_alloc_new _ _

theorem find_done {w W : World} {D : Nat} {v : Value} {xs : List Nat} {e : Bool} {t : List Nat × Bool} (hD : w.heap.size + 6 ≤ D) (r : W.ownsRow (w.heap.size + 6) 3 1 v xs.length (xs.map nv)) (hB : Below w.heap.size w W)
    (hK : W.heap[D]? = some (.deferred (some []))) (ht : t = (xs, e)) (u : Bool) (hu : u = e) :
    TakenPost w t (.returned (.agg #[v, .bool u])) (((W.setCell ⟨w.heap.size + 1, 0, none⟩ v).setCell ⟨w.heap.size + 1, 1, none⟩ (.bool e)).putObj D (.deferred none)) := by
  have hK2 : ((W.setCell ⟨w.heap.size + 1, 0, none⟩ v).setCell ⟨w.heap.size + 1, 1, none⟩ (.bool e)).heap[D]? = some (.deferred (some [])) := by
    rw [Below.heap_setCell _ _ _ _ (by simp; omega), Below.heap_setCell _ _ _ _ (by simp; omega)]; exact hK
  have h5 : Below w.heap.size w ((W.setCell ⟨w.heap.size + 1, 0, none⟩ v).setCell ⟨w.heap.size + 1, 1, none⟩ (.bool e)) := (hB.setCell (by simp) _).setCell (by simp) _
  subst hu; subst ht
  refine ⟨v, rfl, ints_of_own (ownsRow_putObj (ownsRow_setCell_below (ownsRow_setCell_below r (by simp) _) (by simp) _) (.deferred none) hK2 rfl), ?_, fresh_of_own r (by omega)⟩
  exact h5.trans (belowK_b (w := w) (Nat.le_refl _) _ D _ _ (by omega) hK2 rfl rfl)
set_option maxRecDepth 100000 in
set_option maxHeartbeats 8000000 in
theorem find_any (k : Nat) (p : Option Addr) (cap : Nat) (l : List Rt) (w : World) (hl : Rts w k p l) (hok : ∀ r ∈ l, OkR k r) (hT : Tabs w)
    (dk : Nat) (hdk : dk < 14) (di : Int) (db : Int) (ds : ByteArray) (q : Option Addr) (m c : Nat) (id : Int) (tp : ByteArray) (at_ un : Int) (rp : ByteArray) (co pr hp : Int) (htp : tp.size ≤ 1048576) :
    Calls Tryd.prog 9 #[.slice p l.length cap, .agg #[.int .i64 id, .string tp, .int .i64 (dk : Nat), .int .i64 di, .int .u64 db, .string ds, .slice q m c, .int .i64 at_, .int .i64 un, .string rp, .int .i64 co, .int .i64 pr, .int .i64 hp]] w (TakenPost w (findR (agFrom k tp dk 0 l))) := by
  obtain ⟨i0, hi, hz0, hz1, hz2⟩ := info_parts info_int
  have hll := agFrom_len k tp dk l 0
  have hl1 := hl.1
  obtain ⟨L, hL⟩ : ∃ L, Hid (agFrom k tp dk 0 l = L) := ⟨_, rfl⟩
  rw [hL.out] at hll
  refine callsIn_wide.1 (?_ : CallsIn Fence.wide 4 _ _ _ _ _)
  refine callsIn_of_wp_marks Tryd.func9 rfl trivial ?_ rfl
  simp only [Tryd.ntmps9, List.size_toArray, List.length_cons, List.length_nil, Nat.reduceAdd, Nat.reduceSub, Array.replicate_succ, Array.replicate_zero, List.push_toArray, List.append_toArray, List.nil_append, List.cons_append]
  gi_wp2_with (refine ⟨trivial, ?_⟩; gi_at_call 21; refine (agree_fn _ _ _ dk di db ds q m c id tp at_ un rp co pr hp p l.length cap rfl).mono ?_; rintro e w' ⟨rfl, rfl⟩)
  refine wpIn_range_know rfl (by omega) (gf := 36) (lb := #[.pointer (some ⟨w.heap.size + 4, 0, none⟩), .pointer (some ⟨w.heap.size + 5, 0, none⟩)]) rfl trivial (enters_of Tryd.func36 (by kernel_rfl) rfl)
    (Bn := w.heap.size) (by simp; omega) (agree1_seq _ (by omega) w.heap.size (w.heap.size + 4) (w.heap.size + 5) k p cap l dk hdk di db ds q m c id tp at_ un rp co pr hp htp hok L hL _) (fun _ => rfl)
    (TwoI w p cap l #[.int .i64 id, .string tp, .int .i64 (dk : Nat), .int .i64 di, .int .u64 db, .string ds, .slice q m c, .int .i64 at_, .int .i64 un, .string rp, .int .i64 co, .int .i64 pr, .int .i64 hp]) (fun _ _ _ => False) (by have := TwoI.holds w p cap l #[.int .i64 id, .string tp, .int .i64 (dk : Nat), .int .i64 di, .int .u64 db, .string ds, .slice q m c, .int .i64 at_, .int .i64 un, .string rp, .int .i64 co, .int .i64 pr, .int .i64 hp]; simpa using this) (fun _ _ _ _ _ hs _ _ => hs)
    (fun xs W h => ⟨hl.below h.2.2.2.2.1, h.2.2.1, h.2.2.2.1, hT.below h.2.2.2.2.1⟩) (TwoI.start w p cap l _)
    (fun x => { tmps := #[.slice p l.length cap, .agg #[.int .i64 id, .string tp, .int .i64 (dk : Nat), .int .i64 di, .int .u64 db, .string ds, .slice q m c, .int .i64 at_, .int .i64 un, .string rp, .int .i64 co, .int .i64 pr, .int .i64 hp], undef, .pointer (some ⟨w.heap.size, 0, none⟩), .pointer (some ⟨w.heap.size + 1, 0, none⟩), .pointer (some ⟨w.heap.size + 2, 0, none⟩), .pointer (some ⟨w.heap.size + 3, 0, none⟩), .int .i64 (x.1 : Nat), .bool x.2, .slice p l.length cap, .agg #[.int .i64 id, .string tp, .int .i64 (dk : Nat), .int .i64 di, .int .u64 db, .string ds, .slice q m c, .int .i64 at_, .int .i64 un, .string rp, .int .i64 co, .int .i64 pr, .int .i64 hp], .func (.func 36) #[] #[.pointer (some ⟨w.heap.size + 4, 0, none⟩), .pointer (some ⟨w.heap.size + 5, 0, none⟩)], .int .i64 (x.1 : Nat), .bool x.2, undef, undef, undef, undef, undef, undef, undef, undef, undef, undef, undef, undef, undef, undef, undef, undef, undef, undef, undef, undef, undef], defers := [] }) ?assign ?body ?done ?stop
  case assign =>
    intro l x W K hK
    gi_wp2
    exact hK
  case body =>
    rintro l' pre x W ⟨⟨v, u, h1, h2, r1, r2, hne⟩, h4, h5, h6, hB, hsz⟩ hlt
    have hc1 := Boxed.cell h1
    have hc2 := Boxed.cell h2
    have hp1 := pl_len false pre
    have hp2 := pl_len true pre
    obtain ⟨x1, x2⟩ := x
    cases x2 with
    | false =>
      gi_wp2_with (gi_at_builtin; refine wpListIn_append_own_at _ rfl _ _ 31 rfl (w.heap.size + 6) 3 i0 (.int .i64 0) 1 8 Tryd.underlying31 hi hz0 hz1 hz2 rfl (by decide) _ _ _ rfl (r1.alloc _) ⟨W.heap.size, 0, none⟩ 1 1 [nv x1] rfl rfl (news_cell _ _ _) (fun x hx => by simp at hx; subst hx; rfl) (by unfold maxLen; omega) (by omega) (by simp; omega) ?_; intro v' w1 hown' hgrow _ hat; obtain ⟨g', cap', rfl⟩ := ownsRow_succ hown'; obtain ⟨t1, t2, t3, t4, t5, t6, t7, t8⟩ := two_add hsz (B := w.heap.size + 2) (by omega) (by omega) h1 r1 r2 hne hown' hgrow hat; have hv1 : Boxed w1 (w.heap.size + 2) 31 v := Boxed.kept (Boxed.alloc h1 _) hgrow (Boxed.not_row h1 (by decide) r1); have hc3 := hv1.cell; have hf3 := hv1.frozen)
      refine ⟨by simpa using t6, t5 _ (by omega) (by omega), ⟨⟨_, u, t1, (t5 _ (by omega) (by omega)).trans h2, by simpa [pl] using t2, by simpa [pl] using t3, t4⟩, (t5 _ (by omega) (by omega)).trans h4, (t5 _ (by omega) (by omega)).trans h5, (t5 _ (by omega) (by omega)).trans h6, hB.trans t7, by omega⟩⟩
    | true =>
      gi_wp2_with (gi_at_builtin; refine wpListIn_append_own_at _ rfl _ _ 31 rfl (w.heap.size + 6) 3 i0 (.int .i64 0) 1 8 Tryd.underlying31 hi hz0 hz1 hz2 rfl (by decide) _ _ _ rfl (r2.alloc _) ⟨W.heap.size, 0, none⟩ 1 1 [nv x1] rfl rfl (news_cell _ _ _) (fun x hx => by simp at hx; subst hx; rfl) (by unfold maxLen; omega) (by omega) (by simp; omega) ?_; intro v' w1 hown' hgrow _ hat; obtain ⟨g', cap', rfl⟩ := ownsRow_succ hown'; obtain ⟨t1, t2, t3, t4, t5, t6, t7, t8⟩ := two_add hsz (B := w.heap.size + 3) (by omega) (by omega) h2 r2 r1 (ne_flip hne) hown' hgrow hat; have hv1 : Boxed w1 (w.heap.size + 3) 31 u := Boxed.kept (Boxed.alloc h2 _) hgrow (Boxed.not_row h2 (by decide) r2); have hc3 := hv1.cell; have hf3 := hv1.frozen)
      refine ⟨by simpa using t6, t5 _ (by omega) (by omega), ⟨⟨v, _, (t5 _ (by omega) (by omega)).trans h1, t1, by simpa [pl] using t3, by simpa [pl] using t2, ne_flip t4⟩, (t5 _ (by omega) (by omega)).trans h4, (t5 _ (by omega) (by omega)).trans h5, (t5 _ (by omega) (by omega)).trans h6, hB.trans t7, by omega⟩⟩
  case done =>
    rintro D ys W hD rfl ⟨⟨v, u, h1, h2, r1, r2, hne⟩, h4, h5, h6, hB, hsz⟩ hK
    obtain ⟨p2, cap2, rfl, -⟩ := ints_of_own r1
    obtain ⟨p3, cap3, rfl, -⟩ := ints_of_own r2
    have hc1 := Boxed.cell h1
    have hc2 := Boxed.cell h2
    have q0 : W.cell? ⟨w.heap.size + 1, 0, none⟩ = some (.slice none 0 0) := cell_of_row W _ 0 _ _ _ h4
    have q1 : W.cell? ⟨w.heap.size + 1, 1, none⟩ = some (.bool false) := cell_of_row W _ 1 _ _ _ h4
    have z2 := frz h4 0
    have z3 := frz h4 1
    have HL := Lib.hid hL.out
    by_cases hf : pl false ys = []
    · by_cases hg : pl true ys = []
      · have HT : Hid (findR ys = ([], false)) := by show _ = _; unfold findR; rw [if_pos hf, hg]; rfl
        rw [hf] at r1 h1 hc1
        rw [hg] at r2 h2 hc2
        simp only [List.length_nil, List.map_nil] at r1 h1 hc1 r2 h2 hc2
        clear hf hg
        gi_wp2
        have hK2 : ((W.setCell ⟨w.heap.size + 1, 0, none⟩ (.slice p2 0 cap2)).setCell ⟨w.heap.size + 1, 1, none⟩ (.bool false)).heap[D]? = some (.deferred (some [])) := by
          rw [Below.heap_setCell _ _ _ _ (by simp at hD; simp; omega), Below.heap_setCell _ _ _ _ (by simp at hD; simp; omega)]; exact hK
        refine ⟨by simp, .inl ⟨_, _, rfl, run_takeDeferred hK2, ?_⟩⟩
        refine ⟨_, resTk9 (B := w.heap.size + 1) ((World.putObj_heap_other (by simp at hD; omega)).trans (heap_set2 h4 _ _)) rfl _ rfl, ?_⟩
        rw [hL.out]
        exact find_done (xs := []) (by simpa using hD) r1 hB hK HT.out _ rfl
      · have hpos : (0 : Int) < ((pl true ys).length : Int) := by have := List.length_pos_iff.2 hg; omega
        have HT : Hid (findR ys = (pl true ys, true)) := by show _ = _; unfold findR; rw [if_pos hf]; simp [hg]
        rw [hf] at r1 h1 hc1
        simp only [List.length_nil, List.map_nil] at r1 h1 hc1
        have heq2 : (((pl true ys).length : Int) == 0) = false := by simp; omega
        clear hf hg
        gi_wp2
        have hK2 : ((W.setCell ⟨w.heap.size + 1, 0, none⟩ (.slice p3 (pl true ys).length cap3)).setCell ⟨w.heap.size + 1, 1, none⟩ (.bool true)).heap[D]? = some (.deferred (some [])) := by
          rw [Below.heap_setCell _ _ _ _ (by simp at hD; simp; omega), Below.heap_setCell _ _ _ _ (by simp at hD; simp; omega)]; exact hK
        refine ⟨by simp, .inl ⟨_, _, rfl, run_takeDeferred hK2, ?_⟩⟩
        refine ⟨_, resTk9 (B := w.heap.size + 1) ((World.putObj_heap_other (by simp at hD; omega)).trans (heap_set2 h4 _ _)) rfl _ rfl, ?_⟩
        rw [hL.out]
        exact find_done (by simpa using hD) r2 hB hK HT.out _ rfl
    · have hpos : (0 : Int) < ((pl false ys).length : Int) := by have := List.length_pos_iff.2 hf; omega
      have HT : Hid (findR ys = (pl false ys, false)) := by show _ = _; unfold findR; rw [if_neg hf]
      gi_wp2
      have hK2 : ((W.setCell ⟨w.heap.size + 1, 0, none⟩ (.slice p2 (pl false ys).length cap2)).setCell ⟨w.heap.size + 1, 1, none⟩ (.bool false)).heap[D]? = some (.deferred (some [])) := by
        rw [Below.heap_setCell _ _ _ _ (by simp at hD; simp; omega), Below.heap_setCell _ _ _ _ (by simp at hD; simp; omega)]; exact hK
      refine ⟨by simp, .inl ⟨_, _, rfl, run_takeDeferred hK2, ?_⟩⟩
      refine ⟨_, resTk9 (B := w.heap.size + 1) ((World.putObj_heap_other (by simp at hD; omega)).trans (heap_set2 h4 _ _)) rfl _ rfl, ?_⟩
      rw [hL.out]
      exact find_done (by simpa using hD) r1 hB hK HT.out _ rfl
  case stop =>
    rintro D c pre W _ _ h _
    exact h.elim
end Go.Proofs.YtpgdiekpeceicaaDoor
