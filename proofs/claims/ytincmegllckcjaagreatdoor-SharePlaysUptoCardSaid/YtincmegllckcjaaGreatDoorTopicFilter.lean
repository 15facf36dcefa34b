/- THE PROGRAM's plain, Name and Filter. -/
import Derived.Test.YtincmegllckcjaaGreatDoorMTopicRefC
namespace Go.Proofs.YtincmegllckcjaaGreatDoor
open Go Go.RowKit Go.Shelf
attribute [local go_sem] Oper.semAt_some

/-- the program's own way of seeing that levels are a filter's -/
def fOk : Bool → List ByteArray → Bool
  | _, [] => true
  | ov, x :: r => if ov || (hasB x.data.toList 43 35 && decide (1 < x.size)) then false else fOk (x.toList == [35]) r

theorem one_byte (x : ByteArray) (c : UInt8) : (x.toList == [c]) = true ↔ x.size = 1 ∧ hasB x.data.toList c.toNat c.toNat = true := by
  rw [beq_iff_eq, ByteArray.toList_eq]
  constructor
  · intro h
    refine ⟨by have := congrArg List.length h; simpa using this, by rw [h]; simp [hasB]⟩
  · rintro ⟨h1, h2⟩
    have h3 : x.data.toList.length = 1 := by simpa using h1
    obtain ⟨d, hd⟩ := List.length_eq_one_iff.1 h3
    rw [hd] at h2 ⊢
    simp [hasB] at h2
    have e : d = c := UInt8.toNat_inj.1 (by omega)
    rw [e]

theorem fOk_eq : ∀ l : List ByteArray, fOk false l = levOk l ∧ (∀ x r, l = x :: r → fOk true l = false)
  | [] => ⟨rfl, by simp⟩
  | x :: r => by
    refine ⟨?_, by intro y r' e; cases e; simp [fOk]⟩
    have ih := fOk_eq r
    unfold fOk levOk
    by_cases h : hasB x.data.toList 43 35 = true
    · by_cases h1 : x.size = 1
      · have h3 : x.data.toList.length = 1 := by simpa using h1
        obtain ⟨d, hd⟩ := List.length_eq_one_iff.1 h3
        have hd' : x.toList = [d] := by rw [ByteArray.toList_eq]; exact hd
        rw [hd] at h
        rw [hd', hd, h1]
        have h' : (d.toNat : Int) = 43 ∨ (d.toNat : Int) = 35 := by simpa [hasB] using h
        rcases h' with h' | h'
        · obtain rfl : d = 43 := UInt8.toNat_inj.1 (by simpa using (by omega : d.toNat = 43))
          simp [ih.1, hasB]
        · obtain rfl : d = 35 := UInt8.toNat_inj.1 (by simpa using (by omega : d.toNat = 35))
          cases r with
          | nil => simp [hasB, fOk, levOk]
          | cons y r => simp [hasB, fOk]
      · have h0 : x.size ≠ 0 := by
          intro h0
          have : x.data.toList = [] := by apply List.eq_nil_of_length_eq_zero; simpa using h0
          rw [this] at h; simp [hasB] at h
        have e43 : (x.toList == [43]) = false := by rw [Bool.eq_false_iff]; intro e; exact h1 ((one_byte x 43).1 e).1
        have e35 : (x.toList == [35]) = false := by rw [Bool.eq_false_iff]; intro e; exact h1 ((one_byte x 35).1 e).1
        rw [h, e43, e35, decide_eq_true (by omega : 1 < x.size)]
        simp
    · simp only [Bool.not_eq_true] at h
      have e35 : (x.toList == [35]) = false := by
        rw [Bool.eq_false_iff]; intro e
        have := ((one_byte x 35).1 e).2
        rw [← Bool.not_eq_true] at h
        apply h
        unfold hasB at this ⊢
        rw [List.any_eq_true] at this ⊢
        obtain ⟨c, hc, h2⟩ := this
        exact ⟨c, hc, by simp at h2 ⊢; omega⟩
      rw [h, e35]
      simp [ih.1]
/-- the boxes of Filter's walk: the result's, and 'over' -/
def FilI (w w1 : World) (L : List ByteArray) (pre : List {x // x ∈ L}) (W : World) : Prop :=
  (Boxed W w.heap.size 4 (.bool false) ∧ ∃ ov, Boxed W w1.heap.size 4 (.bool ov) ∧ Hid (∀ r, fOk false (pre.map Subtype.val ++ r) = fOk ov r)) ∧ Below w.heap.size w W ∧ w1.heap.size + 2 ≤ W.heap.size
def FilX (w w1 : World) (L : List ByteArray) (c : Code) (pre : List {x // x ∈ L}) (W : World) : Prop :=
  c = .ret ∧ Boxed W w.heap.size 4 (.bool false) ∧ Hid (∀ r, fOk false (pre.map Subtype.val ++ r) = false) ∧ Below w.heap.size w W ∧ w1.heap.size + 2 ≤ W.heap.size

theorem FilI.holds {w w1 : World} (h : w.heap.size < w1.heap.size) (L : List ByteArray) : Holds (w1.heap.size + 2) (w1.heap.size + 1) (FilI w w1 L) := by
  rintro s A B row ⟨⟨hv, ov, ho, hh⟩, hb, hsz⟩ hg hrow
  refine ⟨⟨hv.kept hg (fun e' => ?_), ov, ho.kept hg (fun e' => ?_), hh⟩, hb.grown hg hb.size (fun k e => ?_), Nat.le_trans hsz hg.size⟩
  · rcases hrow _ e'.symm with h | ⟨h, _⟩ <;> omega
  · rcases hrow _ e'.symm with h | ⟨h, _⟩ <;> omega
  · rcases hrow k e with h | ⟨h, _⟩ <;> omega
theorem FilX.holds {w w1 : World} (h : w.heap.size < w1.heap.size) (L : List ByteArray) (c : Code) : Holds (w1.heap.size + 2) (w1.heap.size + 1) (FilX w w1 L c) := by
  rintro s A B row ⟨hc, hv, hh, hb, hsz⟩ hg hrow
  refine ⟨hc, hv.kept hg (fun e' => ?_), hh, hb.grown hg hb.size (fun k e => ?_), Nat.le_trans hsz hg.size⟩
  · rcases hrow _ e'.symm with h | ⟨h, _⟩ <;> omega
  · rcases hrow k e with h | ⟨h, _⟩ <;> omega
theorem Boxed.below {W W' : World} {B : Nat} {t : TypeId} {v : Value} (h : Boxed W B t v) (hb : Below W.heap.size W W') : Boxed W' B t v := (hb.block B h.lt).trans h
theorem keepsFrom_of_below {B : Nat} {W W' : World} (hb : Below W.heap.size W W') : KeepsFrom B W W' := ⟨hb.size, fun k _ _ hk _ => (hb.block k (Array.getElem?_eq_some_iff.1 hk).1).trans hk⟩

theorem idx0_has (l : List UInt8) : decide (Lib.indexByte l 0 < 0) = !hasB l 0 0 := by
  by_cases h : Lib.indexByte l 0 < 0
  · have := idx_neg 0 l h
    rw [decide_eq_true h]
    symm
    rw [Bool.not_eq_true', ← Bool.not_eq_true]
    unfold hasB
    rw [List.any_eq_true]
    rintro ⟨x, hx, h2⟩
    apply this x hx
    simp at h2
    exact UInt8.toNat_inj.1 (by simp; omega)
  · obtain ⟨k, h1, h2, h3, h4⟩ := idx_pos 0 l (by omega)
    rw [decide_eq_false h]
    symm
    rw [Bool.not_eq_false']
    unfold hasB
    rw [List.any_eq_true]
    exact ⟨0, by rw [h3]; simp, by simp⟩

set_option maxRecDepth 100000 in
set_option maxHeartbeats 1000000 in
theorem plain_any (hI : IndexByteSaid) (hV : ValidSaid) (s : ByteArray) (w : World) (hs : s.size ≤ 9223372036854775807) (hT : Tabs w) :
    Calls Tryz.prog 60 #[.string s] w fun e w' => e = .returned (.bool (plainB s.data.toList)) ∧ Below w.heap.size w w' := by
  have cV := hV s w hs hT
  have CI : Hid (∀ w, Calls Tryz.prog 90 #[.string s, .int .u8 0] w fun e w' => e = .returned (.int .i64 (Lib.indexByte s.data.toList 0)) ∧ w = w') := fun w => by
    have := hI s 0 w; simpa using this
  have HX := Lib.hid (idx0_has s.data.toList)
  by_cases h0 : s.size = 0
  · have HH := Lib.hid (plainB_no s (.inl h0))
    have e0 : s.toList = [] := (toList_nil_iff s).2 h0
    have e1 : (s.toList != []) = false := by simp [e0]
    clear cV h0
    go_enter Tryz.func60, Tryz.ntmps60
    go_wp2
    go_ret
    exact ⟨ret_bool HH.out.symm, Below.refl _ _⟩
  · have e0 : ¬ s.toList = [] := fun h => h0 ((toList_nil_iff s).1 h)
    have e1 : (s.toList != []) = true := by simpa using e0
    have e2 : s.toList.isEmpty = false := by simpa using e0
    by_cases h1 : 65535 < s.size
    · have HH := Lib.hid (plainB_no s (.inr (.inl h1)))
      have h1' : ¬ ((s.size : Int) ≤ 65535) := by omega
      clear cV
      go_enter Tryz.func60, Tryz.ntmps60
      go_wp2
      go_ret
      exact ⟨ret_bool HH.out.symm, Below.refl _ _⟩
    · have h1' : (s.size : Int) ≤ 65535 := by omega
      by_cases h2 : Lib.validD s.data.toList = true
      · have HP := Lib.hid (plainB_yes s (by omega) (by omega) h2)
        rw [h2] at cV
        clear h2
        generalize Lib.indexByte s.data.toList 0 = ix at *
        generalize hasB s.data.toList 0 0 = hb0 at *
        cases hb0
        · have hx : ix < 0 := by simpa using HX.out
          clear HX
          go_enter Tryz.func60, Tryz.ntmps60
          go_wp2_with (first | (go_at_call 45; refine cV.mono ?_; rintro e w' ⟨rfl, hb⟩) | (go_at_call 90; refine (CI.out _).mono ?_; rintro e w1 ⟨rfl, rfl⟩))
          go_ret
          exact ⟨ret_bool HP.out.symm, hb⟩
        · have hx : ¬ ix < 0 := by simpa using HX.out
          clear HX
          go_enter Tryz.func60, Tryz.ntmps60
          go_wp2_with (first | (go_at_call 45; refine cV.mono ?_; rintro e w' ⟨rfl, hb⟩) | (go_at_call 90; refine (CI.out _).mono ?_; rintro e w1 ⟨rfl, rfl⟩))
          go_ret
          exact ⟨ret_bool (by rw [HP.out]; simp; omega), hb⟩
      · have HH := Lib.hid (plainB_no s (.inr (.inr (by simpa using h2))))
        simp only [Bool.not_eq_true] at h2
        rw [h2] at cV
        clear h2
        go_enter Tryz.func60, Tryz.ntmps60
        go_wp2_with (go_at_call 45; refine cV.mono ?_; rintro e w' ⟨rfl, hb⟩)
        go_ret
        exact ⟨ret_bool HH.out.symm, hb⟩

set_option maxHeartbeats 400000 in
theorem name_any (hI : IndexByteSaid) (hV : ValidSaid) (hC : ContainsSaid) (s : ByteArray) (w : World) (hs : s.size ≤ 1048576) (hT : Tabs w) :
    Calls Tryz.prog 27 #[.string s] w fun e w' => e = .returned (.bool (nameB s.data.toList)) ∧ Below w.heap.size w w' := by
  have cP := plain_any hI hV s w (by omega) hT
  have CC := Lib.hid (fun w => hC s w hs)
  unfold nameB
  generalize plainB s.data.toList = p at cP ⊢
  cases p
  · go_enter Tryz.func27, Tryz.ntmps27
    go_wp2_with (go_at_call 60; refine cP.mono ?_; rintro e w' ⟨rfl, hb⟩)
    go_ret
    exact ⟨rfl, hb⟩
  · go_enter Tryz.func27, Tryz.ntmps27
    go_wp2_with (first | (go_at_call 60; refine cP.mono ?_; rintro e w' ⟨rfl, hb⟩) | (go_at_call 44; refine (CC.out _).mono ?_; rintro e w1 ⟨rfl, hb1⟩))
    go_ret
    exact ⟨rfl, hb.trans (hb1.mono hb.size)⟩

/-- the end of a round that goes on -/
theorem fil_next {B : Nat} {w w1 W W3 : World} {L : List ByteArray} {pre : List {x // x ∈ L}} {x : {x // x ∈ L}} {v : Value} {b : Bool} {a : Act} (hne : w.heap.size < w1.heap.size)
    (hv : Boxed W w.heap.size 4 (.bool false)) (ho : Boxed W w1.heap.size 4 v) (hB : Below w.heap.size w W) (hsz : w1.heap.size + 2 ≤ W.heap.size)
    (hb3 : Below W.heap.size W W3) (hh : ∀ r, fOk false ((pre ++ [x]).map Subtype.val ++ r) = fOk b r) :
    boxPost B (w1.heap.size + 1) (FilI w w1 L) (FilX w w1 L) (pre ++ [x]) W .normal a (W3.setCell ⟨w1.heap.size, 0, none⟩ (.bool b)) := by
  have hv3 := Boxed.below hv hb3
  have ho3 := Boxed.below ho hb3
  refine ⟨(keepsFrom_of_below hb3).trans ((KeepsOthers.setCell _ _ _).from _), ?_, ⟨⟨hv3.kept (grownBy_setCell' _ _ _) (by simp; omega), b, ho3.set _, hh⟩, (hB.trans (hb3.mono hB.size)).setCell (p := ⟨w1.heap.size, 0, none⟩) (by show w.heap.size ≤ w1.heap.size; omega) _, ?_⟩⟩
  · exact (Below.heap_setCell _ _ _ _ (by simp)).trans (hb3.block _ (by omega))
  · have := hb3.size; simp [World.setCell]; omega

/-- the end of a round that says no -/
theorem fil_stop {B : Nat} {w w1 W W3 : World} {L : List ByteArray} {pre : List {x // x ∈ L}} {x : {x // x ∈ L}} {a : Act}
    (hv : Boxed W w.heap.size 4 (.bool false)) (hB : Below w.heap.size w W) (hsz : w1.heap.size + 2 ≤ W.heap.size)
    (hb3 : Below W.heap.size W W3) (hh : ∀ r, fOk false ((pre ++ [x]).map Subtype.val ++ r) = false) :
    boxPost B (w1.heap.size + 1) (FilI w w1 L) (FilX w w1 L) (pre ++ [x]) W .ret a (W3.setCell ⟨w.heap.size, 0, none⟩ (.bool false)) := by
  have hv3 := Boxed.below hv hb3
  refine ⟨(keepsFrom_of_below hb3).trans ((KeepsOthers.setCell _ _ _).from _), ⟨rfl, hv3.set _, hh, (hB.trans (hb3.mono hB.size)).setCell (p := ⟨w.heap.size, 0, none⟩) (Nat.le_refl _) _, ?_⟩⟩
  have := hb3.size; simp [World.setCell]; omega

theorem fOk_step (x : ByteArray) (r : List ByteArray) (ov : Bool) : fOk ov (x :: r) = if ov || (hasB x.data.toList 43 35 && decide (1 < x.size)) then false else fOk (x.toList == [35]) r := rfl

set_option maxRecDepth 100000 in
set_option maxHeartbeats 4000000 in
theorem filter_any (hI : IndexByteSaid) (hV : ValidSaid) (hC : ContainsSaid) (s : ByteArray) (w : World) (hs : s.size ≤ 1048576) (hT : Tabs w) :
    Calls Tryz.prog 38 #[.string s] w fun e w' => e = .returned (.bool (filterB s)) ∧ Below w.heap.size w w' := by
  have cP := fun w hT => plain_any hI hV s w (by omega) hT
  have hT1 : Tabs (w.alloc (.cells #[.bool false] 4)) := hT.below ((Below.refl _ w).alloc (Nat.le_refl _) _)
  unfold filterB
  generalize plainB s.data.toList = p at cP ⊢
  have CP := Lib.hid cP
  clear cP
  cases p
  · go_enter Tryz.func38, Tryz.ntmps38
    go_wp2_with (go_at_call 60; refine (CP.out _ hT1).mono ?_; rintro e w' ⟨rfl, hb⟩; have hcr := (Boxed.below (Boxed.new w 4 (.bool false)) hb).cell; have hfr := (Boxed.below (Boxed.new w 4 (.bool false)) hb).frozen; have hz := (Boxed.below (Boxed.new w 4 (.bool false)) hb).lt)
    exact bodyPost_ret (v := .bool false) (by simp [results, Tryz.results38, go_sem, hcr]) rfl ⟨rfl, (((Below.refl _ w).alloc (Nat.le_refl _) _).trans (hb.mono (by simp))).setCell (p := ⟨w.heap.size, 0, none⟩) (Nat.le_refl _) _⟩
  · rw [Bool.true_and]
    obtain ⟨L, hL⟩ : ∃ L, Hid (levels s = L) := ⟨_, rfl⟩
    have HS : Hid (∀ x ∈ L, x.size ≤ 1048576) := fun x hx => by have := levels_size s x (by rw [hL.out]; exact hx); omega
    have HF : Hid (fOk false L = levOk (levels s)) := by rw [hL.out]; exact (fOk_eq L).1
    refine callsIn_wide.1 (?_ : CallsIn Fence.wide 4 _ _ _ _ _)
    refine callsIn_of_wp_marks Tryz.func38 rfl trivial ?_ rfl
    simp only [Tryz.ntmps38, List.size_toArray, List.length_cons, List.length_nil, Nat.reduceAdd, Nat.reduceSub, Array.replicate_succ, Array.replicate_zero, List.push_toArray, List.append_toArray, List.nil_append, List.cons_append]
    gi_wp2_with (first
      | (refine ⟨trivial, ?_⟩; gi_at_call 60; refine (callsIn_wide.2 (CP.out _ hT1)).mono ?_; rintro e w1 ⟨rfl, hb⟩; have bR := Boxed.below (Boxed.new w 4 (.bool false)) hb; have hcr := bR.cell; have hfr := bR.frozen; have hz := bR.lt)
      | (refine ⟨trivial, ?_⟩; gi_at_call 71; refine (levels_fn _ _ _).mono ?_; rintro e w' ⟨rfl, rfl⟩))
    have hbw : Below w.heap.size w w1 := ((Below.refl _ w).alloc (Nat.le_refl _) _).trans (hb.mono (by simp))
    have bO := Boxed.new w1 4 (.bool false)
    have bN := Boxed.new (w1.alloc (.cells #[.bool false] 4)) 9 (.string s)
    rw [World.size_alloc] at bN
    have hB0 : Below w.heap.size w ((w1.alloc (.cells #[.bool false] 4)).alloc (.cells #[.string s] 9)) := (hbw.alloc (by omega) _).alloc (by simp; omega) _
    clear hcr hfr
    refine wpIn_range_box rfl (by omega) (gf := 113) (lb := #[.pointer (some ⟨w1.heap.size + 1, 0, none⟩)]) rfl trivial (enters_of Tryz.func113 (by kernel_rfl) rfl)
      (Bn := w1.heap.size + 1) (by simp) (levels1_seq hI _ (by omega) (w1.heap.size + 1) s hs L hL _ bN) (fun _ => rfl)
      (FilI w w1 L) (FilX w w1 L) (by have := FilI.holds hz L; simpa using this) (fun c => by have := FilX.holds hz L c; simpa using this)
      ⟨⟨(bR.alloc _).alloc _, false, bO.alloc _, fun _ => rfl⟩, hB0, by simp⟩
      (fun x => { tmps := #[.string s, undef, .pointer (some ⟨w.heap.size, 0, none⟩), .pointer (some ⟨w1.heap.size, 0, none⟩), .string x.1, .string s, .bool true, .bool false, .string s, .func (.func 113) #[] #[.pointer (some ⟨w1.heap.size + 1, 0, none⟩)], .string x.1, undef, undef, undef, undef, undef, undef, undef, undef, undef, undef, undef, undef], defers := [] }) ?assign ?body ?done ?stop
    case assign =>
      intro l x W K hK
      gi_wp2
      exact hK
    case body =>
      rintro l pre x W ⟨⟨hv, ov, ho, hh⟩, hB, hsz⟩ hlt
      have hxs := HS.out x.1 x.2
      have CC : Hid (∀ w, Calls Tryz.prog 44 #[.string x.1, .string ⟨#[43, 35]⟩] w fun e w' => e = .returned (.bool (hasB x.1.data.toList 43 35)) ∧ Below w.heap.size w w') := fun w => hC x.1 w hxs
      have hst : Hid (∀ r, fOk false ((pre ++ [x]).map Subtype.val ++ r) = if ov || (hasB x.1.data.toList 43 35 && decide (1 < x.1.size)) then false else fOk (x.1.toList == [35]) r) := fun r => by
        rw [List.map_append, List.append_assoc, hh.out]; exact fOk_step _ _ _
      clear hh bO bN hB0 hb hbw
      have hc1 := hv.cell
      have hc2 := ho.cell
      have hf2 := ho.frozen
      have hne : w.heap.size ≠ w1.heap.size := by omega
      generalize hasB x.1.data.toList 43 35 = hasv at *
      have hsz0 : w1.heap.size < W.heap.size := by omega
      have hsz1 : w.heap.size < W.heap.size := by omega
      cases ov
      · cases hasv
        · have HN := Lib.hid (fun (B : Nat) (a : Act) W3 hb3 => fil_next (B := B) (a := a) (W3 := W3) hz hv ho hB hsz hb3 hst.out)
          gi_wp2_with (refine ⟨trivial, ?_⟩; gi_at_call 44; refine (CallsIn.inRound l (callsIn_wide.2 (CC.out _))).mono ?_; rintro e w3 ⟨rfl, hb3⟩; have hv3 := Boxed.below hv hb3; have ho3 := Boxed.below ho hb3; have hc3 := ho3.cell; have hf3 := ho3.frozen; have hz3 := ho3.lt)
          exact HN.out _ _ _ hb3
        · by_cases hx1 : 1 < x.1.size
          · have hx1' : (1 : Int) < (x.1.size : Int) := by omega
            have HN := Lib.hid (fun (B : Nat) (a : Act) W3 hb3 => fil_stop (B := B) (a := a) (W3 := W3) hv hB hsz hb3 (fun r => by rw [hst.out, decide_eq_true hx1]; rfl))
            gi_wp2_with (refine ⟨trivial, ?_⟩; gi_at_call 44; refine (CallsIn.inRound l (callsIn_wide.2 (CC.out _))).mono ?_; rintro e w3 ⟨rfl, hb3⟩; have hv3 := Boxed.below hv hb3; have ho3 := Boxed.below ho hb3; have hc3 := hv3.cell; have hf3 := hv3.frozen; have hz3 := hv3.lt)
            exact HN.out _ _ _ hb3
          · have hx1' : ¬ (1 : Int) < (x.1.size : Int) := by omega
            have HN := Lib.hid (fun (B : Nat) (a : Act) W3 hb3 => fil_next (B := B) (a := a) (W3 := W3) hz hv ho hB hsz hb3 (fun r => by rw [hst.out, decide_eq_false hx1]; rfl))
            gi_wp2_with (refine ⟨trivial, ?_⟩; gi_at_call 44; refine (CallsIn.inRound l (callsIn_wide.2 (CC.out _))).mono ?_; rintro e w3 ⟨rfl, hb3⟩; have hv3 := Boxed.below hv hb3; have ho3 := Boxed.below ho hb3; have hc3 := ho3.cell; have hf3 := ho3.frozen; have hz3 := ho3.lt)
            exact HN.out _ _ _ hb3
      · have hf1 := hv.frozen
        have HN := Lib.hid (fun (B : Nat) (a : Act) => fil_stop (B := B) (a := a) hv hB hsz (Below.refl _ _) (fun r => by rw [hst.out]; rfl))
        gi_wp2
        refine ⟨trivial, ?_⟩
        gi_wp2
        all_goals first | exact HN.out _ _ | (exfalso; rename_i h1 h2; simp [undef] at h1)
    case done =>
      rintro D ys W hD hys ⟨⟨hv, ov, ho, hh⟩, hB, hsz⟩ hK
      have hc := hv.cell
      have hf := hv.frozen
      have hlt := hv.lt
      have HY : Hid (levOk (levels s) = true) := by
        have := hh.out []
        rw [List.append_nil, hys] at this
        rw [← HF.out, this]; rfl
      clear hys hh
      gi_wp2
      have hK2 : (W.setCell ⟨w.heap.size, 0, none⟩ (.bool true)).heap[D]? = some (.deferred (some [])) := (KeepsOthers.setCell _ _ _).same D _ hK rfl
      have hc2 : ((W.setCell ⟨w.heap.size, 0, none⟩ (.bool true)).putObj D (.deferred none)).cell? ⟨w.heap.size, 0, none⟩ = some (.bool true) := cell_kept (hv.set _).cell (grownBy_putObj' _ D (.deferred none)) (fun r e => by cases e; exact ⟨_, hK2, rfl⟩)
      refine ⟨by simp, .inl ⟨_, _, rfl, run_takeDeferred hK2, ?_⟩⟩
      refine ⟨.bool true, by simp [results, Tryz.results38, go_sem, hc2], ret_bool HY.out.symm, ?_⟩
      exact (hB.setCell (p := ⟨w.heap.size, 0, none⟩) (Nat.le_refl _) _).trans (belowK_b (w := w) (Nat.le_refl _) _ D _ _ (by simp at hD; omega) hK2 rfl rfl)
    case stop =>
      rintro D c pre W hD hpre ⟨rfl, hv, hh, hB, hsz⟩ hK
      have HY : Hid (levOk (levels s) = false) := by
        obtain ⟨r, hr⟩ := hpre
        have := hh.out r
        rw [hr] at this
        rw [← HF.out, this]; rfl
      clear hpre hh
      gi_wp2
      have hc2 : (W.putObj D (.deferred none)).cell? ⟨w.heap.size, 0, none⟩ = some (.bool false) := cell_kept hv.cell (grownBy_putObj' _ D (.deferred none)) (fun r e => by cases e; exact ⟨_, hK, rfl⟩)
      refine ⟨by simp, .inl ⟨_, _, rfl, run_takeDeferred hK, ?_⟩⟩
      refine ⟨.bool false, by simp [results, Tryz.results38, go_sem, hc2], ret_bool HY.out.symm, ?_⟩
      exact hB.trans (belowK_b (w := w) (Nat.le_refl _) _ D _ _ (by simp at hD; omega) hK rfl rfl)
end Go.Proofs.YtincmegllckcjaaGreatDoor
