/- THE REFERENCE's spread, covers, Covers. -/
import Derived.Test.YtflomcbclofbaaaDoorTopicRefC
namespace Go.Proofs.YtflomcbclofbaaaDoor
open Go Go.RowKit

/-- the levels, "#" ahead of all and behind an empty first level written as "+" and "#" -/
def wideB (s : ByteArray) : List ByteArray :=
  if (headS s).toList == [35] then [⟨#[43]⟩, ⟨#[35]⟩] else if s.toList == [47, 35] then [⟨#[]⟩, ⟨#[43]⟩, ⟨#[35]⟩] else levels s

/-- levels put together -/
def joinS : List (List UInt8) → List UInt8
  | [] => []
  | [x] => x
  | x :: y :: r => x ++ 47 :: joinS (y :: r)

theorem joinS_split (l : List UInt8) : joinS (splitS l) = l := by
  induction l with
  | nil => rfl
  | cons c l ih =>
    unfold splitS
    split
    · rename_i h
      have hc : c = 47 := by simpa using h
      cases hs : splitS l with
      | nil => exact absurd hs (splitS_ne l)
      | cons y r => rw [hs] at ih; simp [joinS, ih, hc]
    · cases hs : splitS l with
      | nil => exact absurd hs (splitS_ne l)
      | cons y r =>
        rw [hs] at ih
        cases r with
        | nil => simp [joinS] at ih ⊢; exact ih
        | cons z r => simp [joinS] at ih ⊢; exact ih

theorem slash_hash (s : ByteArray) (x y : ByteArray) (h : levels s = [x, y]) : (s.toList == [47, 35]) = (x.toList == [] && y.toList == [35]) := by
  have hb : splitS s.data.toList = [x.data.toList, y.data.toList] := by
    have := congrArg (List.map fun z : ByteArray => z.data.toList) h
    simpa [levels, List.map_map, Function.comp_def, ba] using this
  have hj := joinS_split s.data.toList
  rw [hb] at hj
  simp only [joinS] at hj
  rw [ByteArray.toList_eq, ByteArray.toList_eq, ByteArray.toList_eq, Bool.eq_iff_iff]
  simp only [beq_iff_eq, Bool.and_eq_true]
  constructor
  · intro e
    rw [e] at hb
    have : splitS [47, 35] = [[], [35]] := by decide
    rw [this] at hb
    have h0 := List.cons.inj hb
    exact ⟨h0.1.symm, (List.cons.inj h0.2).1.symm⟩
  · rintro ⟨e1, e2⟩
    rw [← hj, e1, e2]; rfl
theorem slash_hash_no (s : ByteArray) (h : (levels s).length ≠ 2) : (s.toList == [47, 35]) = false := by
  rw [Bool.eq_false_iff]
  intro e
  have e' : s.data.toList = [47, 35] := by rw [ByteArray.toList_eq] at e; simpa using e
  apply h
  unfold levels
  rw [e']
  decide

/-- the same, as the reference asks it -/
theorem wideB_one (s : ByteArray) (h : ((headS s).toList == [35]) = true) : wideB s = [⟨#[43]⟩, ⟨#[35]⟩] := by simp [wideB, h]
theorem wideB_two (s : ByteArray) (h : ((headS s).toList == [35]) = false) (h2 : (s.toList == [47, 35]) = true) : wideB s = [⟨#[]⟩, ⟨#[43]⟩, ⟨#[35]⟩] := by simp [wideB, h, h2]
theorem wideB_else (s : ByteArray) (h : ((headS s).toList == [35]) = false) (h2 : (s.toList == [47, 35]) = false) : wideB s = levels s := by simp [wideB, h, h2]
theorem wideB_ne (s : ByteArray) : wideB s ≠ [] := by
  unfold wideB; split
  · simp
  · split
    · simp
    · exact levels_ne s
theorem wideB_len (s : ByteArray) : (wideB s).length ≤ s.size + 3 := by
  have := levels_len s
  unfold wideB; split
  · simp
  · split
    · simp
    · omega

/-- a slice that has just been laid, of texts -/
theorem Sl.new2 (w : World) (a b : ByteArray) (t : TypeId) : Sl (w.alloc (.cells #[.string a, .string b] t)) (.slice (some ⟨w.heap.size, 0, none⟩) 2 2) [a, b] := by
  refine ⟨_, _, rfl, by simp, by omega, .inr ⟨_, _, rfl, fun j x hj => ?_⟩⟩
  match j, hj with
  | 0, hj => simp at hj; subst hj; exact cell_of_row _ _ _ _ _ (0, 0) (heap_alloc_new w _)
  | 1, hj => simp at hj; subst hj; exact cell_of_row _ _ _ _ _ (0, 0) (heap_alloc_new w _)
theorem Sl.new3 (w : World) (a b c : ByteArray) (t : TypeId) : Sl (w.alloc (.cells #[.string a, .string b, .string c] t)) (.slice (some ⟨w.heap.size, 0, none⟩) 3 3) [a, b, c] := by
  refine ⟨_, _, rfl, by simp, by omega, .inr ⟨_, _, rfl, fun j x hj => ?_⟩⟩
  match j, hj with
  | 0, hj => simp at hj; subst hj; exact cell_of_row _ _ _ _ _ (0, 0) (heap_alloc_new w _)
  | 1, hj => simp at hj; subst hj; exact cell_of_row _ _ _ _ _ (0, 0) (heap_alloc_new w _)
  | 2, hj => simp at hj; subst hj; exact cell_of_row _ _ _ _ _ (0, 0) (heap_alloc_new w _)

set_option maxHeartbeats 1000000 in
theorem refSpread_any (s : ByteArray) (w : World) (hs : s.size ≤ 1048576) :
    Calls Tryd.prog 28 #[.string s] w fun e w' => ∃ v, e = .returned v ∧ Sl w' v (wideB s) ∧ Below w.heap.size w w' := by
  have CL : Hid (∀ w, Calls Tryd.prog 46 #[.string s] w fun e w' => ∃ v, e = .returned v ∧ Sl w' v (levels s) ∧ Below w.heap.size w w') := fun w => refLevels_any s w hs
  have H1 := Lib.hid (wideB_one s)
  have H2 := Lib.hid (wideB_two s)
  have H3 := Lib.hid (wideB_else s)
  have H4 := Lib.hid (slash_hash s)
  have H5 := Lib.hid (slash_hash_no s)
  have hll := levels_len s
  have HL : Hid (headS s = (levels s).headD ByteArray.empty) := rfl
  have hne := levels_ne s
  generalize wideB s = WB at *
  generalize headS s = hd at *
  generalize levels s = L at *
  generalize (s.toList == [47, 35]) = sl at *
  obtain ⟨x, r, rfl⟩ : ∃ x r, L = x :: r := by cases L with | nil => exact absurd rfl hne | cons x r => exact ⟨x, r, rfl⟩
  obtain rfl : hd = x := HL.out
  clear HL hne
  cases h1 : (hd.toList == [35])
  · have HW : Hid ((sl = true → WB = [⟨#[]⟩, ⟨#[43]⟩, ⟨#[35]⟩]) ∧ (sl = false → WB = hd :: r)) := ⟨H2.out h1, H3.out h1⟩
    clear H1 H2 H3
    match r, CL, H4, H5, HW, hll with
    | [y], CL, H4, H5, HW, hll =>
      have HS := Lib.hid (H4.out hd y rfl)
      clear H4 H5
      cases h2 : (hd.toList == [])
      · have h2' : ¬ hd.toList = [] := by simpa using h2
        have h2'' : hd.toList.isEmpty = false := by simpa using h2'
        have HE := Lib.hid (HW.out.2 (by rw [HS.out, h2]; rfl))
        clear HS HW h2
        go_enter Tryd.func28, Tryd.ntmps28
        go_wp2_with fail
        refine (CL.out _).mono ?_
        rintro e w2 ⟨v, rfl, hS, hb⟩
        have HSl := Lib.hid hS
        obtain ⟨p, cap, rfl, hc1, hc2, hcells⟩ := hS
        obtain ⟨b, o, rfl, hcell⟩ := hcells.resolve_left (by simp)
        have h00 := hcell 0 _ rfl
        simp only [Nat.add_zero] at h00
        clear hcell hcells CL
        go_wp2
        go_ret
        exact ⟨_, rfl, by rw [HE.out]; exact HSl.out, hb⟩
      · have h2' : hd.toList = [] := by simpa using h2
        clear h2
        cases h3 : (y.toList == [35])
        · have HE := Lib.hid (HW.out.2 (by rw [HS.out, h3, Bool.and_false]))
          clear HS HW
          go_enter Tryd.func28, Tryd.ntmps28
          go_wp2_with fail
          refine (CL.out _).mono ?_
          rintro e w2 ⟨v, rfl, hS, hb⟩
          have HSl := Lib.hid hS
          obtain ⟨p, cap, rfl, hc1, hc2, hcells⟩ := hS
          obtain ⟨b, o, rfl, hcell⟩ := hcells.resolve_left (by simp)
          have h00 := hcell 0 _ rfl
          have h01 := hcell 1 _ rfl
          simp only [Nat.add_zero] at h00
          clear hcell hcells CL
          go_wp2
          go_ret
          exact ⟨_, rfl, by rw [HE.out]; exact HSl.out, hb⟩
        · have HE := Lib.hid (HW.out.1 (by rw [HS.out, h3, h2']; rfl))
          clear HS HW
          go_enter Tryd.func28, Tryd.ntmps28
          go_wp2_with fail
          refine (CL.out _).mono ?_
          rintro e w2 ⟨v, rfl, hS, hb⟩
          obtain ⟨p, cap, rfl, hc1, hc2, hcells⟩ := hS
          obtain ⟨b, o, rfl, hcell⟩ := hcells.resolve_left (by simp)
          have h00 := hcell 0 _ rfl
          have h01 := hcell 1 _ rfl
          simp only [Nat.add_zero] at h00
          clear hcell hcells CL
          go_wp2
          go_ret
          exact ⟨_, rfl, by rw [HE.out]; exact Sl.new3 _ _ _ _ _, hb.alloc hb.size _⟩
    | [], CL, H4, H5, HW, hll =>
      have HE := Lib.hid (HW.out.2 (H5.out (by simp)))
      clear H4 H5 HW
      go_enter Tryd.func28, Tryd.ntmps28
      go_wp2_with fail
      refine (CL.out _).mono ?_
      rintro e w2 ⟨v, rfl, hS, hb⟩
      have HSl := Lib.hid hS
      obtain ⟨p, cap, rfl, hc1, hc2, hcells⟩ := hS
      obtain ⟨b, o, rfl, hcell⟩ := hcells.resolve_left (by simp)
      have h00 := hcell 0 _ rfl
      simp only [Nat.add_zero] at h00
      clear hcell hcells CL
      go_wp2
      go_ret
      exact ⟨_, rfl, by rw [HE.out]; exact HSl.out, hb⟩
    | y :: z :: r, CL, H4, H5, HW, hll =>
      have HE := Lib.hid (HW.out.2 (H5.out (by simp)))
      clear H4 H5 HW
      simp only [List.length_cons] at hll
      have hq : (((r.length : Int) + 1 + 1 + 1) == 2) = false := by simp; omega
      go_enter Tryd.func28, Tryd.ntmps28
      go_wp2_with fail
      refine (CL.out _).mono ?_
      rintro e w2 ⟨v, rfl, hS, hb⟩
      have HSl := Lib.hid hS
      obtain ⟨p, cap, rfl, hc1, hc2, hcells⟩ := hS
      obtain ⟨b, o, rfl, hcell⟩ := hcells.resolve_left (by simp)
      have h00 := hcell 0 _ rfl
      simp only [Nat.add_zero] at h00
      clear hcell hcells CL
      go_wp2
      go_ret
      exact ⟨_, rfl, by rw [HE.out]; exact HSl.out, hb⟩
  · have HW := Lib.hid (H1.out h1)
    clear H1 H2 H3 H4 H5
    go_enter Tryd.func28, Tryd.ntmps28
    go_wp2_with fail
    refine (CL.out _).mono ?_
    rintro e w2 ⟨v, rfl, hS, hb⟩
    obtain ⟨p, cap, rfl, hc1, hc2, hcells⟩ := hS
    obtain ⟨b, o, rfl, hcell⟩ := hcells.resolve_left (by simp)
    have h00 := hcell 0 _ rfl
    simp only [Nat.add_zero] at h00
    clear hcell hcells CL
    go_wp2
    go_ret
    exact ⟨_, rfl, by rw [HW.out]; exact Sl.new2 _ _ _ _, hb.alloc hb.size _⟩

def coversB : List ByteArray → List ByteArray → Bool
  | [], g => g.isEmpty
  | x :: f, g => if x.toList == [35] then true else match g with
    | [] => false
    | y :: g => if y.toList == [35] then false else (x.toList == [43] || x.toList == y.toList) && coversB f g

theorem coversB_nil (n : List ByteArray) : coversB [] n = ((0 : Int) == (n.length : Int)) := by cases n <;> simp [coversB]; omega
theorem coversB_hash (x : ByteArray) (f n : List ByteArray) (h : (x.toList == [35]) = true) : coversB (x :: f) n = true := by simp [coversB, h]
theorem coversB_none (x : ByteArray) (f : List ByteArray) (h : (x.toList == [35]) = false) : coversB (x :: f) [] = false := by simp [coversB, h]
theorem coversB_stop (x y : ByteArray) (f n : List ByteArray) (h : (x.toList == [35]) = false) (h2 : (y.toList == [35]) = true) : coversB (x :: f) (y :: n) = false := by simp [coversB, h, h2]
theorem coversB_cons (x y : ByteArray) (f n : List ByteArray) (h : (x.toList == [35]) = false) (h2 : (y.toList == [35]) = false) : coversB (x :: f) (y :: n) = ((x.toList == [43] || x.toList == y.toList) && coversB f n) := by simp [coversB, h, h2]

theorem quiet_more {P : Program} {f : FuncId} {args : Array Value} {w : World} {a n : Nat} {v : Value}
    (h : Calls P f args (w.drewN (a + n)) fun e w' => e = .returned v ∧ ∃ m, w' = (w.drewN (a + n)).drewN m) :
    Calls P f args (w.drewN (a + n)) fun e w'' => e = .returned v ∧ ∃ m, w'' = w.drewN (a + m) :=
  h.mono fun _ _ ⟨he, m, hm⟩ => ⟨he, n + m, by rw [hm, World.drewN_drewN, Nat.add_assoc]⟩

set_option maxHeartbeats 1000000 in
theorem refcovers_any (f : List ByteArray) : ∀ (n : List ByteArray) (v1 v2 : Value) (w : World), Sl w v1 f → Sl w v2 n →
    Calls Tryd.prog 29 #[v1, v2] w fun e w' => e = .returned (.bool (coversB f n)) ∧ ∃ q, w' = w.drewN q := by
  induction f with
  | nil =>
    rintro n _ _ w ⟨p, cap, rfl, hc, hm, hp⟩ ⟨p2, cap2, rfl, hc2, hm2, hp2⟩
    go_enter Tryd.func29, Tryd.ntmps29
    go_wp2
    go_ret
    exact ⟨ret_bool (coversB_nil n).symm, 0, rfl⟩
  | cons x f ih =>
    rintro n _ _ w ⟨p, cap, rfl, hc, hm, hp⟩ ⟨p2, cap2, rfl, hc2, hm2, hp2⟩
    obtain ⟨b, o, rfl, hcell⟩ := hp.resolve_left (by simp)
    have h0 := hcell 0 x rfl
    simp only [Nat.add_zero] at h0
    have IH := Lib.hid ih
    have R1 := Lib.hid (Sl.rest hc hm hcell)
    clear ih hcell hp
    simp only [List.length_cons] at hc
    have hpos : (0 : Int) < (f.length : Int) + 1 := by omega
    have hnz : (((f.length : Int) + 1) == 0) = false := by simp; omega
    cases h1 : (x.toList == [35])
    · cases n with
      | nil =>
        have HH := Lib.hid (coversB_none x f h1)
        have hnz2 : (((f.length : Int) + 1) == 0) = false := by simp; omega
        go_enter Tryd.func29, Tryd.ntmps29
        go_wp2
        go_ret
        exact ⟨ret_bool HH.out.symm, 0, rfl⟩
      | cons y n =>
        obtain ⟨b2, o2, rfl, hcell2⟩ := hp2.resolve_left (by simp)
        have h20 := hcell2 0 y rfl
        simp only [Nat.add_zero] at h20
        have R2 := Lib.hid (Sl.rest hc2 hm2 hcell2)
        clear hcell2 hp2
        simp only [List.length_cons] at hc2
        have hnz2 : (((n.length : Int) + 1) == 0) = false := by simp; omega
        cases h2 : (y.toList == [35])
        · have HH := Lib.hid (coversB_cons x y f n h1 h2)
          cases h3 : (x.toList == [43])
          · have h3' := neS h3
            cases h4 : (x.toList == y.toList)
            · have h4' := neS h4
              have HG := Lib.hid (show coversB (x :: f) (y :: n) = false by rw [HH.out, h3, h4]; rfl)
              clear HH
              go_enter Tryd.func29, Tryd.ntmps29
              go_wp2
              go_quiet (fail)
              go_wp2
              all_goals (go_ret; exact ⟨ret_bool HG.out.symm, _, rfl⟩)
            · have h4' := neSf h4
              have HG := Lib.hid (show coversB (x :: f) (y :: n) = coversB f n by rw [HH.out, h4]; simp)
              clear HH
              go_enter Tryd.func29, Tryd.ntmps29
              go_wp2
              go_quiet (fail)
              go_wp2
              go_quiet ((go_at_call 29; exact quiet_more (IH.out _ _ _ _ (R1.out.drewN _) (R2.out.drewN _))))
              go_wp2
              all_goals (go_ret; exact ⟨ret_bool HG.out.symm, _, rfl⟩)
          · have h3' := neSf h3
            have HG := Lib.hid (show coversB (x :: f) (y :: n) = coversB f n by rw [HH.out, h3]; simp)
            clear HH
            go_enter Tryd.func29, Tryd.ntmps29
            go_wp2
            go_quiet (fail)
            go_wp2
            go_quiet ((go_at_call 29; exact quiet_more (IH.out _ _ _ _ (R1.out.drewN _) (R2.out.drewN _))))
            go_wp2
            all_goals (go_ret; exact ⟨ret_bool HG.out.symm, _, rfl⟩)
        · have HG := Lib.hid (coversB_stop x y f n h1 h2)
          go_enter Tryd.func29, Tryd.ntmps29
          go_wp2
          go_quiet (fail)
          go_wp2
          all_goals (go_ret; exact ⟨ret_bool HG.out.symm, _, rfl⟩)
    · have HH := Lib.hid (coversB_hash x f n h1)
      go_enter Tryd.func29, Tryd.ntmps29
      go_wp2
      go_ret
      exact ⟨ret_bool HH.out.symm, 0, rfl⟩
end Go.Proofs.YtflomcbclofbaaaDoor
