/- THE PROGRAM's meet. -/
import Derived.Test.YtfkbnemhkkbjgaaDoorTopicMeet
import Derived.Test.YtfkbnemhkkbjgaaDoorTopicRefG
import Derived.BigQuiet
namespace Go.Proofs.YtfkbnemhkkbjgaaDoor
open Go Go.RowKit

/-- what meet hands back -/
def MeetPost (w : World) (r : Option (List ByteArray)) (e : Ending) (w' : World) : Prop :=
  (∃ v, e = .returned (.tuple #[v, .bool r.isSome]) ∧ ∀ l, r = some l → Sl w' v l) ∧ Below w.heap.size w w'
theorem meet_none {w w1 : World} {v : Value} {r : Option (List ByteArray)} (hr : r = none) (hb : Below w.heap.size w w1) : MeetPost w r (.returned (.tuple #[v, .bool false])) w1 := by
  subst hr; exact ⟨⟨v, rfl, fun l hl => by cases hl⟩, hb⟩
theorem meet_some {w w1 : World} {v : Value} {r : Option (List ByteArray)} {l : List ByteArray} {n : Nat} (hr : r = some l) (hn : l.length = n) (hown : w1.ownsRow w.heap.size 9 1 v n (l.map Value.string)) (hb : Below w.heap.size w w1) : MeetPost w r (.returned (.tuple #[v, .bool true])) w1 := by
  subst hr hn; exact ⟨⟨v, rfl, fun l' hl => by cases hl; exact Sl.of_owns hown⟩, hb⟩

/-- what at hands back, as three values -/
def AtIs (l : List ByteArray) (k : Nat) (xw : ByteArray) (xn xo : Bool) : Prop :=
  (l[k]? = none ∧ xw = ⟨#[]⟩ ∧ xn = true ∧ xo = false) ∨ (l[k]? = some xw ∧ xn = false ∧ xo = (xw.toList == [35]))

theorem at_any (l : List ByteArray) (k : Nat) (v : Value) (w : World) (hS : Sl w v l) : ∃ xw xn xo, AtIs l k xw xn xo ∧
    ∀ w', Below w.heap.size w w' → Calls Tryd.prog 45 #[v, .int .i64 k] w' fun e w'' => e = .returned (.agg #[.string xw, .bool xn, .bool xo]) ∧ Below w'.heap.size w' w'' := by
  cases h : l[k]? with
  | none => exact ⟨_, _, _, .inl ⟨h, rfl, rfl, rfl⟩, fun w' hb => at_behind l k v w' (hS.below hb) (by simpa using h)⟩
  | some x => exact ⟨_, _, _, .inr ⟨h, rfl, rfl⟩, fun w' hb => at_in l k x v w' (hS.below hb) h⟩

theorem short_step (a b : List ByteArray) (k : Nat) (xw yw : ByteArray) (xn xo yn yo : Bool) (ha : AtIs a k xw xn xo) (hb : AtIs b k yw yn yo) :
    shortB (a.drop k) (b.drop k) =
      if xo then some (leastB (b.drop k)) else if yo then some (leastB (a.drop k)) else if xn || yn then (if xn && yn then some [] else none)
      else if xw.toList == [43] then (shortB (a.drop (k + 1)) (b.drop (k + 1))).map (leastV yw :: ·)
      else if yw.toList == [43] || xw.toList == yw.toList then (shortB (a.drop (k + 1)) (b.drop (k + 1))).map (xw :: ·) else none := by
  rcases ha with ⟨h1, rfl, rfl, rfl⟩ | ⟨h1, rfl, rfl⟩
  · have e1 : a.drop k = [] := List.drop_eq_nil_of_le (by simpa using h1)
    rw [e1]
    rcases hb with ⟨h2, rfl, rfl, rfl⟩ | ⟨h2, rfl, rfl⟩
    · rw [List.drop_eq_nil_of_le (by simpa using h2)]; rfl
    · obtain ⟨hk, rfl⟩ := List.getElem?_eq_some_iff.1 h2
      rw [List.drop_eq_getElem_cons hk]; unfold shortB; cases h : b[k].toList == [35] <;> simp [leastB]
  · obtain ⟨hk, rfl⟩ := List.getElem?_eq_some_iff.1 h1
    rw [List.drop_eq_getElem_cons hk]
    rcases hb with ⟨h2, rfl, rfl, rfl⟩ | ⟨h2, rfl, rfl⟩
    · have e2 : b.drop k = [] := List.drop_eq_nil_of_le (by simpa using h2)
      rw [e2]; unfold shortB; cases h : a[k].toList == [35] <;> simp [leastB]
    · obtain ⟨hk2, rfl⟩ := List.getElem?_eq_some_iff.1 h2
      rw [List.drop_eq_getElem_cons hk2]
      have e : (a[k].toList == b[k].toList) = (b[k].toList == a[k].toList) := by cases h : (a[k].toList == b[k].toList) <;> cases h' : (b[k].toList == a[k].toList) <;> first | rfl | (simp only [beq_iff_eq, beq_eq_false_iff_ne] at h h'; exact absurd h.symm h') | (simp only [beq_iff_eq, beq_eq_false_iff_ne] at h h'; exact absurd h'.symm h)
      rw [e]; rfl

theorem cell_new_at (w : World) (x : Value) (t : TypeId) (B : Nat) (h : B = w.heap.size) : ∀ j u, [x][j]? = some u → (w.alloc (.cells #[x] t)).cell? ((⟨B, 0, none⟩ : Addr).add j) = some u := by
  subst h; exact cell_one_new w x t

theorem size_alloc_le (w : World) (o : Obj) : w.heap.size ≤ (w.alloc o).heap.size := by simp

theorem own_below {w w' : World} {base : Nat} {e : TypeId} {size : Nat} {v : Value} {n : Nat} {xs : List Value} (h : w.ownsRow base e size v n xs) (hb : Below w.heap.size w w') : w'.ownsRow base e size v n xs := by
  refine ⟨h.1, h.2.imp id fun ⟨g, cap, cur, h1, h2, h3, h4⟩ => ⟨g, cap, cur, h1, h2, ?_, h4⟩⟩
  rw [hb.block g (Array.getElem?_eq_some_iff.1 h3).1, h3]

theorem AtIs.lt {l : List ByteArray} {k : Nat} {xw : ByteArray} {xo : Bool} (h : AtIs l k xw false xo) : k < l.length := by
  rcases h with ⟨_, _, h, _⟩ | ⟨h, _⟩
  · cases h
  · exact (List.getElem?_eq_some_iff.1 h).1

theorem leastB_some {l : List ByteArray} {k : Nat} {x : ByteArray} (hx : l[k]? = some x) (h : (x.toList == [35]) = false) : leastB (l.drop k) = leastV x :: leastB (l.drop (k + 1)) := by rw [leastB_drop hx, h]; rfl
theorem leastB_stop {l : List ByteArray} {k : Nat} {x : ByteArray} (hx : l[k]? = some x) (h : (x.toList == [35]) = true) : leastB (l.drop k) = [] := by rw [leastB_drop hx, h]; rfl

theorem below_drew {B : Nat} {a w : World} (h : Below B a w) (n : Nat) : Below B a (w.drewN n) := ⟨h.os, h.tape, h.output, h.size, h.block⟩

set_option maxRecDepth 100000 in
set_option maxHeartbeats 4000000 in
theorem meet_any (a b : List ByteArray) (v1 v2 : Value) (w : World) (h1 : Sl w v1 a) (h2 : Sl w v2 b) (ha : a.length ≤ 10000000) (hb : b.length ≤ 10000000) :
    Calls Tryd.prog 37 #[v1, v2] w (MeetPost w (shortB a b)) := by
  obtain ⟨i0, hi, hz0, hz1, hz2⟩ := info_parts info_string
  have H1 := Lib.hid h1
  have H2 := Lib.hid h2
  obtain ⟨p, cap, rfl, hc, hm, hp⟩ := h1
  obtain ⟨p2, cap2, rfl, hc2, hm2, hp2⟩ := h2
  have HC : Hid (a = [] ∨ ∃ b o, p = some ⟨b, o, none⟩ ∧ ∀ (j : Nat) x, a[j]? = some x → w.cell? ⟨b, o + j, none⟩ = some (.string x)) := hp
  have HC2 : Hid (b = [] ∨ ∃ b1 o, p2 = some ⟨b1, o, none⟩ ∧ ∀ (j : Nat) x, b[j]? = some x → w.cell? ⟨b1, o + j, none⟩ = some (.string x)) := hp2
  clear hp hp2
  go_enter Tryd.func37, Tryd.ntmps37
  go_wp2
  go_loopw [6, 7] (fun v i wr => ∃ (k : Nat) (done : List ByteArray), k ≤ a.length ∧ k ≤ b.length ∧ i = .int .i64 k ∧ done.length = k ∧ Hid (shortB a b = (shortB (a.drop k) (b.drop k)).map (done ++ ·)) ∧ wr.ownsRow w.heap.size 9 1 v k (done.map Value.string) ∧ Below w.heap.size w wr) (fun _ i _ => a.length - (intOf i).toNat)
  case atStart => exact ⟨0, [], Nat.zero_le _, Nat.zero_le _, rfl, rfl, by show _ = _; simp, World.ownsRow_nil _ _ _ _, Below.refl _ _⟩
  case round =>
    obtain ⟨k, done, hk, hk2, rfl, hd, HL, hown, hbw⟩ := hrel
    have HD := Lib.hid hd
    clear hd
    have hszw := hbw.size
    obtain ⟨xw, xn, xo, hA, hcA⟩ := at_any a k _ w H1.out
    obtain ⟨yw, yn, yo, hB, hcB⟩ := at_any b k _ w H2.out
    have HS := Lib.hid (short_step a b k xw yw xn xo yn yo hA hB)
    have HcA := Lib.hid hcA
    have HcB := Lib.hid hcB
    have HA := Lib.hid hA
    have HB := Lib.hid hB
    have HW := Lib.hid hbw
    clear hcA hcB hA hB
    cases xo
    · cases yo
      · simp only [Bool.false_eq_true, if_false] at HS
        cases xn
        · have hka := HA.out.lt
          cases yn
          · have hkb := HB.out.lt
            simp only [Bool.false_eq_true, if_false, Bool.or_self] at HS
            cases hx2 : (xw.toList == [43])
            · simp only [hx2, Bool.false_eq_true, if_false] at HS
              cases hy2 : (yw.toList == [43])
              · cases hxy : (xw.toList == yw.toList)
                · simp only [hy2, hxy, Bool.false_eq_true, if_false, Bool.or_self] at HS
                  have HF : Hid (shortB a b = none) := by show _ = _; rw [HL.out, HS.out]; rfl
                  go_wp2_with (first | (go_at_call_of 45 p; refine (HcA.out _ (by first | exact HW.out)).mono ?_; rintro e w1 ⟨rfl, hB1⟩) | (go_at_call_of 45 p2; refine (HcB.out _ (HW.out.trans (hB1.mono hszw))).mono ?_; rintro e w2 ⟨rfl, hB2⟩))
                  have hs12 := Nat.le_trans hB1.size hB2.size
                  have HBW := fun o o' => (((hB1.trans (hB2.mono hB1.size)).alloc hs12 o).alloc (by simp; omega) o')
                  have HBW := HBW (Obj.cells #[Value.string xw, Value.bool false, Value.bool false] 43) (Obj.cells #[Value.string yw, Value.bool false, Value.bool false] 43)
                  go_ret2
                  exact meet_none HF.out (HW.out.trans (HBW.mono hszw))
                · simp only [hy2, hxy, Bool.or_true, if_true] at HS
                  have HF : Hid (shortB a b = (shortB (a.drop (k + 1)) (b.drop (k + 1))).map ((done ++ [xw]) ++ ·)) := by show _ = _; rw [HL.out, HS.out, Option.map_map]; congr 1; funext l; simp
                  go_wp2_with (first
                    | (go_at_call_of 45 p; refine (HcA.out _ (by first | exact HW.out)).mono ?_; rintro e w1 ⟨rfl, hB1⟩)
                    | (go_at_call_of 45 p2; refine (HcB.out _ (HW.out.trans (hB1.mono hszw))).mono ?_; rintro e w2 ⟨rfl, hB2⟩; have hs12 := Nat.le_trans hB1.size hB2.size; have HBW := (((hB1.trans (hB2.mono hB1.size)).alloc hs12 (Obj.cells #[Value.string xw, Value.bool false, Value.bool false] 43)).alloc (Nat.le_trans hs12 (size_alloc_le _ _)) (Obj.cells #[Value.string yw, Value.bool false, Value.bool false] 43)); have hown6 := own_below hown HBW; have hb6 := HW.out.trans (HBW.mono hszw))
                    | (go_at_call 46; refine (HLV.out _).mono ?_; rintro e w4 ⟨rfl, rfl⟩)
                    | (at_builtin; refine wpList_append_own _ rfl _ _ 23 rfl w.heap.size 9 i0 (.string ByteArray.empty) 1 16 Tryd.underlying23 hi hz0 hz1 hz2 rfl (by decide) _ _ _ rfl (hown6.alloc _) _ 1 1 [.string xw] rfl rfl (cell_new_at _ _ _ _ (by simp only [World.alloc, Array.size_push])) (fun x hx => by simp at hx; subst hx; rfl) (by unfold maxLen; omega) (by omega) (Nat.le_trans hb6.size (size_alloc_le _ _)) ?_; intro v' w5 hown' hgrow hnil))
                  have hs6 := hb6.size
                  have hB5 : Below w.heap.size w w5 := ((hb6.alloc hs6 _).grown hgrow (Nat.le_trans hs6 (size_alloc_le _ _)) (fun j hj => (hown6.lt j hj).1))
                  have hown5 : w5.ownsRow w.heap.size 9 1 v' (k + 1) ((done ++ [xw]).map Value.string) := by rw [List.map_append]; exact hown'
                  clear hown' hgrow hown hnil hown6 hb6 HBW hs6
                  go_wp2
                  go_roundw
                  case rel => exact ⟨k + 1, done ++ [xw], by omega, by omega, by go_num, by have := HD.out; simp; omega, HF, hown5, hB5⟩
                  case measure => simp [intOf]; omega
              · simp only [hy2, Bool.true_or, if_true] at HS
                have HF : Hid (shortB a b = (shortB (a.drop (k + 1)) (b.drop (k + 1))).map ((done ++ [xw]) ++ ·)) := by show _ = _; rw [HL.out, HS.out, Option.map_map]; congr 1; funext l; simp
                go_wp2_with (first
                  | (go_at_call_of 45 p; refine (HcA.out _ (by first | exact HW.out)).mono ?_; rintro e w1 ⟨rfl, hB1⟩)
                  | (go_at_call_of 45 p2; refine (HcB.out _ (HW.out.trans (hB1.mono hszw))).mono ?_; rintro e w2 ⟨rfl, hB2⟩; have hs12 := Nat.le_trans hB1.size hB2.size; have HBW := (((hB1.trans (hB2.mono hB1.size)).alloc hs12 (Obj.cells #[Value.string xw, Value.bool false, Value.bool false] 43)).alloc (Nat.le_trans hs12 (size_alloc_le _ _)) (Obj.cells #[Value.string yw, Value.bool false, Value.bool false] 43)); have hown6 := own_below hown HBW; have hb6 := HW.out.trans (HBW.mono hszw))
                  | (go_at_call 46; refine (HLV.out _).mono ?_; rintro e w4 ⟨rfl, rfl⟩)
                  | (at_builtin; refine wpList_append_own _ rfl _ _ 23 rfl w.heap.size 9 i0 (.string ByteArray.empty) 1 16 Tryd.underlying23 hi hz0 hz1 hz2 rfl (by decide) _ _ _ rfl (hown6.alloc _) _ 1 1 [.string xw] rfl rfl (cell_new_at _ _ _ _ (by simp only [World.alloc, Array.size_push])) (fun x hx => by simp at hx; subst hx; rfl) (by unfold maxLen; omega) (by omega) (Nat.le_trans hb6.size (size_alloc_le _ _)) ?_; intro v' w5 hown' hgrow hnil))
                have hs6 := hb6.size
                have hB5 : Below w.heap.size w w5 := ((hb6.alloc hs6 _).grown hgrow (Nat.le_trans hs6 (size_alloc_le _ _)) (fun j hj => (hown6.lt j hj).1))
                have hown5 : w5.ownsRow w.heap.size 9 1 v' (k + 1) ((done ++ [xw]).map Value.string) := by rw [List.map_append]; exact hown'
                clear hown' hgrow hown hnil hown6 hb6 HBW hs6
                go_wp2
                go_roundw
                case rel => exact ⟨k + 1, done ++ [xw], by omega, by omega, by go_num, by have := HD.out; simp; omega, HF, hown5, hB5⟩
                case measure => simp [intOf]; omega
            · simp only [hx2, if_true] at HS
              have HF : Hid (shortB a b = (shortB (a.drop (k + 1)) (b.drop (k + 1))).map ((done ++ [leastV yw]) ++ ·)) := by show _ = _; rw [HL.out, HS.out, Option.map_map]; congr 1; funext l; simp
              have HLV := Lib.hid (least_any yw)
              generalize leastV yw = lx at HF HLV
              go_wp2_with (first
                | (go_at_call_of 45 p; refine (HcA.out _ (by first | exact HW.out)).mono ?_; rintro e w1 ⟨rfl, hB1⟩)
                | (go_at_call_of 45 p2; refine (HcB.out _ (HW.out.trans (hB1.mono hszw))).mono ?_; rintro e w2 ⟨rfl, hB2⟩; have hs12 := Nat.le_trans hB1.size hB2.size; have HBW := (((hB1.trans (hB2.mono hB1.size)).alloc hs12 (Obj.cells #[Value.string xw, Value.bool false, Value.bool false] 43)).alloc (Nat.le_trans hs12 (size_alloc_le _ _)) (Obj.cells #[Value.string yw, Value.bool false, Value.bool false] 43)); have hown6 := own_below hown HBW; have hb6 := HW.out.trans (HBW.mono hszw))
                | (go_at_call 46; refine (HLV.out _).mono ?_; rintro e w4 ⟨rfl, rfl⟩)
                | (at_builtin; refine wpList_append_own _ rfl _ _ 23 rfl w.heap.size 9 i0 (.string ByteArray.empty) 1 16 Tryd.underlying23 hi hz0 hz1 hz2 rfl (by decide) _ _ _ rfl (hown6.alloc _) _ 1 1 [.string lx] rfl rfl (cell_new_at _ _ _ _ (by simp only [World.alloc, Array.size_push])) (fun x hx => by simp at hx; subst hx; rfl) (by unfold maxLen; omega) (by omega) (Nat.le_trans hb6.size (size_alloc_le _ _)) ?_; intro v' w5 hown' hgrow hnil))
              have hs6 := hb6.size
              have hB5 : Below w.heap.size w w5 := ((hb6.alloc hs6 _).grown hgrow (Nat.le_trans hs6 (size_alloc_le _ _)) (fun j hj => (hown6.lt j hj).1))
              have hown5 : w5.ownsRow w.heap.size 9 1 v' (k + 1) ((done ++ [lx]).map Value.string) := by rw [List.map_append]; exact hown'
              clear hown' hgrow hown hnil hown6 hb6 HBW hs6
              go_wp2
              go_roundw
              case rel => exact ⟨k + 1, done ++ [lx], by omega, by omega, by go_num, by have := HD.out; simp; omega, HF, hown5, hB5⟩
              case measure => simp [intOf]; omega
          · have HF : Hid (shortB a b = none) := by show _ = _; rw [HL.out, HS.out]; rfl
            go_wp2_with (first | (go_at_call_of 45 p; refine (HcA.out _ (by first | exact HW.out)).mono ?_; rintro e w1 ⟨rfl, hB1⟩) | (go_at_call_of 45 p2; refine (HcB.out _ (HW.out.trans (hB1.mono hszw))).mono ?_; rintro e w2 ⟨rfl, hB2⟩))
            have hs12 := Nat.le_trans hB1.size hB2.size
            have HBW := fun o o' => (((hB1.trans (hB2.mono hB1.size)).alloc hs12 o).alloc (by simp; omega) o')
            have HBW := HBW (Obj.cells #[Value.string xw, Value.bool false, Value.bool false] 43) (Obj.cells #[Value.string yw, Value.bool true, Value.bool false] 43)
            go_quiet (fail)
            go_wp2
            go_ret2
            exact meet_none HF.out (below_drew (HW.out.trans (HBW.mono hszw)) _)
        · cases yn
          · have HF : Hid (shortB a b = none) := by show _ = _; rw [HL.out, HS.out]; rfl
            go_wp2_with (first | (go_at_call_of 45 p; refine (HcA.out _ (by first | exact HW.out)).mono ?_; rintro e w1 ⟨rfl, hB1⟩) | (go_at_call_of 45 p2; refine (HcB.out _ (HW.out.trans (hB1.mono hszw))).mono ?_; rintro e w2 ⟨rfl, hB2⟩))
            have hs12 := Nat.le_trans hB1.size hB2.size
            have HBW := fun o o' => (((hB1.trans (hB2.mono hB1.size)).alloc hs12 o).alloc (by simp; omega) o')
            have HBW := HBW (Obj.cells #[Value.string xw, Value.bool true, Value.bool false] 43) (Obj.cells #[Value.string yw, Value.bool false, Value.bool false] 43)
            go_quiet (fail)
            go_wp2
            go_ret2
            exact meet_none HF.out (below_drew (HW.out.trans (HBW.mono hszw)) _)
          · have HF : Hid (shortB a b = some done) := by show _ = _; rw [HL.out, HS.out]; simp
            go_wp2_with (first | (go_at_call_of 45 p; refine (HcA.out _ (by first | exact HW.out)).mono ?_; rintro e w1 ⟨rfl, hB1⟩) | (go_at_call_of 45 p2; refine (HcB.out _ (HW.out.trans (hB1.mono hszw))).mono ?_; rintro e w2 ⟨rfl, hB2⟩))
            have hs12 := Nat.le_trans hB1.size hB2.size
            have HBW := fun o o' => (((hB1.trans (hB2.mono hB1.size)).alloc hs12 o).alloc (by simp; omega) o')
            have HBW := HBW (Obj.cells #[Value.string xw, Value.bool true, Value.bool false] 43) (Obj.cells #[Value.string yw, Value.bool true, Value.bool false] 43)
            go_quiet (fail)
            go_wp2
            go_ret2
            exact meet_some HF.out HD.out (own_below hown (below_drew HBW _)) (below_drew (HW.out.trans (HBW.mono hszw)) _)
      · simp only [if_true, Bool.false_eq_true, if_false] at HS
        go_wp2_with (first | (go_at_call_of 45 p; refine (HcA.out _ (by first | exact HW.out)).mono ?_; rintro e w1 ⟨rfl, hB1⟩) | (go_at_call_of 45 p2; refine (HcB.out _ (HW.out.trans (hB1.mono hszw))).mono ?_; rintro e w2 ⟨rfl, hB2⟩))
        have hs12 := Nat.le_trans hB1.size hB2.size
        have HBW := fun o o' => (((hB1.trans (hB2.mono hB1.size)).alloc hs12 o).alloc (by simp; omega) o')
        have HBW := HBW (Obj.cells #[Value.string xw, Value.bool xn, Value.bool false] 43) (Obj.cells #[Value.string yw, Value.bool yn, Value.bool true] 43)
        go_loopw [6, 7] (fun v i wr => ∃ (j : Nat) (out : List ByteArray), j ≤ a.length ∧ i = .int .i64 j ∧ out.length = j ∧ Hid (done ++ leastB (a.drop k) = out ++ leastB (a.drop j)) ∧ wr.ownsRow w.heap.size 9 1 v j (out.map Value.string) ∧ Below w.heap.size w wr) (fun _ i _ => a.length - (intOf i).toNat)
        case atStart => exact ⟨k, done, by assumption, rfl, HD.out, rfl, own_below hown HBW, HW.out.trans (HBW.mono hszw)⟩
        case round =>
          obtain ⟨j, out, hj, rfl, ho, HL2, hown2, hbw2⟩ := hrel
          have HO := Lib.hid ho
          clear ho hown
          have hszw2 := hbw2.size
          by_cases hlt : j < a.length
          · obtain ⟨x, hx⟩ : ∃ x, a[j]? = some x := ⟨_, List.getElem?_eq_getElem hlt⟩
            obtain ⟨b0, o0, rfl, hcell⟩ := HC.out.resolve_left (by rintro rfl; simp at hlt)
            have hck0 := hcell j x hx
            have hck : wr.cell? ⟨b0, o0 + j, none⟩ = some (.string x) := (hbw2.cell (p := ⟨b0, o0 + j, none⟩) (World.block_lt_of_cell? w _ hck0)).trans hck0
            have hlt' : (j : Int) < (a.length : Int) := by omega
            have HX := Lib.hid hx
            clear hcell hck0 hx
            cases h5 : (x.toList == [35])
            · have h5' := neS h5
              have HF : Hid (done ++ leastB (a.drop k) = (out ++ [leastV x]) ++ leastB (a.drop (j + 1))) := by show _ = _; rw [HL2.out, leastB_some HX.out h5]; simp
              clear HX HL2
              have HLV := Lib.hid (least_any x)
              generalize leastV x = lx at HF HLV
              go_wp2_with (first | (go_at_call 46; refine (HLV.out _).mono ?_; rintro e w4 ⟨rfl, rfl⟩) | (at_builtin; refine wpList_append_own _ rfl _ _ 23 rfl w.heap.size 9 i0 (.string ByteArray.empty) 1 16 Tryd.underlying23 hi hz0 hz1 hz2 rfl (by decide) _ _ _ rfl (hown2.alloc _) ⟨wr.heap.size, 0, none⟩ 1 1 [.string lx] rfl rfl (cell_one_new _ _ _) (fun x hx => by simp at hx; subst hx; rfl) (by unfold maxLen; omega) (by omega) (by simp; omega) ?_; intro v' w5 hown' hgrow hnil))
              have hB5 : Below w.heap.size w w5 := ((hbw2.alloc hszw2 _).grown hgrow (by simp; omega) (fun j hj => (hown2.lt j hj).1))
              have hown5 : w5.ownsRow w.heap.size 9 1 v' (j + 1) ((out ++ [lx]).map Value.string) := by simpa using hown'
              clear hown' hgrow hown2 hnil
              go_wp2
              go_roundw
              case rel => exact ⟨j + 1, out ++ [lx], by omega, by go_num, by have := HO.out; simp; omega, HF, hown5, hB5⟩
              case measure => simp [intOf]; omega
            · have h5' := neSf h5
              have HF : Hid (shortB a b = some out) := by
                show _ = _
                rw [HL.out, HS.out]; simp only [Option.map_some]; rw [HL2.out, leastB_stop HX.out h5, List.append_nil]
              go_wp2
              go_ret2
              exact meet_some HF.out HO.out hown2 hbw2
          · obtain rfl : j = a.length := by omega
            have HF : Hid (shortB a b = some out) := by
              show _ = _
              rw [HL.out, HS.out]; simp only [Option.map_some]; rw [HL2.out]; simp [leastB]
            go_wp2
            go_ret2
            exact meet_some HF.out HO.out hown2 hbw2
    · simp only [if_true] at HS
      go_wp2_with (first | (go_at_call_of 45 p; refine (HcA.out _ (by first | exact HW.out)).mono ?_; rintro e w1 ⟨rfl, hB1⟩) | (go_at_call_of 45 p2; refine (HcB.out _ (HW.out.trans (hB1.mono hszw))).mono ?_; rintro e w2 ⟨rfl, hB2⟩))
      have hs12 := Nat.le_trans hB1.size hB2.size
      have HBW := fun o o' => (((hB1.trans (hB2.mono hB1.size)).alloc hs12 o).alloc (by simp; omega) o')
      have HBW := HBW (Obj.cells #[Value.string xw, Value.bool xn, Value.bool true] 43) (Obj.cells #[Value.string yw, Value.bool yn, Value.bool yo] 43)
      go_loopw [6, 7] (fun v i wr => ∃ (j : Nat) (out : List ByteArray), j ≤ b.length ∧ i = .int .i64 j ∧ out.length = j ∧ Hid (done ++ leastB (b.drop k) = out ++ leastB (b.drop j)) ∧ wr.ownsRow w.heap.size 9 1 v j (out.map Value.string) ∧ Below w.heap.size w wr) (fun _ i _ => b.length - (intOf i).toNat)
      case atStart => exact ⟨k, done, by assumption, rfl, HD.out, rfl, own_below hown HBW, HW.out.trans (HBW.mono hszw)⟩
      case round =>
        obtain ⟨j, out, hj, rfl, ho, HL2, hown2, hbw2⟩ := hrel
        have HO := Lib.hid ho
        clear ho hown
        have hszw2 := hbw2.size
        by_cases hlt : j < b.length
        · obtain ⟨x, hx⟩ : ∃ x, b[j]? = some x := ⟨_, List.getElem?_eq_getElem hlt⟩
          obtain ⟨b0, o0, rfl, hcell⟩ := HC2.out.resolve_left (by rintro rfl; simp at hlt)
          have hck0 := hcell j x hx
          have hck : wr.cell? ⟨b0, o0 + j, none⟩ = some (.string x) := (hbw2.cell (p := ⟨b0, o0 + j, none⟩) (World.block_lt_of_cell? w _ hck0)).trans hck0
          have hlt' : (j : Int) < (b.length : Int) := by omega
          have HX := Lib.hid hx
          clear hcell hck0 hx
          cases h5 : (x.toList == [35])
          · have h5' := neS h5
            have HF : Hid (done ++ leastB (b.drop k) = (out ++ [leastV x]) ++ leastB (b.drop (j + 1))) := by show _ = _; rw [HL2.out, leastB_some HX.out h5]; simp
            clear HX HL2
            have HLV := Lib.hid (least_any x)
            generalize leastV x = lx at HF HLV
            go_wp2_with (first | (go_at_call 46; refine (HLV.out _).mono ?_; rintro e w4 ⟨rfl, rfl⟩) | (at_builtin; refine wpList_append_own _ rfl _ _ 23 rfl w.heap.size 9 i0 (.string ByteArray.empty) 1 16 Tryd.underlying23 hi hz0 hz1 hz2 rfl (by decide) _ _ _ rfl (hown2.alloc _) ⟨wr.heap.size, 0, none⟩ 1 1 [.string lx] rfl rfl (cell_one_new _ _ _) (fun x hx => by simp at hx; subst hx; rfl) (by unfold maxLen; omega) (by omega) (by simp; omega) ?_; intro v' w5 hown' hgrow hnil))
            have hB5 : Below w.heap.size w w5 := ((hbw2.alloc hszw2 _).grown hgrow (by simp; omega) (fun j hj => (hown2.lt j hj).1))
            have hown5 : w5.ownsRow w.heap.size 9 1 v' (j + 1) ((out ++ [lx]).map Value.string) := by simpa using hown'
            clear hown' hgrow hown2 hnil
            go_wp2
            go_roundw
            case rel => exact ⟨j + 1, out ++ [lx], by omega, by go_num, by have := HO.out; simp; omega, HF, hown5, hB5⟩
            case measure => simp [intOf]; omega
          · have h5' := neSf h5
            have HF : Hid (shortB a b = some out) := by
              show _ = _
              rw [HL.out, HS.out]; simp only [Option.map_some]; rw [HL2.out, leastB_stop HX.out h5, List.append_nil]
            go_wp2
            go_ret2
            exact meet_some HF.out HO.out hown2 hbw2
        · obtain rfl : j = b.length := by omega
          have HF : Hid (shortB a b = some out) := by
            show _ = _
            rw [HL.out, HS.out]; simp only [Option.map_some]; rw [HL2.out]; simp [leastB]
          go_wp2
          go_ret2
          exact meet_some HF.out HO.out hown2 hbw2
end Go.Proofs.YtfkbnemhkkbjgaaDoor
