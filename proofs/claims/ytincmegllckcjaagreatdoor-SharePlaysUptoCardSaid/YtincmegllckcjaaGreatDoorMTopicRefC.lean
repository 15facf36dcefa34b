/- THE REFERENCE's Name, Filter, Match, walked. THE PROGRAM's ITERATOR over a topic's levels, and what ranges over it. THE PROGRAM's Levels and Filter. -/
import Derived.Test.YtincmegllckcjaaGreatDoorMRangeBox
import Derived.WalkSmall
import Derived.RangeFuncNested
import Derived.RangeFuncBound
import Derived.RangeFuncCalls
import Derived.Shelf.Abstract
import Derived.Shelf.RegionOpen
import Derived.OwnWalkIn
import Derived.TacticsInMore
import Derived.LoopNIn
import Derived.LoopIn
namespace Go.Proofs.YtincmegllckcjaaGreatDoor
section
open Go Go.RowKit

theorem Sl.below {w w' : World} {v : Value} {l : List ByteArray} (h : Sl w v l) (hb : Below w.heap.size w w') : Sl w' v l := by
  obtain ⟨p, cap, rfl, h1, h2, h3⟩ := h
  refine ⟨p, cap, rfl, h1, h2, h3.imp id fun ⟨b, o, e, hc⟩ => ⟨b, o, e, fun j x hj => ?_⟩⟩
  have := hc j x hj
  exact (hb.cell (p := ⟨b, o + j, none⟩) (World.block_lt_of_cell? w _ this)).trans this

def nameB (l : List UInt8) : Bool := plainB l && !hasB l 43 35

set_option maxHeartbeats 400000 in
theorem refName_any (hV : ValidSaid) (s : ByteArray) (w : World) (hs : s.size ≤ 9223372036854775807) (hT : Tabs w) :
    Calls Tryz.prog 32 #[.string s] w fun e w' => e = .returned (.bool (nameB s.data.toList)) ∧ Below w.heap.size w w' := by
  have cP := refPlain_any hV s w hs hT
  unfold nameB
  generalize plainB s.data.toList = p at cP ⊢
  cases p
  · go_enter Tryz.func32, Tryz.ntmps32
    go_wp2_with (go_at_call 67; refine cP.mono ?_; rintro e w' ⟨rfl, hb⟩)
    go_ret
    exact ⟨rfl, hb⟩
  · go_enter Tryz.func32, Tryz.ntmps32
    go_wp2_with (first | (go_at_call 67; refine cP.mono ?_; rintro e w' ⟨rfl, hb⟩) | (go_at_call 68; refine (has_any s 43 35 _ hs).mono ?_; rintro e w1 ⟨rfl, rfl⟩))
    go_ret
    exact ⟨rfl, hb⟩

/-- a filter's levels: "+" and "#" stand alone; "#" is the last one -/
def levOk : List ByteArray → Bool
  | [] => true
  | x :: r => (!hasB x.data.toList 43 35 || x.toList == [43] || (x.toList == [35] && r.isEmpty)) && levOk r
def filterB (s : ByteArray) : Bool := plainB s.data.toList && levOk (levels s)

theorem levOk_step {l : List ByteArray} {k : Nat} {x : ByteArray} (hx : l[k]? = some x) : levOk (l.drop k) = ((!hasB x.data.toList 43 35 || x.toList == [43] || (x.toList == [35] && decide (k + 1 = l.length))) && levOk (l.drop (k + 1))) := by
  obtain ⟨hk, rfl⟩ := List.getElem?_eq_some_iff.1 hx
  rw [List.drop_eq_getElem_cons hk, levOk]
  congr 4
  rw [Bool.eq_iff_iff, List.isEmpty_iff, List.drop_eq_nil_iff, decide_eq_true_eq]
  omega

theorem neS {a b : List UInt8} (h : (a == b) = false) : (a != b) = true := by simp [bne, h]
theorem neSf {a b : List UInt8} (h : (a == b) = true) : (a != b) = false := by simp [bne, h]

set_option maxHeartbeats 1000000 in
theorem refFilter_any (hV : ValidSaid) (s : ByteArray) (w : World) (hs : s.size ≤ 1048576) (hT : Tabs w) :
    Calls Tryz.prog 85 #[.string s] w fun e w' => e = .returned (.bool (filterB s)) ∧ Below w.heap.size w w' := by
  have cP := refPlain_any hV s w (by omega) hT
  unfold filterB
  generalize plainB s.data.toList = p at cP ⊢
  cases p
  · go_enter Tryz.func85, Tryz.ntmps85
    go_wp2_with (go_at_call 67; refine cP.mono ?_; rintro e w' ⟨rfl, hb⟩)
    go_ret
    exact ⟨rfl, hb⟩
  · rw [Bool.true_and]
    have hne := levels_ne s
    have hll := levels_len s
    have hba : ∀ x ∈ levels s, x.size ≤ 9223372036854775807 := fun x hx => by have := levels_size s x hx; omega
    have cL := refLevels_any s
    generalize levels s = L at *
    have CL := Lib.hid cL
    clear cL
    go_enter Tryz.func85, Tryz.ntmps85
    go_wp2_with (first | (go_at_call 67; refine cP.mono ?_; rintro e w' ⟨rfl, hb⟩) | fail)
    refine (CL.out _ hs).mono ?_
    rintro e w2 ⟨v, rfl, hS, hb2⟩
    have hb3 := hb.trans (hb2.mono hb.size)
    clear hb hb2 CL cP
    obtain ⟨p, cap, rfl, hc1, hc2, hcells⟩ := hS
    obtain ⟨b, o, rfl, hcell⟩ := hcells.resolve_left hne
    have HC := Lib.hid hcell
    have HBA := Lib.hid hba
    clear hcell hcells hba
    go_wp2
    go_loop [12] (fun i => ∃ k : Nat, k ≤ L.length ∧ i = .int .i64 k ∧ Hid (levOk L = levOk (L.drop k))) (fun i => L.length - (intOf i).toNat)
    case atStart => exact ⟨0, Nat.zero_le _, rfl, rfl⟩
    case round =>
      obtain ⟨k, hk, rfl, HL⟩ := hrel
      by_cases hlt : k < L.length
      · obtain ⟨x, hx⟩ : ∃ x, L[k]? = some x := ⟨_, List.getElem?_eq_getElem hlt⟩
        have hck := HC.out k x hx
        have hxs : x.size ≤ 9223372036854775807 := HBA.out x (List.mem_of_getElem? hx)
        have HS := Lib.hid (levOk_step hx)
        have HN := Lib.hid (HL.out.trans HS.out)
        clear hx HS
        have CH : Hid (∀ w, Calls Tryz.prog 68 #[.string x, .int .u8 43, .int .u8 35] w fun e w' => e = .returned (.bool (hasB x.data.toList 43 35)) ∧ w = w') := fun w => has_any x 43 35 w hxs
        generalize hasB x.data.toList 43 35 = hB at *
        by_cases c1 : hB = true ∧ (x.toList == [43]) = false ∧ ((x.toList == [35]) = false ∨ k + 1 < L.length)
        · obtain ⟨rfl, c2, c3⟩ := c1
          have c2' := neS c2
          have HF := Lib.hid (show levOk L = false by rw [HN.out, c2]; rcases c3 with c3 | c3 <;> simp [c3]; omega)
          clear HN HL
          by_cases c4 : (x.toList == [35]) = false
          · have c4' := neS c4
            clear c3
            go_wp2_with (go_at_call 68; refine (CH.out _).mono ?_; rintro e w1 ⟨rfl, rfl⟩)
            go_ret
            exact ⟨ret_bool HF.out.symm, hb3⟩
          · have c5 : ((k : Int) < (L.length : Int) - 1) := by have := c3.resolve_left c4; omega
            simp only [Bool.not_eq_false] at c4
            have c4' := neSf c4
            clear c3
            go_wp2_with (go_at_call 68; refine (CH.out _).mono ?_; rintro e w1 ⟨rfl, rfl⟩)
            go_ret
            exact ⟨ret_bool HF.out.symm, hb3⟩
        · have HF := Lib.hid (show levOk L = levOk (L.drop (k + 1)) by
            rw [HN.out]
            have : (!hB || x.toList == [43] || (x.toList == [35] && decide (k + 1 = L.length))) = true := by
              cases hB <;> cases h1 : (x.toList == [43]) <;> cases h2 : (x.toList == [35]) <;> simp_all
              omega
            rw [this]; rfl)
          clear HN HL
          cases hB
          · clear c1
            go_wp2_with (go_at_call 68; refine (CH.out _).mono ?_; rintro e w1 ⟨rfl, rfl⟩)
            go_round
            case rel => exact ⟨k + 1, by omega, by go_num, HF⟩
            case measure => simp [intOf]; omega
          · cases c2 : (x.toList == [43])
            · have c2' := neS c2
              have c4 : (x.toList == [35]) = true := by cases h : (x.toList == [35]) <;> simp_all
              have c4' := neSf c4
              have c5 : ¬ ((k : Int) < (L.length : Int) - 1) := by intro h; exact c1 ⟨rfl, c2, .inr (by omega)⟩
              clear c1
              go_wp2_with (go_at_call 68; refine (CH.out _).mono ?_; rintro e w1 ⟨rfl, rfl⟩)
              go_round
              case rel => exact ⟨k + 1, by omega, by go_num, HF⟩
              case measure => simp [intOf]; omega
            · have c2' := neSf c2
              clear c1
              go_wp2_with (go_at_call 68; refine (CH.out _).mono ?_; rintro e w1 ⟨rfl, rfl⟩)
              go_round
              case rel => exact ⟨k + 1, by omega, by go_num, HF⟩
              case measure => simp [intOf]; omega
      · obtain rfl : k = L.length := by omega
        have HF := Lib.hid (show levOk L = true by rw [HL.out]; simp [levOk])
        clear HL
        go_wp2
        go_ret
        exact ⟨ret_bool HF.out.symm, hb3⟩
def wildB (x : ByteArray) : Bool := x.toList == [43] || x.toList == [35]
set_option maxHeartbeats 400000 in
theorem refWild_any (x : ByteArray) (w : World) :
    Calls Tryz.prog 123 #[.string x] w fun e w' => e = .returned (.bool (wildB x)) ∧ w = w' := by
  unfold wildB
  cases h1 : (x.toList == [43])
  · cases h2 : (x.toList == [35])
    all_goals
      go_enter Tryz.func123, Tryz.ntmps123
      go_wp2
      go_ret
      exact ⟨rfl, rfl⟩
  · go_enter Tryz.func123, Tryz.ntmps123
    go_wp2
    go_ret
    exact ⟨rfl, rfl⟩

/-- does a text begin with a dollar sign? -/
def dollarB (l : List UInt8) : Bool := match l with
  | [] => false
  | c :: _ => (c.toNat : Int) == 36
def headS (s : ByteArray) : ByteArray := (levels s).headD ByteArray.empty
def matchB (f n : ByteArray) : Bool := filterB f && (nameB n.data.toList && (!(wildB (headS f) && dollarB n.data.toList) && agreeB (levels f) (levels n)))

theorem plainB_size {s : ByteArray} (h : plainB s.data.toList = true) : 0 < s.size := by
  unfold plainB at h
  rcases Nat.eq_zero_or_pos s.size with h0 | h0
  · have : s.data.toList = [] := by apply List.eq_nil_of_length_eq_zero; simpa using h0
    simp [this] at h
  · exact h0
theorem nameB_size {s : ByteArray} (h : nameB s.data.toList = true) : 0 < s.size := plainB_size (by unfold nameB at h; simp at h; exact h.1)
theorem dollarB_get (s : ByteArray) (h : 0 < s.size) : dollarB s.data.toList = (((s[0].toNat : Nat) : Int) == 36) := by
  have e : s.data.toList = s.data.toList[0]'(by simpa using h) :: s.data.toList.drop 1 := by
    conv => lhs; rw [← List.drop_zero (l := s.data.toList), List.drop_eq_getElem_cons (i := 0) (by simpa using h)]
  rw [e]; rfl

set_option maxHeartbeats 1000000 in
theorem refMatch_any (hV : ValidSaid) (f n : ByteArray) (w : World) (hf : f.size ≤ 1048576) (hn : n.size ≤ 1048576) (hT : Tabs w) :
    Calls Tryz.prog 82 #[.string f, .string n] w fun e w' => e = .returned (.bool (matchB f n)) ∧ Below w.heap.size w w' := by
  have cF := refFilter_any hV f w hf hT
  have cN := fun w (hT : Tabs w) => refName_any hV n w (by omega) hT
  have hpos := fun h => nameB_size (s := n) h
  have hdol := fun h => dollarB_get n h
  unfold matchB
  generalize filterB f = F at *
  generalize nameB n.data.toList = N at *
  generalize dollarB n.data.toList = D at *
  cases F
  · clear hpos hdol cN
    go_enter Tryz.func82, Tryz.ntmps82
    go_wp2_with (go_at_call 85; refine cF.mono ?_; rintro e w' ⟨rfl, hb⟩)
    go_ret
    exact ⟨rfl, hb⟩
  cases N
  · have CN := Lib.hid cN
    clear hpos hdol cN
    go_enter Tryz.func82, Tryz.ntmps82
    go_wp2_with (first | (go_at_call 85; refine cF.mono ?_; rintro e w' ⟨rfl, hb⟩) | (go_at_call 32; refine (CN.out _ (hT.below hb)).mono ?_; rintro e w2 ⟨rfl, hb2⟩))
    go_ret
    exact ⟨rfl, hb.trans (hb2.mono hb.size)⟩
  · have h0 : 0 < n.size := hpos rfl
    have CN := Lib.hid cN
    have HD := Lib.hid (hdol h0)
    have HL : Hid (headS f = (levels f).headD ByteArray.empty) := rfl
    have hne := levels_ne f
    have cLf := fun w => refLevels_any f w hf
    have cLn := fun w => refLevels_any n w hn
    clear hpos hdol cN
    generalize headS f = hd at *
    generalize levels f = Lf at *
    generalize levels n = Ln at *
    have CLf := Lib.hid cLf
    have CLn := Lib.hid cLn
    clear cLf cLn
    obtain ⟨x, r, rfl⟩ : ∃ x r, Lf = x :: r := by cases Lf with | nil => exact absurd rfl hne | cons x r => exact ⟨x, r, rfl⟩
    obtain rfl : hd = x := HL.out
    clear HL hne
    have hw := fun w => refWild_any hd w
    generalize wildB hd = W at *
    have CW := Lib.hid hw
    clear hw
    rw [Bool.true_and, Bool.true_and]
    go_enter Tryz.func82, Tryz.ntmps82
    go_wp2_with (first | (go_at_call 85; refine cF.mono ?_; rintro e w' ⟨rfl, hb⟩) | (go_at_call 32; refine (CN.out _ (hT.below hb)).mono ?_; rintro e w2 ⟨rfl, hb2⟩) | fail)
    have hb3 := hb.trans (hb2.mono hb.size)
    clear hb hb2 CN cF
    refine (CLf.out _).mono ?_
    rintro e w3 ⟨v, rfl, hS, hb4⟩
    have hb5 := hb3.trans (hb4.mono hb3.size)
    have HS := Lib.hid hS
    obtain ⟨p, cap, rfl, hc1, hc2, hcells⟩ := hS
    obtain ⟨b, o, rfl, hcell⟩ := hcells.resolve_left (by simp)
    have h00 := hcell 0 _ rfl
    simp only [Nat.add_zero] at h00
    clear hcell hcells hb3 hb4
    cases W
    · go_wp2_with (first | (go_at_call 123; refine (CW.out _).mono ?_; rintro e w4 ⟨rfl, rfl⟩) | fail)
      refine (CLn.out _).mono ?_
      rintro e w5 ⟨v5, rfl, hS5, hb6⟩
      go_wp2_with fail
      refine (agree_any _ _ _ _ _ (HS.out.below hb6) hS5).mono ?_
      rintro e w6 ⟨rfl, q, rfl⟩
      go_wp2
      go_ret
      exact ⟨rfl, below_drewN (hb5.trans (hb6.mono hb5.size)) q⟩
    · cases D
      · have hd0 := HD.out.symm
        go_wp2_with (first | (go_at_call 123; refine (CW.out _).mono ?_; rintro e w4 ⟨rfl, rfl⟩) | fail)
        refine (CLn.out _).mono ?_
        rintro e w5 ⟨v5, rfl, hS5, hb6⟩
        go_wp2_with fail
        refine (agree_any _ _ _ _ _ (HS.out.below hb6) hS5).mono ?_
        rintro e w6 ⟨rfl, q, rfl⟩
        go_wp2
        go_ret
        exact ⟨rfl, below_drewN (hb5.trans (hb6.mono hb5.size)) q⟩
      · have hd0 := HD.out.symm
        go_wp2_with (first | (go_at_call 123; refine (CW.out _).mono ?_; rintro e w4 ⟨rfl, rfl⟩) | fail)
        go_ret
        exact ⟨rfl, hb5⟩
end
section
open Go Go.RowKit Go.Shelf
attribute [local go_sem] Oper.semAt_some

/-- how long the text in a box is -/
def boxLen (b : Nat) (w : World) : Nat := match w.cell? ⟨b, 0, none⟩ with | some (.string t) => t.size | _ => 0
theorem boxLen_eq {b : Nat} {w : World} {t : ByteArray} (h : w.cell? ⟨b, 0, none⟩ = some (.string t)) : boxLen b w = t.size := by simp [boxLen, h]

theorem idx47 (hI : IndexByteSaid) (t : ByteArray) (w : World) : Calls Tryz.prog 90 #[.string t, .int .u8 47] w fun e w' => e = .returned (.int .i64 (Lib.indexByte t.data.toList 47)) ∧ w = w' := by
  have := hI t 47 w; simpa using this

set_option maxHeartbeats 1000000 in
set_option maxRecDepth 100000 in
theorem levels1_in (hI : IndexByteSaid) (n : Nat) (hn : 1 ≤ n) (l Bn : Nat) (s : ByteArray) (hs : s.size ≤ 1048576) (L : List ByteArray) (hL : Hid (levels s = L)) (J Jx : List {x // x ∈ L} → World → Prop)
    (hJ : Stands Bn J)
    (hY : ∀ pre x W1, J pre W1 → pre.length < L.length → YieldAt Fence.wide (n - 1) Tryz.prog l #[.string x.1] W1 fun e W' =>
      (e = .returned (.bool true) ∧ J (pre ++ [x]) W' ∧ W'.heap[Bn]? = W1.heap[Bn]?) ∨ (e = .returned (.bool false) ∧ Jx (pre ++ [x]) W'))
    (W : World) (hB : W.heap[Bn]? = some (.cells #[.string s] 9 (0, 0))) (h0 : J [] W) :
    CallsIn Fence.wide n Tryz.prog 113 #[.func (.yield l) #[] #[], .pointer (some ⟨Bn, 0, none⟩)] W fun e W' => (∃ v, e = .returned v) ∧
      ((∃ ys : List {x // x ∈ L}, ys.map Subtype.val = L ∧ J ys W') ∨ (∃ pre : List {x // x ∈ L}, pre.map Subtype.val <+: L ∧ Jx pre W')) := by
  refine callsIn_of_wp Tryz.func113 rfl trivial ?_ rfl
  simp only [Tryz.ntmps113, List.size_toArray, List.length_cons, List.length_nil, Nat.reduceAdd, Nat.reduceSub, Array.replicate_succ, Array.replicate_zero, List.push_toArray, List.append_toArray, List.nil_append, List.cons_append]
  gi_wp2
  gi_loopw [3] (fun _ wr => ∃ (pre : List {x // x ∈ L}) (t : ByteArray), Hid (L = pre.map Subtype.val ++ levels t) ∧ t.size ≤ 1048576 ∧ wr.heap[Bn]? = some (.cells #[.string t] 9 (0, 0)) ∧ J pre wr)
    (fun _ wr => boxLen Bn wr)
  case atStart => exact ⟨[], s, hL.out.symm, hs, hB, h0⟩
  case round =>
    obtain ⟨pre, t, HL, hts, hb, hJs⟩ := hrel
    have hc := cell_of_one hb
    have hf := free_of_one hb
    have hlt := lt_of_block hb
    have C47 := Lib.hid (idx47 hI t)
    by_cases hneg : Lib.indexByte t.data.toList 47 < 0
    · have hl1 := levels_none t hneg
      have hmem : t ∈ L := by rw [HL.out, hl1]; simp
      have hlen : pre.length < L.length := by have := congrArg List.length HL.out; rw [hl1] at this; simp at this; omega
      have hall : (pre ++ [(⟨t, hmem⟩ : {x // x ∈ L})]).map Subtype.val = L := by have := HL.out; rw [hl1] at this; simpa using this.symm
      obtain ⟨fn, tmps, assign, body, hy, hR⟩ := hY pre ⟨t, hmem⟩ wr hJs hlen
      have HALL := Lib.hid hall
      clear hall hl1 HL
      gi_wp2_with (refine ⟨trivial, ?_⟩; gi_at_call 90; refine (callsIn_wide.2 (C47.out _)).mono ?_; rintro e w' ⟨rfl, rfl⟩)
      refine hR.mono ?_
      rintro e W3 (⟨rfl, hJ3, hk3⟩ | ⟨rfl, hJx3⟩)
      · gi_wp2
        refine bodyPost_ret (results_none rfl _ _ _) rfl ?_
        exact ⟨⟨_, rfl⟩, .inl ⟨_, HALL.out, hJ3⟩⟩
      · gi_wp2
        refine bodyPost_ret (results_none rfl _ _ _) rfl ?_
        exact ⟨⟨_, rfl⟩, .inr ⟨_, ⟨[], by rw [List.append_nil]; exact HALL.out⟩, hJx3⟩⟩
    · obtain ⟨k, hk, hkt, hlk⟩ := levels_some t (by omega)
      have hmem : t.extract 0 k ∈ L := by rw [HL.out, hlk]; simp
      have hlen : pre.length < L.length := by have := congrArg List.length HL.out; rw [hlk] at this; simp at this; omega
      have hall : L = (pre ++ [(⟨t.extract 0 k, hmem⟩ : {x // x ∈ L})]).map Subtype.val ++ levels (t.extract (k + 1) t.size) := by have := HL.out; rw [hlk] at this; simpa using this
      obtain ⟨fn, tmps, assign, body, hy, hR⟩ := hY pre ⟨t.extract 0 k, hmem⟩ wr hJs hlen
      have HALL := Lib.hid hall
      have C47' : Hid (∀ w, Calls Tryz.prog 90 #[.string t, .int .u8 47] w fun e w' => e = .returned (.int .i64 k) ∧ w = w') := by rw [← hk]; exact C47
      have hsz : (t.extract (k + 1) t.size).size + (k + 1) = t.size := by simp; omega
      clear hall hlk HL C47 hk hneg
      gi_wp2_with (refine ⟨trivial, ?_⟩; gi_at_call 90; refine (callsIn_wide.2 (C47'.out _)).mono ?_; rintro e w' ⟨rfl, rfl⟩)
      refine hR.mono ?_
      rintro e W3 (⟨rfl, hJ3, hk3⟩ | ⟨rfl, hJx3⟩)
      · have hb3 : W3.heap[Bn]? = some (.cells #[.string t] 9 (0, 0)) := hk3.trans hb
        have hc3 := cell_of_one hb3
        have hf3 := free_of_one hb3
        have hs3 := hJ _ _ (W3.setCell ⟨Bn, 0, none⟩ (.string (t.extract (k + 1) t.size))) hJ3 ⟨rfl, rfl, rfl, by simp [World.setCell], fun j _ hj => Below.heap_setCell _ _ _ _ (fun e => hj (by rw [e]))⟩
        have hb4 := one_setCell (u := .string (t.extract (k + 1) t.size)) hb3
        have hm4 := boxLen_eq (cell_of_one hb4)
        have hm1 := boxLen_eq hc
        have HM := Lib.hid hm4
        have HM1 := Lib.hid hm1
        clear hm4 hm1 hk3
        gi_wp2
        go_roundw
        case rel => exact ⟨_, _, HALL, by omega, hb4, hs3⟩
        case measure => rw [HM.out, HM1.out]; omega
      · gi_wp2
        refine bodyPost_ret (results_none rfl _ _ _) rfl ?_
        exact ⟨⟨_, rfl⟩, .inr ⟨_, ⟨_, HALL.out.symm⟩, hJx3⟩⟩
theorem levels1_seq (hI : IndexByteSaid) (n : Nat) (hn : 1 ≤ n) (Bn : Nat) (s : ByteArray) (hs : s.size ≤ 1048576) (L : List ByteArray) (hL : Hid (levels s = L)) (w : World)
    (hB : w.heap[Bn]? = some (.cells #[.string s] 9 (0, 0))) :
    SeqBox Fence.wide n Tryz.prog 113 #[.pointer (some ⟨Bn, 0, none⟩)] (fun x : {x // x ∈ L} => #[Value.string x.1]) Bn (fun ys => ys.map Subtype.val = L) (fun pre => pre.map Subtype.val <+: L) L.length w :=
  fun l J Jx W hW hJ _ hY h0 => levels1_in hI n hn l Bn s hs L hL J Jx hJ hY W (hW.trans hB) h0

set_option maxHeartbeats 400000 in
theorem levels_fn (n : Nat) (s : ByteArray) (w : World) :
    CallsIn Fence.wide n Tryz.prog 71 #[.string s] w fun e w' => e = .returned (.func (.func 113) #[] #[.pointer (some ⟨w.heap.size, 0, none⟩)]) ∧ w' = w.alloc (.cells #[.string s] 9) := by
  refine callsIn_of_wp Tryz.func71 rfl trivial ?_ rfl
  simp only [Tryz.ntmps71, List.size_toArray, List.length_cons, List.length_nil, Nat.reduceAdd, Nat.reduceSub, Array.replicate_succ, Array.replicate_zero, List.push_toArray, List.append_toArray, List.nil_append, List.cons_append]
  gi_wp2
  go_ret
  exact ⟨rfl, rfl⟩
end
section
open Go Go.RowKit Go.Shelf
attribute [local go_sem] Oper.semAt_some

theorem ownsRow_mono {W : World} {b b' : Nat} {e : TypeId} {size : Nat} {v : Value} {k : Nat} {xs : List Value} (h : W.ownsRow b' e size v k xs) (hb : b ≤ b') : W.ownsRow b e size v k xs :=
  ⟨h.1, h.2.imp id fun ⟨g, cap, cur, h1, h2, h3⟩ => ⟨g, cap, cur, h1, Nat.le_trans hb h2, h3⟩⟩

/-- a box, a row of the call's own, and what lay before -/
def LevI (w : World) (L : List ByteArray) (pre : List {x // x ∈ L}) (W : World) : Prop :=
  (∃ v, Boxed W w.heap.size 55 v ∧ W.ownsRow (w.heap.size + 2) 9 1 v pre.length (pre.map fun x => Value.string x.1)) ∧ Below w.heap.size w W ∧ w.heap.size + 2 ≤ W.heap.size

theorem LevI.holds (w : World) (L : List ByteArray) : Holds (w.heap.size + 2) (w.heap.size + 1) (LevI w L) := by
  rintro s A B row ⟨⟨v, hv, hr⟩, hb, hsz⟩ hg hrow
  refine ⟨⟨v, hv.kept hg (fun e' => ?_), hr.kept hg ?_⟩, hb.grown hg hb.size (fun k e => ?_), Nat.le_trans hsz hg.size⟩
  · rcases hrow _ e'.symm with h | ⟨h, _⟩ <;> omega
  · rcases hr.2 with ⟨rfl, _⟩ | ⟨g, cap, cur, rfl, hbg, hgb, _⟩
    · exact .inl rfl
    · refine .inr fun e' => ?_
      rcases hrow g (by simpa [Value.ownBlock] using e'.symm) with h | ⟨_, o, ho, hc⟩
      · omega
      · rw [hgb] at ho; cases ho; cases hc
  · rcases hrow k e with h | ⟨h, _⟩ <;> omega

set_option maxRecDepth 100000 in
set_option maxHeartbeats 2000000 in
theorem levels_any (hI : IndexByteSaid) (s : ByteArray) (w : World) (hs : s.size ≤ 1048576) :
    Calls Tryz.prog 39 #[.string s] w fun e w' => ∃ v, e = .returned v ∧ (Sl w' v (levels s) ∧ ∀ g, v.ownBlock = some g → w.heap.size ≤ g) ∧ Below w.heap.size w w' := by
  obtain ⟨i0, hi, hz0, hz1, hz2⟩ := info_parts info_string
  have hll := levels_len s
  obtain ⟨L, hL⟩ : ∃ L, Hid (levels s = L) := ⟨_, rfl⟩
  rw [hL.out] at hll
  refine callsIn_wide.1 (?_ : CallsIn Fence.wide 4 _ _ _ _ _)
  refine callsIn_of_wp_marks Tryz.func39 rfl trivial ?_ rfl
  simp only [Tryz.ntmps39, List.size_toArray, List.length_cons, List.length_nil, Nat.reduceAdd, Nat.reduceSub, Array.replicate_succ, Array.replicate_zero, List.push_toArray, List.append_toArray, List.nil_append, List.cons_append]
  gi_wp2_with (refine ⟨trivial, ?_⟩; gi_at_call 71; refine (levels_fn _ _ _).mono ?_; rintro e w' ⟨rfl, rfl⟩)
  have bO := Boxed.new w 55 (.slice none 0 0)
  have bN := Boxed.new (w.alloc (.cells #[.slice none 0 0] 55)) 9 (.string s)
  rw [World.size_alloc] at bN
  have hB0 : Below w.heap.size w ((w.alloc (.cells #[.slice none 0 0] 55)).alloc (.cells #[.string s] 9)) := ((Below.refl _ w).alloc (Nat.le_refl _) _).alloc (by simp) _
  refine wpIn_range_box rfl (by omega) (gf := 113) (lb := #[.pointer (some ⟨w.heap.size + 1, 0, none⟩)]) rfl trivial (enters_of Tryz.func113 (by kernel_rfl) rfl)
    (Bn := w.heap.size + 1) (by simp) (levels1_seq hI _ (by omega) (w.heap.size + 1) s hs L hL _ bN) (fun _ => rfl)
    (LevI w L) (fun _ _ _ => False) (by have := LevI.holds w L; simpa using this) (fun _ _ _ _ _ hs _ _ => hs)
    ⟨⟨_, bO.alloc _, World.ownsRow_nil _ _ _ _⟩, hB0, by simp⟩
    (fun x => { tmps := #[.string s, undef, .slice none 0 0, .pointer (some ⟨w.heap.size, 0, none⟩), .string x.1, .string s, .func (.func 113) #[] #[.pointer (some ⟨w.heap.size + 1, 0, none⟩)], .string x.1, undef, undef, undef, undef, undef], defers := [] }) ?assign ?body ?done ?stop
  case assign =>
    intro l x W K hK
    gi_wp2
    exact hK
  case body =>
    rintro l pre x W ⟨⟨v, hv, hrow⟩, hB, hsz⟩ hlt
    have hc := hv.cell
    gi_wp2_with (gi_at_builtin; refine wpListIn_append_own _ rfl _ _ 55 rfl (w.heap.size + 2) 9 i0 (.string ByteArray.empty) 1 16 Tryz.underlying55 hi hz0 hz1 hz2 rfl (by decide) _ _ _ rfl (hrow.alloc _) ⟨W.heap.size, 0, none⟩ 1 1 [.string x.1] rfl rfl (cell_one_new _ _ _) (by simp [Value.oneCell']) (by unfold maxLen; omega) (by omega) (by simp; omega) ?_; intro v' w1 hown' hgrow _; obtain ⟨g', cap', rfl⟩ := ownsRow_succ hown'; obtain ⟨hv1, hv2, hr2, hk2, hb2⟩ := hv.appended (n₀ := w.heap.size) (by decide) (ownsRow_mono hrow (by omega)) hB.size (Nat.le_refl _) (ownsRow_mono hown' (by omega)) hgrow; have hc1 := hv1.cell; have hf1 := hv1.frozen)
    have hbn : (w1.setCell ⟨w.heap.size, 0, none⟩ (.slice (some ⟨g', 0, none⟩) (pre.length + 1) cap')).heap[w.heap.size + 1]? = W.heap[w.heap.size + 1]? :=
      (Below.heap_setCell _ _ _ _ (by simp)).trans ((hgrow.block _ (by simp; omega) (fun e => by have := (hrow.lt _ e.symm).1; omega)).trans (Below.heap_alloc _ _ _ (by omega)))
    have hown2 := hown'.kept (grownBy_setCell' w1 w.heap.size (.slice (some ⟨g', 0, none⟩) (pre.length + 1) cap')) (.inr (hv1.not_row (by decide) hown').symm)
    exact ⟨hk2.from _, hbn, ⟨⟨_, hv2, by simpa using hown2⟩, hB.trans hb2, by have := hk2.size; omega⟩⟩
  case done =>
    rintro D ys W hD hys ⟨⟨v, hv, hrow⟩, hB, hsz⟩ hK
    have hc := hv.cell
    have HY := Lib.hid hys
    clear hys
    gi_wp2
    refine ⟨by simp, .inl ⟨_, _, rfl, run_takeDeferred hK, ?_⟩⟩
    refine ⟨_, results_tmp rfl _ _ _, v, rfl, ?_, hB.trans (belowK_b (w := w) (Nat.le_refl _) W D _ _ (by simp at hD; omega) hK rfl rfl)⟩
    rw [hL.out, ← HY.out]
    have := ownsRow_putObj hrow (.deferred none) hK rfl
    have h9 := World.ownsRow.lt this
    exact ⟨Sl.of_owns (base := w.heap.size + 2) (by simpa [List.map_map, Function.comp_def] using this), fun g hg => by have := (h9 g hg).1; omega⟩
  case stop =>
    rintro D c pre W _ _ h _
    exact h.elim
end
end Go.Proofs.YtincmegllckcjaaGreatDoor
