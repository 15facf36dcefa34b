/- THE REFERENCE's Name, Filter, Match, walked. -/
import Derived.Test.YtflomcbclofbaaaDoorTopicRefA
import Derived.Test.YtflomcbclofbaaaDoorTopicRefB
import Derived.WalkSmall
namespace Go.Proofs.YtflomcbclofbaaaDoor
open Go Go.RowKit

theorem Sl.below {w w' : World} {v : Value} {l : List ByteArray} (h : Sl w v l) (hb : Below w.heap.size w w') : Sl w' v l := by
  obtain ⟨p, cap, rfl, h1, h2, h3⟩ := h
  refine ⟨p, cap, rfl, h1, h2, h3.imp id fun ⟨b, o, e, hc⟩ => ⟨b, o, e, fun j x hj => ?_⟩⟩
  have := hc j x hj
  exact (hb.cell (p := ⟨b, o + j, none⟩) (World.block_lt_of_cell? w _ this)).trans this

def nameB (l : List UInt8) : Bool := plainB l && !hasB l 43 35

/-- a filter's levels: "+" and "#" stand alone; "#" is the last one -/
def levOk : List ByteArray → Bool
  | [] => true
  | x :: r => (!hasB x.data.toList 43 35 || x.toList == [43] || (x.toList == [35] && r.isEmpty)) && levOk r
def filterB (s : ByteArray) : Bool := plainB s.data.toList && levOk (levels s)

theorem levOk_step {l : List ByteArray} {k : Nat} {x : ByteArray} (hx : l[k]? = some x) : levOk (l.drop k) = ((!hasB x.data.toList 43 35 || x.toList == [43] || (x.toList == [35] && decide (k + 1 = l.length))) && levOk (l.drop (k + 1))) := by
  obtain ⟨hk, rfl⟩ := List.getElem?_eq_some_iff.1 hx
  rw [List.drop_eq_getElem_cons hk, levOk]
  congr 4
  rw [Bool.eq_iff_iff, List.isEmpty_iff, List.drop_eq_nil_iff, decide_eq_true_eq]
  omega

theorem neS {a b : List UInt8} (h : (a == b) = false) : (a != b) = true := by simp [bne, h]
theorem neSf {a b : List UInt8} (h : (a == b) = true) : (a != b) = false := by simp [bne, h]

set_option maxHeartbeats 1000000 in
theorem refFilter_any (hV : ValidSaid) (s : ByteArray) (w : World) (hs : s.size ≤ 1048576) (hT : Tabs w) :
    Calls Tryd.prog 27 #[.string s] w fun e w' => e = .returned (.bool (filterB s)) ∧ Below w.heap.size w w' := by
  have cP := refPlain_any hV s w (by omega) hT
  unfold filterB
  generalize plainB s.data.toList = p at cP ⊢
  cases p
  · go_enter Tryd.func27, Tryd.ntmps27
    go_wp2_with (go_at_call 45; refine cP.mono ?_; rintro e w' ⟨rfl, hb⟩)
    go_ret
    exact ⟨rfl, hb⟩
  · rw [Bool.true_and]
    have hne := levels_ne s
    have hll := levels_len s
    have hba : ∀ x ∈ levels s, x.size ≤ 9223372036854775807 := fun x hx => by have := levels_size s x hx; omega
    have cL := refLevels_any s
    generalize levels s = L at *
    have CL := Lib.hid cL
    clear cL
    go_enter Tryd.func27, Tryd.ntmps27
    go_wp2_with (first | (go_at_call 45; refine cP.mono ?_; rintro e w' ⟨rfl, hb⟩) | fail)
    refine (CL.out _ hs).mono ?_
    rintro e w2 ⟨v, rfl, hS, hb2⟩
    have hb3 := hb.trans (hb2.mono hb.size)
    clear hb hb2 CL cP
    obtain ⟨p, cap, rfl, hc1, hc2, hcells⟩ := hS
    obtain ⟨b, o, rfl, hcell⟩ := hcells.resolve_left hne
    have HC := Lib.hid hcell
    have HBA := Lib.hid hba
    clear hcell hcells hba
    go_wp2
    go_loop [12] (fun i => ∃ k : Nat, k ≤ L.length ∧ i = .int .i64 k ∧ Hid (levOk L = levOk (L.drop k))) (fun i => L.length - (intOf i).toNat)
    case atStart => exact ⟨0, Nat.zero_le _, rfl, rfl⟩
    case round =>
      obtain ⟨k, hk, rfl, HL⟩ := hrel
      by_cases hlt : k < L.length
      · obtain ⟨x, hx⟩ : ∃ x, L[k]? = some x := ⟨_, List.getElem?_eq_getElem hlt⟩
        have hck := HC.out k x hx
        have hxs : x.size ≤ 9223372036854775807 := HBA.out x (List.mem_of_getElem? hx)
        have HS := Lib.hid (levOk_step hx)
        have HN := Lib.hid (HL.out.trans HS.out)
        clear hx HS
        have CH : Hid (∀ w, Calls Tryd.prog 47 #[.string x, .int .u8 43, .int .u8 35] w fun e w' => e = .returned (.bool (hasB x.data.toList 43 35)) ∧ w = w') := fun w => has_any x 43 35 w hxs
        generalize hasB x.data.toList 43 35 = hB at *
        by_cases c1 : hB = true ∧ (x.toList == [43]) = false ∧ ((x.toList == [35]) = false ∨ k + 1 < L.length)
        · obtain ⟨rfl, c2, c3⟩ := c1
          have c2' := neS c2
          have HF := Lib.hid (show levOk L = false by rw [HN.out, c2]; rcases c3 with c3 | c3 <;> simp [c3]; omega)
          clear HN HL
          by_cases c4 : (x.toList == [35]) = false
          · have c4' := neS c4
            clear c3
            go_wp2_with (go_at_call 47; refine (CH.out _).mono ?_; rintro e w1 ⟨rfl, rfl⟩)
            go_ret
            exact ⟨ret_bool HF.out.symm, hb3⟩
          · have c5 : ((k : Int) < (L.length : Int) - 1) := by have := c3.resolve_left c4; omega
            simp only [Bool.not_eq_false] at c4
            have c4' := neSf c4
            clear c3
            go_wp2_with (go_at_call 47; refine (CH.out _).mono ?_; rintro e w1 ⟨rfl, rfl⟩)
            go_ret
            exact ⟨ret_bool HF.out.symm, hb3⟩
        · have HF := Lib.hid (show levOk L = levOk (L.drop (k + 1)) by
            rw [HN.out]
            have : (!hB || x.toList == [43] || (x.toList == [35] && decide (k + 1 = L.length))) = true := by
              cases hB <;> cases h1 : (x.toList == [43]) <;> cases h2 : (x.toList == [35]) <;> simp_all
              omega
            rw [this]; rfl)
          clear HN HL
          cases hB
          · clear c1
            go_wp2_with (go_at_call 47; refine (CH.out _).mono ?_; rintro e w1 ⟨rfl, rfl⟩)
            go_round
            case rel => exact ⟨k + 1, by omega, by go_num, HF⟩
            case measure => simp [intOf]; omega
          · cases c2 : (x.toList == [43])
            · have c2' := neS c2
              have c4 : (x.toList == [35]) = true := by cases h : (x.toList == [35]) <;> simp_all
              have c4' := neSf c4
              have c5 : ¬ ((k : Int) < (L.length : Int) - 1) := by intro h; exact c1 ⟨rfl, c2, .inr (by omega)⟩
              clear c1
              go_wp2_with (go_at_call 47; refine (CH.out _).mono ?_; rintro e w1 ⟨rfl, rfl⟩)
              go_round
              case rel => exact ⟨k + 1, by omega, by go_num, HF⟩
              case measure => simp [intOf]; omega
            · have c2' := neSf c2
              clear c1
              go_wp2_with (go_at_call 47; refine (CH.out _).mono ?_; rintro e w1 ⟨rfl, rfl⟩)
              go_round
              case rel => exact ⟨k + 1, by omega, by go_num, HF⟩
              case measure => simp [intOf]; omega
      · obtain rfl : k = L.length := by omega
        have HF := Lib.hid (show levOk L = true by rw [HL.out]; simp [levOk])
        clear HL
        go_wp2
        go_ret
        exact ⟨ret_bool HF.out.symm, hb3⟩
def wildB (x : ByteArray) : Bool := x.toList == [43] || x.toList == [35]
/-- does a text begin with a dollar sign? -/
def dollarB (l : List UInt8) : Bool := match l with
  | [] => false
  | c :: _ => (c.toNat : Int) == 36
def headS (s : ByteArray) : ByteArray := (levels s).headD ByteArray.empty
def matchB (f n : ByteArray) : Bool := filterB f && (nameB n.data.toList && (!(wildB (headS f) && dollarB n.data.toList) && agreeB (levels f) (levels n)))

theorem plainB_size {s : ByteArray} (h : plainB s.data.toList = true) : 0 < s.size := by
  unfold plainB at h
  rcases Nat.eq_zero_or_pos s.size with h0 | h0
  · have : s.data.toList = [] := by apply List.eq_nil_of_length_eq_zero; simpa using h0
    simp [this] at h
  · exact h0
theorem nameB_size {s : ByteArray} (h : nameB s.data.toList = true) : 0 < s.size := plainB_size (by unfold nameB at h; simp at h; exact h.1)
theorem dollarB_get (s : ByteArray) (h : 0 < s.size) : dollarB s.data.toList = (((s[0].toNat : Nat) : Int) == 36) := by
  have e : s.data.toList = s.data.toList[0]'(by simpa using h) :: s.data.toList.drop 1 := by
    conv => lhs; rw [← List.drop_zero (l := s.data.toList), List.drop_eq_getElem_cons (i := 0) (by simpa using h)]
  rw [e]; rfl

end Go.Proofs.YtflomcbclofbaaaDoor
