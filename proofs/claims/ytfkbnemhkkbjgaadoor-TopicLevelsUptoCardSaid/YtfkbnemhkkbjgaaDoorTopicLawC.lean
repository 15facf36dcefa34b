/- the law TopicLevels, walked. -/
import Derived.Lib.AppendStr
import Derived.Laws.BytesArg
import Derived.Test.YtfkbnemhkkbjgaaDoorTopicLawA
namespace Go.Proofs.YtfkbnemhkkbjgaaDoor
open Go Go.RowKit

theorem info_byte : (Tryd.prog.info? 5).map (fun i => (i.zero, i.size, i.bytes)) = some (some (.int .u8 0), 1, 1) := by kernel_rfl

/-- bytes as cells -/
def bc (l : List UInt8) : List Value := l.map fun b => Value.int .u8 b.toNat
theorem bc_len (l : List UInt8) : (bc l).length = l.length := by simp [bc]
theorem bc_app (l r : List UInt8) : bc (l ++ r) = bc l ++ bc r := by simp [bc]
theorem bc_str (s : ByteArray) : Lib.strCells s = bc s.data.toList := rfl

/-- what the first k levels are, put together -/
def joinK (L : List ByteArray) (k : Nat) : List UInt8 := joinS ((L.take k).map fun x => x.data.toList)

theorem joinS_snoc : ∀ (l : List (List UInt8)) (x : List UInt8), joinS (l ++ [x]) = if l = [] then x else joinS l ++ 47 :: x
  | [], x => rfl
  | [a], x => by simp [joinS]
  | a :: b :: r, x => by
    have ih := joinS_snoc (b :: r) x
    simp only [List.cons_append] at ih ⊢
    simp only [joinS, ih]
    simp
theorem joinK_succ (L : List ByteArray) (k : Nat) (x : ByteArray) (hx : L[k]? = some x) : joinK L (k + 1) = if k = 0 then x.data.toList else joinK L k ++ 47 :: x.data.toList := by
  obtain ⟨hk, rfl⟩ := List.getElem?_eq_some_iff.1 hx
  unfold joinK
  rw [List.take_succ_eq_append_getElem hk, List.map_append, List.map_cons, List.map_nil, joinS_snoc]
  by_cases h0 : k = 0
  · subst h0; simp
  · have : ¬ ((L.take k).map fun x : ByteArray => x.data.toList) = [] := by
      intro h
      rw [List.map_eq_nil_iff, List.take_eq_nil_iff] at h
      rcases h with h | h
      · exact h0 h
      · subst h; simp at hk
    rw [if_neg this, if_neg h0]
theorem joinK_all (s : ByteArray) : joinK (levels s) (levels s).length = s.data.toList := by
  unfold joinK levels
  rw [List.take_of_length_le (Nat.le_refl _), List.map_map]
  have : ((fun x : ByteArray => x.data.toList) ∘ ba) = id := by funext l; rfl
  rw [this, List.map_id, joinS_split]
/-- a part is not longer than the whole -/
theorem joinS_app_len : ∀ (l r : List (List UInt8)), (joinS l).length ≤ (joinS (l ++ r)).length
  | [], r => by simp [joinS]
  | [a], r => by cases r <;> simp [joinS]
  | a :: b :: l, r => by
    have ih := joinS_app_len (b :: l) r
    simp only [List.cons_append] at ih ⊢
    simp only [joinS, List.length_append, List.length_cons]
    omega
theorem joinK_len (s : ByteArray) (k : Nat) : (joinK (levels s) k).length ≤ s.size := by
  have h := joinS_app_len (((levels s).take k).map fun x => x.data.toList) (((levels s).drop k).map fun x => x.data.toList)
  rw [← List.map_append, List.take_append_drop] at h
  have e := joinK_all s
  unfold joinK at e ⊢
  rw [List.take_of_length_le (Nat.le_refl _)] at e
  rw [e] at h
  simpa using h

/-- a row of bytes of the call's own, turned into a text -/
theorem convert_row {w : World} {base : Nat} {v : Value} {l : List UInt8} (h : w.ownsRow base 5 1 v l.length (bc l)) :
    (convert 27 9 v).run Tryd.prog w = .ok (.string (ba l)) w := by
  rcases h.2 with ⟨rfl, h0⟩ | ⟨g, cap, cur, rfl, hb, hg, hn, hm, hs, ht⟩
  · have : l = [] := List.eq_nil_of_length_eq_zero h0
    subst this
    exact run_convert_bytes_nil w _ 5 Tryd.underlying27 Tryd.underlying5 0 0 _ Tryd.underlying9
  · have := run_convert_bytes_arg (P := Tryd.prog) w 27 5 Tryd.underlying27 Tryd.underlying5 g 0 l.length cap (l.map fun b => (b.toNat : Int)) (by simp) (fun i hi => by
      have hc := h.cells (g := g) rfl i (.int .u8 (l[i]'hi).toNat) (by simp [bc, hi])
      have hadd : (⟨g, 0, none⟩ : Addr).add i = ⟨g, 0 + i, none⟩ := by unfold Addr.add; split <;> simp_all
      rw [hadd] at hc
      rw [hc]; simp [hi]) 9 Tryd.underlying9
    rw [this]
    congr 2
    show strOfNums _ = ba l
    have e : (strOfNums (l.map fun b => (b.toNat : Int))).data.toList = l := by
      rw [strOfNums_data, List.map_map]
      conv => rhs; rw [← List.map_id l]
      apply List.map_congr_left
      intro b _
      simp
    rw [← ba_of (strOfNums _), e]
set_option maxHeartbeats 4000000 in
theorem topicLevels_any (s : ByteArray) (w : World) (hs : s.size ≤ 1048576) (hT : Tabs w) :
    Calls Tryd.prog 6 #[.string s] w fun e w' => e = .returned (.bool true) ∧ Below w.heap.size w w' := by
  obtain ⟨i0, hi, hz0, hz1, hz2⟩ := info_parts info_byte
  have cL := levels_any indexByte_said s w hs
  have hne := levels_ne s
  have hll := levels_len s
  have HJL : Hid (∀ k, (joinK (levels s) k).length ≤ s.size) := joinK_len s
  have HJA := Lib.hid (joinK_all s)
  have HJS : Hid (∀ k x, (levels s)[k]? = some x → joinK (levels s) (k + 1) = if k = 0 then x.data.toList else joinK (levels s) k ++ 47 :: x.data.toList) := joinK_succ (levels s)
  have HSZ : Hid (∀ x ∈ levels s, x.size ≤ 1048576) := fun x hx => by have := levels_size s x hx; omega
  generalize levels s = L at *
  have CL := Lib.hid cL
  clear cL
  go_enter Tryd.func6, Tryd.ntmps6
  go_wp2_with fail
  refine CL.out.mono ?_
  rintro e w1 ⟨v, rfl, hS, hb1⟩
  clear CL
  obtain ⟨p, cap, rfl, hc1, hc2, hcells⟩ := hS
  obtain ⟨b, o, rfl, hcell⟩ := hcells.resolve_left hne
  have HC := Lib.hid hcell
  clear hcell hcells
  go_wp2
  go_loopw [3, 9] (fun v i wr => ∃ k : Nat, k ≤ L.length ∧ i = .int .i64 k ∧ wr.ownsRow w1.heap.size 5 1 v (joinK L k).length (bc (joinK L k)) ∧ Below w1.heap.size w1 wr) (fun _ i _ => L.length - (intOf i).toNat)
  case atStart => exact ⟨0, Nat.zero_le _, rfl, World.ownsRow_nil _ _ _ _, Below.refl _ _⟩
  case round =>
    obtain ⟨k, hk, rfl, hown, hbw⟩ := hrel
    have hszw := hbw.size
    by_cases hlt : k < L.length
    · obtain ⟨x, hx⟩ : ∃ x, L[k]? = some x := ⟨_, List.getElem?_eq_getElem hlt⟩
      have hck0 := HC.out k x hx
      have hck : wr.cell? ⟨b, o + k, none⟩ = some (.string x) := (hbw.cell (p := ⟨b, o + k, none⟩) (World.block_lt_of_cell? w1 _ hck0)).trans hck0
      have hxs := HSZ.out x (List.mem_of_getElem? hx)
      have HX := Lib.hid (HJS.out k x hx)
      have hl1 := HJL.out k
      clear hx hck0
      by_cases h0 : k = 0
      · subst h0
        have HX' : Hid (joinK L 1 = x.data.toList) := HX.out
        have hj0 : Hid (joinK L 0 = []) := rfl
        have hown0 : wr.ownsRow w1.heap.size 5 1 u3 0 [] := by have := hown; rw [hj0.out] at this; exact this
        clear HX hown hj0
        simp only [Nat.add_zero] at hck
        go_wp2_with (at_builtin; refine Lib.wpList_append_own_string _ rfl _ _ 27 9 rfl w1.heap.size 5 i0 Tryd.underlying27 Tryd.underlying9 hi hz0 hz1 hz2 _ _ _ rfl hown0 x rfl (by unfold maxLen; omega) (by omega) (by omega) ?_; intro v' w3 hown' hgrow _)
        have hb3 : Below w1.heap.size w1 w3 := hbw.grown hgrow hszw (fun j hj => (hown0.lt j hj).1)
        have hown3 : w3.ownsRow w1.heap.size 5 1 v' (joinK L 1).length (bc (joinK L 1)) := by
          rw [HX'.out]; have := hown'; rw [bc_str] at this; simpa using this
        clear hown' hgrow hown0
        go_wp2
        go_roundw
        case rel => exact ⟨1, by omega, rfl, hown3, hb3⟩
        case measure => simp [intOf]; omega
      · have hX' : Hid (joinK L (k + 1) = joinK L k ++ 47 :: x.data.toList) := by show _ = _; rw [HX.out, if_neg h0]
        have h0' : (0 : Int) < (k : Int) := by omega
        clear HX
        generalize hj : joinK L k = J at *
        have HJ := Lib.hid hj
        clear hj
        go_wp2_with (first
          | (at_builtin; refine wpList_append_own _ rfl _ _ 27 rfl w1.heap.size 5 i0 (.int .u8 0) 1 1 Tryd.underlying27 hi hz0 hz1 hz2 rfl (by decide) _ _ _ rfl (hown.alloc _) ⟨wr.heap.size, 0, none⟩ 1 1 [.int .u8 47] rfl rfl (cell_one_new _ _ _) (fun x hx => by simp at hx; subst hx; rfl) (by unfold maxLen; omega) (by omega) (by simp; omega) ?_; intro v2 w2 hown2 hgrow2 _; have hb2 : Below w1.heap.size w1 w2 := (hbw.alloc hszw _).grown hgrow2 (by simp; omega) (fun j hj => (hown.lt j hj).1); have hszw2 := hb2.size; clear hgrow2 hown)
          | (at_builtin; refine Lib.wpList_append_own_string _ rfl _ _ 27 9 rfl w1.heap.size 5 i0 Tryd.underlying27 Tryd.underlying9 hi hz0 hz1 hz2 _ _ _ rfl hown2 x rfl (by unfold maxLen; omega) (by omega) (by omega) ?_; intro v' w3 hown' hgrow _))
        have hb3 : Below w1.heap.size w1 w3 := hb2.grown hgrow hszw2 (fun j hj => (hown2.lt j hj).1)
        have hown3 : w3.ownsRow w1.heap.size 5 1 v' (joinK L (k + 1)).length (bc (joinK L (k + 1))) := by
          rw [hX'.out]
          have := hown'
          rw [bc_str] at this
          have e1 : J.length + 1 + x.size = (J ++ 47 :: x.data.toList).length := by simp; omega
          have e2 : bc J ++ [Value.int .u8 47] ++ bc x.data.toList = bc (J ++ 47 :: x.data.toList) := by simp [bc]
          rw [e1, e2] at this
          exact this
        clear hown' hgrow hown2
        go_wp2
        go_roundw
        case rel => exact ⟨k + 1, by omega, by go_num, hown3, hb3⟩
        case measure => simp [intOf]; omega
    · obtain rfl : k = L.length := by omega
      have hown4 : wr.ownsRow w1.heap.size 5 1 u3 s.data.toList.length (bc s.data.toList) := by have := hown; rw [HJA.out] at this; exact this
      have hcv := convert_row hown4
      rw [ba_of] at hcv
      have hss : (s.toList == s.toList) = true := by simp
      have hTr : Tabs wr := hT.below (hb1.trans (hbw.mono hb1.size))
      clear hown hown4
      go_wp2_with fail
      refine (awake_any _ hTr).mono ?_
      rintro e w8 ⟨rfl, hb8⟩
      go_wp2
      go_ret
      have hb9 := hb1.trans (hbw.mono hb1.size)
      exact ⟨rfl, hb9.trans (hb8.mono hb9.size)⟩
end Go.Proofs.YtfkbnemhkkbjgaaDoor
