/- SHARE: a hub that New did not give. SHARE: what the arguments are: a row of calls, texts. -/
import Derived.Test.YtincmegllckcjaaGreatDoorMShareHNew
import Derived.Test.YtincmegllckcjaaGreatDoorMReadFlat
import Derived.Test.YtincmegllckcjaaGreatDoorSharePr
import Derived.JoinedCond
import Derived.Deep.Slices
import Derived.Carry
namespace Go.Proofs.YtincmegllckcjaaGreatDoor
section
open Go Go.RowKit
attribute [local go_sem ↓] Go.wp_at_zero Go.wp_at_succ

/-- no hub: nil, or one whose trie is nil -/
def NoHub (W : World) (p : Option Addr) : Prop := p = none ∨ ∃ b x y, p = some ⟨b, 0, none⟩ ∧ W.heap[b]? = some (.cells #[.pointer none, x, y] 62 (0, 0))
theorem NoHub.below {W W' : World} {p : Option Addr} (h : NoHub W p) (hb : Below W.heap.size W W') : NoHub W' p := by
  rcases h with h | ⟨b, x, y, h1, h2⟩
  · exact .inl h
  · exact .inr ⟨b, x, y, h1, (hb.block b (Array.getElem?_eq_some_iff.1 h2).1).trans h2⟩
theorem nob_no {W : World} {p : Option Addr} (h : NoHub W p) : Calls Tryz.prog 23 #[.pointer p] W fun e w' => e = .returned (.bool true) ∧ w' = W := by
  obtain ⟨PP, hPP⟩ : ∃ PP : Ending → World → Prop, (fun e w' => e = .returned (.bool true) ∧ w' = W) = PP := ⟨_, rfl⟩
  rw [hPP]
  have HPP := Lib.hid hPP
  clear hPP
  rcases h with rfl | ⟨b, x, y, rfl, hb⟩
  · go_enter Tryz.func23, Tryz.ntmps23
    go_wp2_with fail
    rw [← HPP.out]
    exact ⟨rfl, rfl⟩
  · have c0 : W.cell? ⟨b, 0, none⟩ = some (.pointer none) := by rw [cell_of_row _ _ _ _ _ _ hb]; rfl
    have hl := (Array.getElem?_eq_some_iff.1 hb).1
    clear hb
    go_enter Tryz.func23, Tryz.ntmps23
    go_wp2_with fail
    rw [← HPP.out]
    exact ⟨rfl, rfl⟩
theorem nob_send {W : World} {p : Option Addr} (h : NoHub W p) (s : ByteArray) : Calls Tryz.prog 11 #[.pointer p, .string s] W fun e w' => e = .returned (.slice none 0 0) ∧ w' = W := by
  obtain ⟨PP, hPP⟩ : ∃ PP : Ending → World → Prop, (fun e w' => e = .returned (.slice none 0 0) ∧ w' = W) = PP := ⟨_, rfl⟩
  rw [hPP]
  have HPP := Lib.hid hPP
  have CN := Lib.hid (nob_no h)
  clear hPP h
  go_enter Tryz.func11, Tryz.ntmps11
  go_wp2_with fail
  refine CN.out.mono ?_
  rintro e w1 ⟨rfl, hw⟩
  subst w1
  go_wp2_with fail
  rw [← HPP.out]
  exact ⟨rfl, rfl⟩
set_option maxHeartbeats 1000000 in
theorem nob_join {W : World} {p : Option Addr} (h : NoHub W p) (s : ByteArray) (id : Int) (hT : Tabs W) (hs : s.size ≤ 1048576) : Calls Tryz.prog 10 #[.pointer p, .string s, .int .i64 id] W fun e w' => e = .returned (.bool false) ∧ Below W.heap.size W w' := by
  obtain ⟨PP, hPP⟩ : ∃ PP : Ending → World → Prop, (fun e w' => e = .returned (.bool false) ∧ Below W.heap.size W w') = PP := ⟨_, rfl⟩
  rw [hPP]
  have HPP := Lib.hid hPP
  have HN := Lib.hid h
  have CS : Hid (Calls Tryz.prog 17 #[.string s] W fun e w' => e = .returned (splitV s) ∧ Below W.heap.size W w') := split_any s W hs hT
  clear hPP h hT
  have go : ∀ a b : ByteArray, ∀ c : Bool, splitV s = .tuple #[.string a, .string b, .bool c] → Calls Tryz.prog 10 #[.pointer p, .string s, .int .i64 id] W PP := fun a b c hv => by
    have HV := Lib.hid hv
    clear hv
    go_enter Tryz.func10, Tryz.ntmps10
    go_wp2_with fail
    refine CS.out.mono ?_
    rintro e w1 ⟨rfl, hb1⟩
    rw [HV.out]
    have CN := Lib.hid (nob_no (HN.out.below hb1))
    have HB := Lib.hid hb1
    clear hb1
    go_wp2_with fail
    refine CN.out.mono ?_
    rintro e w2 ⟨rfl, hw⟩
    subst w2
    go_wp2_with fail
    rw [← HPP.out]
    exact ⟨rfl, HB.out⟩
  cases hk : splitK s with
  | none => exact go _ _ _ (split_no hk)
  | some x => obtain ⟨n, f⟩ := x; exact go _ _ _ (split_yes hk)
set_option maxHeartbeats 1000000 in
theorem nob_leave {W : World} {p : Option Addr} (h : NoHub W p) (s : ByteArray) (id : Int) (hT : Tabs W) (hs : s.size ≤ 1048576) : Calls Tryz.prog 20 #[.pointer p, .string s, .int .i64 id] W fun e w' => e = .returned (.bool false) ∧ Below W.heap.size W w' := by
  obtain ⟨PP, hPP⟩ : ∃ PP : Ending → World → Prop, (fun e w' => e = .returned (.bool false) ∧ Below W.heap.size W w') = PP := ⟨_, rfl⟩
  rw [hPP]
  have HPP := Lib.hid hPP
  have HN := Lib.hid h
  have CS : Hid (Calls Tryz.prog 17 #[.string s] W fun e w' => e = .returned (splitV s) ∧ Below W.heap.size W w') := split_any s W hs hT
  clear hPP h hT
  have go : ∀ a b : ByteArray, ∀ c : Bool, splitV s = .tuple #[.string a, .string b, .bool c] → Calls Tryz.prog 20 #[.pointer p, .string s, .int .i64 id] W PP := fun a b c hv => by
    have HV := Lib.hid hv
    clear hv
    go_enter Tryz.func20, Tryz.ntmps20
    go_wp2_with fail
    refine CS.out.mono ?_
    rintro e w1 ⟨rfl, hb1⟩
    rw [HV.out]
    have CN := Lib.hid (nob_no (HN.out.below hb1))
    have HB := Lib.hid hb1
    clear hb1
    go_wp2_with fail
    refine CN.out.mono ?_
    rintro e w2 ⟨rfl, hw⟩
    subst w2
    go_wp2_with fail
    rw [← HPP.out]
    exact ⟨rfl, HB.out⟩
  cases hk : splitK s with
  | none => exact go _ _ _ (split_no hk)
  | some x => obtain ⟨n, f⟩ := x; exact go _ _ _ (split_yes hk)
set_option maxHeartbeats 1000000 in
theorem nob_keep {W : World} {p : Option Addr} (h : NoHub W p) (m : Mg) : Calls Tryz.prog 14 #[.pointer p, .agg #[.int .i64 m.id, .string m.tp, .int .i64 m.kd, .int .i64 m.di, .int .u64 m.db, .string m.ds, .slice m.q m.n m.c, .int .i64 m.at_, .int .i64 m.un, .string m.rp, .int .i64 m.co, .int .i64 m.pr, .int .i64 m.ho]] W fun e w' => e = .returned (.bool false) ∧ Below W.heap.size W w' := by
  obtain ⟨PP, hPP⟩ : ∃ PP : Ending → World → Prop, (fun e w' => e = .returned (.bool false) ∧ Below W.heap.size W w') = PP := ⟨_, rfl⟩
  rw [hPP]
  have HPP := Lib.hid hPP
  obtain ⟨WA, hWA⟩ : ∃ WA, W.alloc (.cells #[.int .i64 m.id, .string m.tp, .int .i64 m.kd, .int .i64 m.di, .int .u64 m.db, .string m.ds, .slice m.q m.n m.c, .int .i64 m.at_, .int .i64 m.un, .string m.rp, .int .i64 m.co, .int .i64 m.pr, .int .i64 m.ho] 36) = WA := ⟨_, rfl⟩
  have hb : Below W.heap.size W WA := by rw [← hWA]; exact (Below.refl _ W).alloc (Nat.le_refl _) _
  have CN := Lib.hid (nob_no (h.below hb))
  have HB := Lib.hid hb
  have HWA := Lib.hid hWA
  clear hPP h hb hWA
  go_enter Tryz.func14, Tryz.ntmps14
  go_wp2_with fail
  rw [HWA.out]
  refine CN.out.mono ?_
  rintro e w1 ⟨rfl, hw⟩
  subst w1
  go_wp2_with fail
  rw [← HPP.out]
  exact ⟨rfl, HB.out⟩
set_option maxHeartbeats 1000000 in
theorem nob_kept {W : World} {p : Option Addr} (h : NoHub W p) (s : ByteArray) (hT : Tabs W) (hs : s.size ≤ 1048576) : Calls Tryz.prog 15 #[.pointer p, .string s] W fun e w' => e = .returned (.slice none 0 0) ∧ Below W.heap.size W w' := by
  obtain ⟨PP, hPP⟩ : ∃ PP : Ending → World → Prop, (fun e w' => e = .returned (.slice none 0 0) ∧ Below W.heap.size W w') = PP := ⟨_, rfl⟩
  rw [hPP]
  have HPP := Lib.hid hPP
  have HN := Lib.hid h
  have CS : Hid (Calls Tryz.prog 17 #[.string s] W fun e w' => e = .returned (splitV s) ∧ Below W.heap.size W w') := split_any s W hs hT
  clear hPP h hT
  have go : ∀ a b : ByteArray, ∀ c : Bool, splitV s = .tuple #[.string a, .string b, .bool c] → Calls Tryz.prog 15 #[.pointer p, .string s] W PP := fun a b c hv => by
    have HV := Lib.hid hv
    clear hv
    go_enter Tryz.func15, Tryz.ntmps15
    go_wp2_with fail
    refine CS.out.mono ?_
    rintro e w1 ⟨rfl, hb1⟩
    rw [HV.out]
    have CN := Lib.hid (nob_no (HN.out.below hb1))
    have HB := Lib.hid hb1
    clear hb1
    go_wp2_with fail
    refine CN.out.mono ?_
    rintro e w2 ⟨rfl, hw⟩
    subst w2
    go_wp2_with fail
    rw [← HPP.out]
    exact ⟨rfl, HB.out⟩
  cases hk : splitK s with
  | none => exact go _ _ _ (split_no hk)
  | some x => obtain ⟨n, f⟩ := x; exact go _ _ _ (split_yes hk)
end
section
open Go Go.ChangeShapes Go.WideShapes Go.ChangeAt Go.RowKit Go.Deep

theorem size_of_bulk {H : Type} {l : List (DataW H)} {s : ByteArray} (hk : Rows.uptoSmall H l = true) (hm : (DataW.lit (.string s.data.toList) : DataW H) ∈ l) : s.size ≤ 1048576 := by
  have hb : Rows.uptoBulkAll l ≤ 1048576 := of_decide_eq_true hk
  have := bulk_part l _ hm
  simp only [Rows.uptoBulk] at this
  have e : s.data.toList.length = s.size := by simp
  omega
mutual
/-- how much a value holds -/
def Dv.wt : Dv → Nat
  | .mk _ _ _ ds l => 1 + ds.size + wts l
def wts : List Dv → Nat
  | [] => 0
  | t :: r => t.wt + wts r
end
theorem DvIs.succ {w : World} : ∀ {k : Nat} {cs : List Value} {t : Dv}, DvIs w k cs t → DvIs w (k + 1) cs t := by
  intro k
  induction k with
  | zero => intro cs t h; exact h.elim
  | succ k ih =>
    intro cs t h
    obtain ⟨kd, di, db, ds, l⟩ := t
    obtain ⟨p, cap, h1, i1, i2, i3, h2, h3, h4⟩ := h
    refine ⟨p, cap, h1, i1, i2, i3, h2, h3, fun hn => ?_⟩
    obtain ⟨b, o, hp, hc⟩ := h4 hn
    refine ⟨b, o, hp, fun j t hj => ?_⟩
    obtain ⟨c0, c1, c2, c3, c4, q0, q1, q2, q3, q4, ht⟩ := hc j t hj
    exact ⟨c0, c1, c2, c3, c4, q0, q1, q2, q3, q4, ih ht⟩
theorem DvIs.cells {w : World} {k : Nat} {cs : List Value} {kd di db : Int} {ds : ByteArray} {ps : List Dv} (h : DvIs w k cs (.mk kd di db ds ps)) : ∃ p n c, cs = [.int .i64 kd, .int .i64 di, .int .u64 db, .string ds, .slice p n c] := by
  cases k with
  | zero => exact h.elim
  | succ k => obtain ⟨p, cap, e, -⟩ := h; exact ⟨p, _, cap, e⟩
theorem choose_list {α : Type} {P : Nat → α → Prop} : ∀ n, (∀ i, i < n → ∃ a, P i a) → ∃ l : List α, l.length = n ∧ ∀ j a, l[j]? = some a → P j a := by
  intro n
  induction n with
  | zero => intro _; exact ⟨[], rfl, fun j a h => by simp at h⟩
  | succ n ih =>
    intro h
    obtain ⟨l, hl, hp⟩ := ih fun i hi => h i (by omega)
    obtain ⟨a, ha⟩ := h n (by omega)
    refine ⟨l ++ [a], by simp [hl], fun j b hj => ?_⟩
    rcases Nat.lt_or_ge j n with hjn | hjn
    · rw [List.getElem?_append_left (by omega)] at hj
      exact hp j b hj
    · rw [List.getElem?_append_right (by omega)] at hj
      have hj0 : j - l.length = 0 := by have := (List.getElem?_eq_some_iff.1 hj).1; simp at this; omega
      rw [hj0] at hj
      simp at hj
      subst hj
      obtain rfl : j = n := by omega
      exact ha
theorem wts_le {H : Type} : ∀ (l : List Dv) (E : List (DataW H)), (∀ (j : Nat) (t : Dv), l[j]? = some t → ∃ d, E[j]? = some d ∧ t.wt ≤ Rows.uptoBulk d) → wts l ≤ Rows.uptoBulkAll E
  | [], _, _ => by simp [wts]
  | t :: r, [], h => by
    obtain ⟨d, hd, -⟩ := h 0 t rfl
    simp at hd
  | t :: r, e :: E, h => by
    obtain ⟨d, hd, h1⟩ := h 0 t rfl
    simp at hd
    subst hd
    have h2 := wts_le r E (fun j t hj => h (j + 1) t hj)
    simp only [wts, Rows.uptoBulkAll]
    omega
theorem co_Datum : Tryz.prog.cellsOf 34 = 5 := by kernel_rfl
theorem co_Msg : Tryz.prog.cellsOf 36 = 13 := by kernel_rfl
section
variable {H : Type} {enc_ : TypeId × Value → H} {w : World} {base : Nat} {spare : Nat → Bool} {held : Bool}
theorem rdw_int {k : IntKind} {t : TypeId} {c : Value} {n : Nat} {y : DataW H × List MemPlace} (ht : Tryz.prog.underlying t = some (.int k)) (h : DataW.trod enc_ Tryz.prog w base spare held n t [c] = some y) : ∃ z, c = .int k z ∧ (Lit.int k z).wf = true := by
  obtain ⟨z, hz, _, hw⟩ := DataW.trod_int ht h
  injection hz with hz
  exact ⟨z, hz, hw⟩
theorem rdw_string {t : TypeId} {c : Value} {n : Nat} {y : DataW H × List MemPlace} (ht : Tryz.prog.underlying t = some .string) (h : DataW.trod enc_ Tryz.prog w base spare held n t [c] = some y) : ∃ s : ByteArray, c = .string s ∧ s.size + 1 ≤ Rows.uptoBulk y.1 := by
  obtain ⟨s, hz, rfl, _⟩ := DataW.trod_string ht h
  injection hz with hz
  refine ⟨s, hz, ?_⟩
  simp [Rows.uptoBulk]
theorem rdw_slice {t e : TypeId} {fuel : Nat} {c : Value} {x : DataW H × List MemPlace} {k : Nat} (ht : Tryz.prog.underlying t = some (.slice e)) (hk : Tryz.prog.cellsOf e = k) (hk0 : 0 < k) (h : DataW.trod enc_ Tryz.prog w base spare held fuel t [c] = some x) :
    ∃ n p len cap, ∃ E : List (DataW H), fuel = n + 1 ∧ c = .slice p len cap ∧ len ≤ cap ∧ cap ≤ 9223372036854775807 ∧ Rows.uptoBulkAll E ≤ Rows.uptoBulk x.1 ∧ len ≤ Rows.uptoBulk x.1 ∧ (0 < len → ∃ b o, p = some ⟨b, o, none⟩ ∧
      ∀ i, i < len → ∃ (cs' : List Value) (y : DataW H × List MemPlace), cs'.length = k ∧ E[i]? = some y.1 ∧ DataW.trod enc_ Tryz.prog w base spare held n e cs' = some y ∧ ∀ j u, cs'[j]? = some u → w.cell? ⟨b, o + i * k + j, none⟩ = some u) := by
  rcases DataW.trod_slice ht h with ⟨h0, rfl⟩ | ⟨a, len, cap, elems, rest, n, hn, hc, rfl, hb, hl, hm, hlen, hel, -, -⟩
  · injection h0 with h0
    cases fuel with
    | zero => simp [DataW.trod] at h
    | succ n => exact ⟨n, none, 0, 0, [], rfl, h0, Nat.le_refl _, by omega, Nat.zero_le _, Nat.zero_le _, fun h => absurd h (Nat.lt_irrefl _)⟩
  · injection hc with hc
    subst hk
    have hE : ∀ i, i < len → ∃ (cs' : List Value) (y : DataW H × List MemPlace), cs'.length = Tryz.prog.cellsOf e ∧ (elems.map (·.1))[i]? = some y.1 ∧ DataW.trod enc_ Tryz.prog w base spare held n e cs' = some y ∧ ∀ j u, cs'[j]? = some u → w.cell? (a.add (i * Tryz.prog.cellsOf e + j)) = some u := fun i hi => by
      have h1 := hel i hi
      rw [List.getElem?_eq_getElem (by omega : i < elems.length)] at h1
      obtain ⟨cs', hc', ht'⟩ := Option.bind_eq_some_iff.1 h1
      obtain ⟨_, hl', hat⟩ := World.cells?_some hc'
      refine ⟨cs', elems[i]'(by omega), hl', by rw [List.getElem?_map, List.getElem?_eq_getElem (by omega : i < elems.length)]; rfl, ht', fun j u hj => ?_⟩
      have hjk : j < Tryz.prog.cellsOf e := by rw [← hl']; exact (List.getElem?_eq_some_iff.1 hj).1
      rw [← hj, ← hat j hjk, add_add]
    have hbl := bulk_len (elems.map (·.1))
    simp only [List.length_map] at hbl
    refine ⟨n, some a, len, cap, elems.map (·.1), hn, hc, hl, by unfold maxLen at hm; omega, by simp only [Rows.uptoBulk]; omega, by simp only [Rows.uptoBulk]; omega, fun hpos => ?_⟩
    obtain ⟨cs0, y0, hl0, _, _, hc0⟩ := hE 0 hpos
    obtain ⟨u, hu⟩ : ∃ u, cs0[0]? = some u := ⟨_, List.getElem?_eq_getElem (by omega)⟩
    have h0 := hc0 0 u hu
    have e0 : a.add (0 * Tryz.prog.cellsOf e + 0) = a := by rw [Nat.zero_mul]; exact if_pos rfl
    rw [e0] at h0
    obtain ⟨b, o, rfl⟩ := rd_plain h0
    refine ⟨b, o, rfl, fun i hi => ?_⟩
    obtain ⟨cs', y, h1, h2, h3, h4⟩ := hE i hi
    refine ⟨cs', y, h1, h2, h3, fun j u hj => ?_⟩
    have := h4 j u hj
    rw [rd_add] at this
    rw [Nat.add_assoc]; exact this
theorem wf_i64 {z : Int} (h : (Lit.int .i64 z).wf = true) : I64 z := by
  simp only [Lit.wf, Bool.and_eq_true, decide_eq_true_eq] at h
  exact h
theorem wf_u64 {z : Int} (h : (Lit.int .u64 z).wf = true) : 0 ≤ z ∧ z < 18446744073709551616 := by
  simp only [Lit.wf, Bool.and_eq_true, decide_eq_true_eq] at h
  have h1 : 0 ≤ z := h.1
  have h2 : z ≤ 18446744073709551615 := h.2
  omega
set_option maxRecDepth 100000 in
theorem read_dv : ∀ (fuel : Nat) (cs : List Value) (x : DataW H × List MemPlace), DataW.trod enc_ Tryz.prog w base spare held fuel 34 cs = some x → ∃ t, DvIs w fuel cs t ∧ t.wt ≤ Rows.uptoBulk x.1 := by
  intro fuel
  induction fuel using Nat.strongRecOn with
  | ind fuel ih =>
  intro cs x h
  obtain ⟨xs, m, hm, rfl, hlen, hx, hf⟩ := DataW.trod_struct Tryz.underlying34 h
  rw [co_Datum] at hlen
  match xs, hx with
  | [y0, y1, y2, y3, y4], _ =>
  match cs, hlen with
  | [c0, c1, c2, c3, c4], _ =>
    have q0 : DataW.trod enc_ Tryz.prog w base spare held m 3 [c0] = some y0 := by have h := hf 0 _ rfl; rw [show Tryz.prog.cellsOf _ = 1 from by kernel_rfl] at h; exact h
    have q1 : DataW.trod enc_ Tryz.prog w base spare held m 2 [c1] = some y1 := by have h := hf 1 _ rfl; rw [show Tryz.prog.cellsOf _ = 1 from by kernel_rfl] at h; exact h
    have q2 : DataW.trod enc_ Tryz.prog w base spare held m 22 [c2] = some y2 := by have h := hf 2 _ rfl; rw [show Tryz.prog.cellsOf _ = 1 from by kernel_rfl] at h; exact h
    have q3 : DataW.trod enc_ Tryz.prog w base spare held m 9 [c3] = some y3 := by have h := hf 3 _ rfl; rw [show Tryz.prog.cellsOf _ = 1 from by kernel_rfl] at h; exact h
    have q4 : DataW.trod enc_ Tryz.prog w base spare held m 32 [c4] = some y4 := by have h := hf 4 _ rfl; rw [show Tryz.prog.cellsOf _ = 1 from by kernel_rfl] at h; exact h
    obtain ⟨z0, rfl, f0⟩ := rdw_int Tryz.underlying3 q0
    obtain ⟨z1, rfl, f1⟩ := rdw_int Tryz.underlying2 q1
    obtain ⟨z2, rfl, f2⟩ := rdw_int Tryz.underlying22 q2
    obtain ⟨s, rfl, hs⟩ := rdw_string Tryz.underlying9 q3
    obtain ⟨n, p, len, cap, E, hn, rfl, hl, hc, hbE, -, hel⟩ := rdw_slice Tryz.underlying32 co_Datum (by decide) q4
    subst hn
    subst hm
    have hE : ∀ i, i < len → ∃ t : Dv, ∃ b o, p = some ⟨b, o, none⟩ ∧ (∃ d, E[i]? = some d ∧ t.wt ≤ Rows.uptoBulk d) ∧ ∃ c0 c1 c2 c3 c4, w.cell? ⟨b, o + i * 5, none⟩ = some c0 ∧ w.cell? ⟨b, o + i * 5 + 1, none⟩ = some c1 ∧ w.cell? ⟨b, o + i * 5 + 2, none⟩ = some c2 ∧ w.cell? ⟨b, o + i * 5 + 3, none⟩ = some c3 ∧ w.cell? ⟨b, o + i * 5 + 4, none⟩ = some c4 ∧ DvIs w n [c0, c1, c2, c3, c4] t := fun i hi => by
      obtain ⟨b, o, rfl, hel2⟩ := hel (by omega)
      obtain ⟨cs', y, hl', he, ht, hat⟩ := hel2 i hi
      match cs', hl' with
      | [c0, c1, c2, c3, c4], _ =>
        obtain ⟨t, ht', hw⟩ := ih n (by omega) _ _ ht
        exact ⟨t, b, o, rfl, ⟨_, he, hw⟩, c0, c1, c2, c3, c4, hat 0 _ rfl, hat 1 _ rfl, hat 2 _ rfl, hat 3 _ rfl, hat 4 _ rfl, ht'⟩
    obtain ⟨l, hll, hp⟩ := choose_list len hE
    subst hll
    refine ⟨.mk z0 z1 z2 s l, ⟨p, cap, rfl, wf_i64 f0, wf_i64 f1, wf_u64 f2, hl, hc, fun hpos => ?_⟩, ?_⟩
    · obtain ⟨b, o, rfl, -⟩ := hel hpos
      refine ⟨b, o, rfl, fun j t hj => ?_⟩
      obtain ⟨b', o', e, -, c0, c1, c2, c3, c4, g0, g1, g2, g3, g4, ht⟩ := hp j t hj
      injection e with e
      injection e with e1 e2
      subst e1; subst e2
      exact ⟨c0, c1, c2, c3, c4, g0, g1, g2, g3, g4, ht.succ⟩
    · have h1 := wts_le l E (fun j t hj => by obtain ⟨_, _, _, h2, _⟩ := hp j t hj; exact h2)
      simp only [Rows.uptoBulk, Rows.uptoBulkAll, List.map_cons, List.map_nil]
      show 1 + s.size + wts l ≤ _
      omega
set_option maxRecDepth 100000 in
theorem read_mv : ∀ (fuel : Nat) (cs : List Value) (x : DataW H × List MemPlace), DataW.trod enc_ Tryz.prog w base spare held fuel 36 cs = some x →
    ∃ (k : Nat) (id at_ un co pr hp : Int) (tp rp : ByteArray) (kd di db : Int) (ds : ByteArray) (q : Option Addr) (m c : Nat) (ps : List Dv), cs = [.int .i64 id, .string tp, .int .i64 kd, .int .i64 di, .int .u64 db, .string ds, .slice q m c, .int .i64 at_, .int .i64 un, .string rp, .int .i64 co, .int .i64 pr, .int .i64 hp] ∧
      DvIs w k [.int .i64 kd, .int .i64 di, .int .u64 db, .string ds, .slice q m c] (.mk kd di db ds ps) ∧ (Dv.mk kd di db ds ps).wt + tp.size + rp.size ≤ Rows.uptoBulk x.1 ∧ (∀ z ∈ [id, at_, un, co, pr, hp], I64 z) := by
  intro fuel cs x h
  obtain ⟨xs, m, hm, rfl, hlen, hx, hf⟩ := DataW.trod_struct Tryz.underlying36 h
  rw [co_Msg] at hlen
  match xs, hx with
  | [y0, y1, y2, y3, y4, y5, y6, y7, y8], _ =>
  match cs, hlen with
  | [c0, c1, c2, c3, c4, c5, c6, c7, c8, c9, c10, c11, c12], _ =>
    have q0 : DataW.trod enc_ Tryz.prog w base spare held m 2 [c0] = some y0 := by have h := hf 0 _ rfl; rw [show Tryz.prog.cellsOf _ = 1 from by kernel_rfl] at h; exact h
    have q1 : DataW.trod enc_ Tryz.prog w base spare held m 9 [c1] = some y1 := by have h := hf 1 _ rfl; rw [show Tryz.prog.cellsOf _ = 1 from by kernel_rfl] at h; exact h
    have q2 : DataW.trod enc_ Tryz.prog w base spare held m 34 [c2, c3, c4, c5, c6] = some y2 := by have h := hf 2 _ rfl; rw [show Tryz.prog.cellsOf _ = 5 from by kernel_rfl] at h; exact h
    have q3 : DataW.trod enc_ Tryz.prog w base spare held m 2 [c7] = some y3 := by have h := hf 3 _ rfl; rw [show Tryz.prog.cellsOf _ = 1 from by kernel_rfl] at h; exact h
    have q4 : DataW.trod enc_ Tryz.prog w base spare held m 2 [c8] = some y4 := by have h := hf 4 _ rfl; rw [show Tryz.prog.cellsOf _ = 1 from by kernel_rfl] at h; exact h
    have q5 : DataW.trod enc_ Tryz.prog w base spare held m 9 [c9] = some y5 := by have h := hf 5 _ rfl; rw [show Tryz.prog.cellsOf _ = 1 from by kernel_rfl] at h; exact h
    have q6 : DataW.trod enc_ Tryz.prog w base spare held m 2 [c10] = some y6 := by have h := hf 6 _ rfl; rw [show Tryz.prog.cellsOf _ = 1 from by kernel_rfl] at h; exact h
    have q7 : DataW.trod enc_ Tryz.prog w base spare held m 3 [c11] = some y7 := by have h := hf 7 _ rfl; rw [show Tryz.prog.cellsOf _ = 1 from by kernel_rfl] at h; exact h
    have q8 : DataW.trod enc_ Tryz.prog w base spare held m 3 [c12] = some y8 := by have h := hf 8 _ rfl; rw [show Tryz.prog.cellsOf _ = 1 from by kernel_rfl] at h; exact h
    obtain ⟨z0, rfl, f0⟩ := rdw_int Tryz.underlying2 q0
    obtain ⟨s1, rfl, g1⟩ := rdw_string Tryz.underlying9 q1
    obtain ⟨t, ht, g2⟩ := read_dv _ _ _ q2
    obtain ⟨z3, rfl, f3⟩ := rdw_int Tryz.underlying2 q3
    obtain ⟨z4, rfl, f4⟩ := rdw_int Tryz.underlying2 q4
    obtain ⟨s5, rfl, g5⟩ := rdw_string Tryz.underlying9 q5
    obtain ⟨z6, rfl, f6⟩ := rdw_int Tryz.underlying2 q6
    obtain ⟨z7, rfl, f7⟩ := rdw_int Tryz.underlying3 q7
    obtain ⟨z8, rfl, f8⟩ := rdw_int Tryz.underlying3 q8
    obtain ⟨kd, di, db, ds, ps⟩ := t
    obtain ⟨p, n, c, e⟩ := ht.cells
    injection e with e2 e
    injection e with e3 e
    injection e with e4 e
    injection e with e5 e
    injection e with e6
    subst e2; subst e3; subst e4; subst e5; subst e6
    refine ⟨m, z0, z3, z4, z6, z7, z8, s1, s5, kd, di, db, ds, p, n, c, ps, rfl, ht, ?_, ?_⟩
    · simp only [Rows.uptoBulk, Rows.uptoBulkAll, List.map_cons, List.map_nil]
      omega
    · intro z hz
      simp only [List.mem_cons, List.not_mem_nil, or_false] at hz
      rcases hz with rfl | rfl | rfl | rfl | rfl | rfl
      · exact wf_i64 f0
      · exact wf_i64 f3
      · exact wf_i64 f4
      · exact wf_i64 f6
      · exact wf_i64 f7
      · exact wf_i64 f8
theorem co_Act : Tryz.prog.cellsOf 53 = 16 := by kernel_rfl
theorem co_text : Tryz.prog.cellsOf 9 = 1 := by kernel_rfl
/-- a message of the arguments -/
structure MgOk (w : World) (m : Mg) : Prop where
  dv : DvIs w m.f m.body m.t
  wt : m.t.wt + m.tp.size + m.rp.size ≤ 1048576
  ok : ∀ z ∈ [m.id, m.at_, m.un, m.co, m.pr, m.ho], I64 z
set_option maxRecDepth 100000 in
theorem read_act30 : ∀ (fuel : Nat) (cs : List Value) (x : DataW H × List MemPlace), DataW.trod enc_ Tryz.prog w base spare held fuel 53 cs = some x → Rows.uptoBulk x.1 ≤ 1048576 → ∃ a : SA, cs = a.cells ∧ (Lit.int .i64 a.id).wf = true ∧ a.s.size + 1 ≤ Rows.uptoBulk x.1 ∧ MgOk w a.m := by
  intro fuel cs x h hbk
  obtain ⟨xs, m, hm, rfl, hlen, hx, hf⟩ := DataW.trod_struct Tryz.underlying53 h
  rw [co_Act] at hlen
  match xs, hx with
  | [y0, y1, y2, y3], _ =>
  match cs, hlen with
  | [c0, c1, c2, d0, d1, d2, d3, d4, d5, d6, d7, d8, d9, d10, d11, d12], _ =>
    have q0 : DataW.trod enc_ Tryz.prog w base spare held m 3 [c0] = some y0 := by have h := hf 0 _ rfl; rw [show Tryz.prog.cellsOf _ = 1 from by kernel_rfl] at h; exact h
    have q1 : DataW.trod enc_ Tryz.prog w base spare held m 9 [c1] = some y1 := by have h := hf 1 _ rfl; rw [show Tryz.prog.cellsOf _ = 1 from by kernel_rfl] at h; exact h
    have q2 : DataW.trod enc_ Tryz.prog w base spare held m 3 [c2] = some y2 := by have h := hf 2 _ rfl; rw [show Tryz.prog.cellsOf _ = 1 from by kernel_rfl] at h; exact h
    have q3 : DataW.trod enc_ Tryz.prog w base spare held m 36 [d0, d1, d2, d3, d4, d5, d6, d7, d8, d9, d10, d11, d12] = some y3 := by have h := hf 3 _ rfl; rw [show Tryz.prog.cellsOf _ = 13 from by kernel_rfl] at h; exact h
    obtain ⟨k, rfl, -⟩ := rdw_int Tryz.underlying3 q0
    obtain ⟨s, rfl, hs⟩ := rdw_string Tryz.underlying9 q1
    obtain ⟨id, rfl, hid⟩ := rdw_int Tryz.underlying3 q2
    obtain ⟨kk, mid, at_, un, co, pr, hp, tp, rp, kd, di, db, ds, q, n, c, ps, e, hdv, hwt, hok⟩ := read_mv _ _ _ q3
    simp only [Rows.uptoBulk, Rows.uptoBulkAll, List.map_cons, List.map_nil] at hbk ⊢
    refine ⟨⟨k, s, id, ⟨mid, tp, kd, di, db, ds, q, n, c, at_, un, rp, co, pr, hp, .mk kd di db ds ps, kk⟩⟩, ?_, hid, ?_, hdv, ?_, hok⟩
    · show Value.int .i64 k :: Value.string s :: Value.int .i64 id :: [d0, d1, d2, d3, d4, d5, d6, d7, d8, d9, d10, d11, d12] = _
      rw [e]
      rfl
    · show s.size + 1 ≤ _
      omega
    · show (Dv.mk kd di db ds ps).wt + tp.size + rp.size ≤ _
      omega
/-- .. with what the messages are -/
def ScriptM (w : World) (v : Value) (L : List SA) : Prop := Script30 w v L ∧ ∀ a ∈ L, MgOk w a.m
theorem read_script30 {fuel : Nat} {c : Value} {x : DataW H × List MemPlace} (h : DataW.trod enc_ Tryz.prog w base spare held fuel 43 [c] = some x) (hb : Rows.uptoBulk x.1 ≤ 1048576) : ∃ L : List SA, ScriptM w c L := by
  obtain ⟨n, ys, -, hfl, hel, hsum⟩ := rd_flat Tryz.underlying43 co_Act (by decide) h
  have key : ∀ ys : List (List Value × (DataW H × List MemPlace)), Rows.uptoBulkAll (ys.map (·.2.1)) ≤ 1048576 → (∀ y ∈ ys, y.1.length = 16 ∧ DataW.trod enc_ Tryz.prog w base spare held n 53 y.1 = some y.2) →
      ∃ L : List SA, L.length = ys.length ∧ (ys.map (·.1)).flatten = L.flatMap SA.cells ∧ (L.map fun a => a.s.size).sum ≤ Rows.uptoBulkAll (ys.map (·.2.1)) ∧ ∀ a ∈ L, (Lit.int .i64 a.id).wf = true ∧ MgOk w a.m ∧ a.s.size ≤ 1048576 := by
    intro ys
    induction ys with
    | nil => intro _ _; exact ⟨[], rfl, rfl, Nat.le_refl _, fun a ha => (List.not_mem_nil ha).elim⟩
    | cons y ys ih =>
      intro hbk hy
      simp only [List.map_cons, Rows.uptoBulkAll] at hbk
      obtain ⟨L, h1, h2, h3, h4⟩ := ih (by omega) fun z hz => hy z (List.mem_cons_of_mem _ hz)
      obtain ⟨-, ht⟩ := hy y (List.mem_cons_self ..)
      obtain ⟨a, e, hz, hs, hm⟩ := read_act30 _ _ _ ht (by omega)
      refine ⟨a :: L, by simp [h1], ?_, ?_, fun b hb => ?_⟩
      · rw [List.map_cons, List.flatten_cons, h2, e]; rfl
      · simp only [List.map_cons, List.sum_cons, Rows.uptoBulkAll]
        omega
      · rcases List.mem_cons.1 hb with rfl | hb
        · exact ⟨hz, hm, by omega⟩
        · exact h4 b hb
  obtain ⟨L, h1, h2, h3, h4⟩ := key ys (by omega) hel
  have hl := bulk_len (ys.map (·.2.1))
  rw [List.length_map] at hl
  rw [← h1, h2] at hfl
  exact ⟨L, ⟨hfl, by omega, by omega, fun a ha => ⟨(h4 a ha).2.2, (h4 a ha).1⟩⟩, fun a ha => (h4 a ha).2.1⟩
theorem read_names {fuel : Nat} {c : Value} {x : DataW H × List MemPlace} (h : DataW.trod enc_ Tryz.prog w base spare held fuel 55 [c] = some x) (hb : Rows.uptoBulk x.1 ≤ 1048576) : ∃ ns : List ByteArray, Sl w c ns ∧ ns.length ≤ 1048576 ∧ ∀ x ∈ ns, x.size ≤ 1048576 := by
  obtain ⟨n, ys, -, hfl, hel, hsum⟩ := rd_flat Tryz.underlying55 co_text (by decide) h
  have key : ∀ ys : List (List Value × (DataW H × List MemPlace)), (∀ y ∈ ys, y.1.length = 1 ∧ DataW.trod enc_ Tryz.prog w base spare held n 9 y.1 = some y.2) →
      ∃ L : List ByteArray, L.length = ys.length ∧ (ys.map (·.1)).flatten = L.map Value.string ∧ ∀ a ∈ L, a.size ≤ Rows.uptoBulkAll (ys.map (·.2.1)) := by
    intro ys
    induction ys with
    | nil => intro _; exact ⟨[], rfl, rfl, fun a ha => (List.not_mem_nil ha).elim⟩
    | cons y ys ih =>
      intro hy
      obtain ⟨L, h1, h2, h3⟩ := ih fun z hz => hy z (List.mem_cons_of_mem _ hz)
      obtain ⟨hl, ht⟩ := hy y (List.mem_cons_self ..)
      obtain ⟨c0, e⟩ : ∃ c0, y.1 = [c0] := List.length_eq_one_iff.1 hl
      rw [e] at ht
      obtain ⟨f, rfl, hs⟩ := rd_string' Tryz.underlying9 ht
      refine ⟨f :: L, by simp [h1], ?_, fun a ha => ?_⟩
      · rw [List.map_cons, List.flatten_cons, h2, e]; rfl
      · simp only [List.map_cons, Rows.uptoBulkAll]
        rcases List.mem_cons.1 ha with rfl | ha
        · omega
        · have := h3 a ha; omega
  obtain ⟨L, h1, h2, h3⟩ := key ys hel
  have hl := bulk_len (ys.map (·.2.1))
  rw [List.length_map] at hl
  rw [h2] at hfl
  exact ⟨L, Sl_of hfl h1.symm, by omega, fun a ha => by have := h3 a ha; omega⟩
end
end
end Go.Proofs.YtincmegllckcjaaGreatDoor
