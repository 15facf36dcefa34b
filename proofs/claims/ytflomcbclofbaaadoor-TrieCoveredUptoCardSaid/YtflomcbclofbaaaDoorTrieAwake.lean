/- TRIE: awake. -/
import Derived.Test.YtflomcbclofbaaaDoorTrieAgr
namespace Go.Proofs.YtflomcbclofbaaaDoor
open Go Go.RowKit
attribute [local go_sem ↓] Go.wp_at_zero Go.wp_at_succ

/-- the trie under way: what lay before w0 has not turned -/
structure St (w0 W : World) (sz t : Nat) (T : List Nd) (l : Subs) : Prop where
  of_ : TOf W w0.heap.size sz t T l
  bel : Below w0.heap.size w0 W
theorem St.tabs {w0 W : World} {sz t : Nat} {T : List Nd} {l : Subs} (h : St w0 W sz t T l) (hT : Tabs w0) : Tabs W := hT.below h.bel
theorem St.below {w0 W W' : World} {sz t : Nat} {T : List Nd} {l : Subs} (h : St w0 W sz t T l) (hb : Below W.heap.size W W') : St w0 W' sz t T l := ⟨h.of_.below hb, h.bel.trans (hb.mono h.bel.size)⟩
theorem below_frame {w0 A W : World} {F : Nat → Prop} (hA : Below w0.heap.size w0 A) (hf : Frame F A W) (hF : ∀ b, F b → w0.heap.size ≤ b) : Below w0.heap.size w0 W :=
  ⟨hf.os.trans hA.os, hf.tape.trans hA.tape, hf.output.trans hA.output, Nat.le_trans hA.size hf.size, fun b hb => (hf.block b (Nat.lt_of_lt_of_le hb hA.size) (fun h => by have := hF b h; omega)).trans (hA.block b hb)⟩
theorem St.frame {w0 W W' : World} {sz sz' t : Nat} {T T' : List Nd} {l l' : Subs} (h : St w0 W sz t T l) (hf : Frame (fun b => b = t ∨ foot T b) W W') (ho : TOf W' w0.heap.size sz' t T' l') : St w0 W' sz' t T' l' :=
  ⟨ho, below_frame h.bel hf fun b hb => by
    rcases hb with rfl | hb
    · exact h.of_.tri.bt
    · exact (h.of_.tri.is.lt hb).1⟩
theorem st_new (w : World) : Calls Tryd.prog 16 #[] w fun e w' => ∃ t T, e = .returned (.pointer (some ⟨t, 0, none⟩)) ∧ St w w' 0 t T [] := by
  refine (tof_new w).mono ?_
  rintro e w' ⟨t, T, rfl, h1, -, h3⟩
  exact ⟨t, T, rfl, h1, h3⟩
theorem st_add {w0 W : World} {sz t : Nat} {T : List Nd} {l : Subs} (h : St w0 W sz t T l) (hT : Tabs w0) (f : ByteArray) (z : Int) (hf : f.size ≤ 1048576) (hsz : sz ≤ 50000000) (hl : l.length ≤ 100000000) :
    Calls Tryd.prog 6 #[.pointer (some ⟨t, 0, none⟩), .string f, .int .i64 z] W fun e w' => ∃ (ok : Bool) (T' : List Nd), e = .returned (.bool ok) ∧ (ok = true ↔ filterB f = true ∧ (f, z) ∉ l) ∧ St w0 w' (sz + f.size + 2) t T' (addS l f z) := by
  refine (tof_add f z h.of_ hf (h.tabs hT) hsz hl).mono ?_
  rintro e w' ⟨ok, T', rfl, h1, h2, h3, -⟩
  exact ⟨ok, T', rfl, h1, h.frame h3 h2⟩
theorem st_remove {w0 W : World} {sz t : Nat} {T : List Nd} {l : Subs} (h : St w0 W sz t T l) (hT : Tabs w0) (f : ByteArray) (z : Int) (hf : f.size ≤ 1048576) (hsz : sz ≤ 100000000) (hl : l.length ≤ 100000000) :
    Calls Tryd.prog 11 #[.pointer (some ⟨t, 0, none⟩), .string f, .int .i64 z] W fun e w' => ∃ (ok : Bool) (T' : List Nd), e = .returned (.bool ok) ∧ (ok = true ↔ (f, z) ∈ l) ∧ St w0 w' sz t T' (subS l f z) := by
  refine (tof_remove f z h.of_ hf (h.tabs hT) hsz hl).mono ?_
  rintro e w' ⟨ok, T', rfl, h1, h2, h3, -⟩
  exact ⟨ok, T', rfl, h1, h.frame h3 h2⟩
theorem st_match {w0 W : World} {sz t : Nat} {T : List Nd} {l : Subs} (h : St w0 W sz t T l) (hT : Tabs w0) (s : ByteArray) (hs : s.size ≤ 1048576) (hsz : sz ≤ 100000000) (hwf : ∀ x ∈ l, (Lit.int .i64 x.2).wf = true) (hl : l.length ≤ 100000000) :
    Calls Tryd.prog 7 #[.pointer (some ⟨t, 0, none⟩), .string s] W fun e w' => ∃ v ids, e = .returned v ∧ IRow w' W.heap.size v ids ∧ ids.Pairwise (· < ·) ∧ (∀ z, z ∈ ids ↔ ∃ f, (f, z) ∈ l ∧ matchB f s = true) ∧ Below W.heap.size W w' := by
  refine (tof_match s h.of_ hs (h.tabs hT) hsz hwf hl).mono ?_
  rintro e w' ⟨v, ids, rfl, h1, h2, h3, h4⟩
  exact ⟨v, ids, rfl, h1, h2, fun z => (h3 z).trans (heard_match h.of_.ok s z), h4⟩
theorem addS_pos {l : Subs} {f : ByteArray} {z : Int} (h : filterB f = true) (k : (f, z) ∉ l) : addS l f z = l ++ [(f, z)] := by unfold addS; rw [if_pos ⟨h, k⟩]
theorem addS_neg {l : Subs} {f : ByteArray} {z : Int} (h : filterB f = false) : addS l f z = l := by unfold addS; rw [if_neg (fun e => by rw [h] at e; cases e.1)]
def fA : ByteArray := ⟨#[97, 47, 43]⟩
def fB : ByteArray := ⟨#[97, 47, 35]⟩
def fC : ByteArray := ⟨#[97, 47, 98]⟩
def fD : ByteArray := ⟨#[43]⟩
def fE : ByteArray := ⟨#[97, 43]⟩
def nA : ByteArray := ⟨#[97]⟩
theorem filt_A : filterB fA = true := by decide +kernel
theorem filt_B : filterB fB = true := by decide +kernel
theorem filt_C : filterB fC = true := by decide +kernel
theorem filt_D : filterB fD = true := by decide +kernel
theorem filt_E : filterB fE = false := by decide +kernel
theorem ne_bytes {s t : ByteArray} (h : s.data.toList ≠ t.data.toList) : s ≠ t := fun e => h (by rw [e])
theorem nin_C : (fC, (1 : Int)) ∉ ([(fA, 1), (fB, 2)] : Subs) := by
  intro h
  rcases List.mem_cons.1 h with h | h
  · injection h with h; exact absurd h (ne_bytes (by decide))
  · rw [List.mem_singleton] at h
    injection h with h; exact absurd h (ne_bytes (by decide))
theorem nin_D : (fD, (3 : Int)) ∉ ([(fA, 1), (fB, 2), (fC, 1)] : Subs) := by
  intro h
  rcases List.mem_cons.1 h with h | h
  · injection h with h; exact absurd h (ne_bytes (by decide))
  rcases List.mem_cons.1 h with h | h
  · injection h with h; exact absurd h (ne_bytes (by decide))
  · rw [List.mem_singleton] at h
    injection h with h; exact absurd h (ne_bytes (by decide))
def four : Subs := [(fA, 1), (fB, 2), (fC, 1), (fD, 3)]
theorem heard4 (s : ByteArray) (z : Int) : (∃ f, (f, z) ∈ four ∧ matchB f s = true) ↔ (z = 1 ∧ matchB fA s = true) ∨ (z = 2 ∧ matchB fB s = true) ∨ (z = 1 ∧ matchB fC s = true) ∨ (z = 3 ∧ matchB fD s = true) := by
  unfold four
  constructor
  · rintro ⟨f, hf, hm⟩
    rcases List.mem_cons.1 hf with h | hf
    · injection h with h1 h2; subst h1; exact .inl ⟨h2, hm⟩
    rcases List.mem_cons.1 hf with h | hf
    · injection h with h1 h2; subst h1; exact .inr (.inl ⟨h2, hm⟩)
    rcases List.mem_cons.1 hf with h | hf
    · injection h with h1 h2; subst h1; exact .inr (.inr (.inl ⟨h2, hm⟩))
    · rw [List.mem_singleton] at hf
      injection hf with h1 h2; subst h1; exact .inr (.inr (.inr ⟨h2, hm⟩))
  · rintro (⟨h, hm⟩ | ⟨h, hm⟩ | ⟨h, hm⟩ | ⟨h, hm⟩)
    · exact ⟨fA, by rw [h]; simp, hm⟩
    · exact ⟨fB, by rw [h]; simp, hm⟩
    · exact ⟨fC, by rw [h]; simp, hm⟩
    · exact ⟨fD, by rw [h]; simp, hm⟩
theorem m_C {ids : List Int} (h : ids.Pairwise (· < ·)) (k : ∀ z, z ∈ ids ↔ ∃ f, (f, z) ∈ four ∧ matchB f fC = true) : ids = [1, 2] := by
  refine sorted_ext ord_int h (by decide) fun z => ?_
  rw [k, heard4, show matchB fA fC = true by decide +kernel, show matchB fB fC = true by decide +kernel, show matchB fC fC = true by decide +kernel, show matchB fD fC = false by decide +kernel]
  simp
  omega
theorem m_A {ids : List Int} (h : ids.Pairwise (· < ·)) (k : ∀ z, z ∈ ids ↔ ∃ f, (f, z) ∈ four ∧ matchB f nA = true) : ids = [2, 3] := by
  refine sorted_ext ord_int h (by decide) fun z => ?_
  rw [k, heard4, show matchB fA nA = false by decide +kernel, show matchB fB nA = true by decide +kernel, show matchB fC nA = false by decide +kernel, show matchB fD nA = true by decide +kernel]
  simp
theorem wf4 : ∀ x ∈ four, (Lit.int .i64 x.2).wf = true := by
  unfold four
  intro x hx
  simp only [List.mem_cons, List.not_mem_nil, or_false] at hx
  rcases hx with rfl | rfl | rfl | rfl <;> decide
theorem is_new2 (w : World) (a b : Int) : IS (w.alloc (.cells #[.int .i64 a, .int .i64 b] 3)) (.slice (some ⟨w.heap.size, 0, none⟩) 2 2) [a, b] := by
  refine ⟨_, 2, rfl, Nat.le_refl _, by omega, .inr ⟨w.heap.size, 0, rfl, fun j x hj => ?_⟩⟩
  rw [cell_of_row _ _ _ _ _ _ (heap_alloc_new w (.cells #[.int .i64 a, .int .i64 b] 3))]
  match j, hj with
  | 0, hj => injection hj with hj; subst hj; rfl
  | 1, hj => injection hj with hj; subst hj; rfl
  | j + 2, hj => simp at hj
def la : ByteArray := ⟨#[97]⟩
def lb : ByteArray := ⟨#[98]⟩
def five : List (List ByteArray) := [[la], [la, plusS], [la, hashS], [la, lb], [plusS]]
theorem begs4 : begs four = [[la], [la, plusS], [la], [la, hashS], [la], [la, lb], [plusS]] := by kernel_rfl
theorem five_nodup : five.Nodup := by
  have h : (five.map fun p => p.map fun s => s.data.toList).Nodup := by decide +kernel
  exact (List.pairwise_map.1 h).imp fun h e => h (by rw [e])
theorem five_len {B : List (List ByteArray)} (h : B.Nodup) (k : ∀ p, p ∈ B ↔ p ∈ begs four) : B.length = 5 := by
  have e : ∀ p, p ∈ B ↔ p ∈ five := fun p => by
    rw [k, begs4]
    unfold five
    simp only [List.mem_cons, List.not_mem_nil, or_false]
    constructor
    · rintro (h | h | h | h | h | h | h) <;> simp [h]
    · rintro (h | h | h | h | h) <;> simp [h]
  have h1 := nodup_le h fun p hp => (e p).1 hp
  have h2 := nodup_le five_nodup fun p hp => (e p).2 hp
  have : five.length = 5 := rfl
  omega
set_option maxHeartbeats 2000000 in
theorem awake_any (w : World) (hT : Tabs w) : Calls Tryd.prog 9 #[] w fun e w' => e = .returned (.bool true) ∧ Below w.heap.size w w' := by
  obtain ⟨PP, hPP⟩ : ∃ PP : Ending → World → Prop, (fun e w' => e = .returned (.bool true) ∧ Below w.heap.size w w') = PP := ⟨_, rfl⟩
  rw [hPP]
  have HPP := Lib.hid hPP
  clear hPP
  go_enter Tryd.func9, Tryd.ntmps9
  go_wp2_with (go_at_call 16; refine (st_new w).mono ?_; rintro e w1 ⟨t, T, rfl, h1⟩)
  have HT := Lib.hid hT
  have HO1 := Lib.hid h1
  clear h1 hT
  go_wp2_with fail
  refine (st_add HO1.out HT.out fA 1 (by decide) (by omega) (by simp)).mono ?_
  rintro e w2 ⟨ok2, T2, rfl, hok2, ho2⟩
  rw [addS_pos filt_A (by simp), List.nil_append] at ho2
  have HO2 := Lib.hid ho2
  clear ho2 hok2
  go_wp2_with fail
  refine (st_add HO2.out HT.out fB 2 (by decide) (by decide) (by simp)).mono ?_
  rintro e w3 ⟨ok3, T3, rfl, hok3, ho3⟩
  rw [addS_pos filt_B (by simp)] at ho3
  have ho3' : St w w3 _ t T3 [(fA, 1), (fB, 2)] := ho3
  have HO3 := Lib.hid ho3'
  clear ho3 ho3' hok3
  go_wp2_with fail
  refine (st_add HO3.out HT.out fC 1 (by decide) (by decide) (by simp)).mono ?_
  rintro e w4 ⟨ok4, T4, rfl, hok4, ho4⟩
  have hk4 : ok4 = true := hok4.2 ⟨filt_C, nin_C⟩
  subst hk4
  rw [addS_pos filt_C nin_C] at ho4
  have ho4' : St w w4 _ t T4 [(fA, 1), (fB, 2), (fC, 1)] := ho4
  have HO4 := Lib.hid ho4'
  clear ho4 ho4' hok4
  go_wp2_with fail
  refine (st_add HO4.out HT.out fD 3 (by decide) (by decide) (by simp)).mono ?_
  rintro e w5 ⟨ok5, T5, rfl, hok5, ho5⟩
  have hk5 : ok5 = true := hok5.2 ⟨filt_D, nin_D⟩
  subst hk5
  rw [addS_pos filt_D nin_D] at ho5
  have ho5' : St w w5 _ t T5 four := ho5
  have HO5 := Lib.hid ho5'
  clear ho5 ho5' hok5
  go_wp2_with fail
  refine (st_match HO5.out HT.out fC (by decide) (by decide) wf4 (by decide)).mono ?_
  rintro e w6 ⟨v6, ids6, rfl, hr6, hs6, hm6, hb6⟩
  have hi6 := m_C hs6 hm6
  subst hi6
  have HR6 := Lib.hid hr6
  have HO6 := Lib.hid (HO5.out.below hb6)
  clear hr6 hs6 hm6 hb6
  obtain ⟨q6, c6, rfl⟩ := HR6.out.slice
  go_wp2_with fail
  have hA6 : Below w6.heap.size w6 (w6.alloc (.cells #[.int .i64 1, .int .i64 2] 3)) := (Below.refl _ _).alloc (Nat.le_refl _) _
  refine (same_any _ _ _ [1, 2] [1, 2] (HR6.out.is.below hA6) (is_new2 w6 1 2)).mono ?_
  rintro e w7 ⟨he7, hb7⟩
  have he7' : e = .returned (.bool true) := he7
  subst he7'
  have HO7 := Lib.hid ((HO6.out.below hA6).below hb7)
  clear hb7 he7 hA6
  go_wp2_with fail
  refine (st_match HO7.out HT.out nA (by decide) (by decide) wf4 (by decide)).mono ?_
  rintro e w8 ⟨v8, ids8, rfl, hr8, hs8, hm8, hb8⟩
  have hi8 := m_A hs8 hm8
  subst hi8
  have HR8 := Lib.hid hr8
  have HO8 := Lib.hid (HO7.out.below hb8)
  clear hr8 hs8 hm8 hb8
  obtain ⟨q8, c8, rfl⟩ := HR8.out.slice
  go_wp2_with fail
  have hA8 : Below w8.heap.size w8 (w8.alloc (.cells #[.int .i64 2, .int .i64 3] 3)) := (Below.refl _ _).alloc (Nat.le_refl _) _
  refine (same_any _ _ _ [2, 3] [2, 3] (HR8.out.is.below hA8) (is_new2 w8 2 3)).mono ?_
  rintro e w9 ⟨he9, hb9⟩
  have he9' : e = .returned (.bool true) := he9
  subst he9'
  have HO9 := Lib.hid ((HO8.out.below hA8).below hb9)
  clear hb9 he9 hA8
  go_wp2_with fail
  refine (tof_nodes HO9.out.of_ (by decide) (by unfold four; decide)).mono ?_
  rintro e w10 ⟨⟨B, rfl, hB1, hB2⟩, hb10⟩
  have hB := five_len hB1 hB2
  rw [hB]
  have HO10 := Lib.hid (HO9.out.below hb10)
  clear hB1 hB2 hb10 hB
  go_wp2_with fail
  have CL : Hid (Calls Tryd.prog 14 #[.pointer (some ⟨t, 0, none⟩)] w10 fun e w' => e = .returned (.int .i64 4) ∧ w' = w10) := tof_len HO10.out.of_
  refine CL.out.mono ?_
  rintro e w11 ⟨rfl, hw⟩
  subst hw
  go_wp2_with fail
  refine (st_add HO10.out HT.out fE 1 (by decide) (by decide) (by unfold four; decide)).mono ?_
  rintro e w12 ⟨ok12, T12, rfl, hok12, ho12⟩
  have hk12 : ok12 = false := by
    cases ok12 with
    | false => rfl
    | true => have := (hok12.1 rfl).1; rw [filt_E] at this; cases this
  subst hk12
  have HB := Lib.hid ho12.bel
  clear hok12 ho12
  go_wp2_with fail
  rw [← HPP.out]
  exact ⟨rfl, HB.out⟩
end Go.Proofs.YtflomcbclofbaaaDoor
