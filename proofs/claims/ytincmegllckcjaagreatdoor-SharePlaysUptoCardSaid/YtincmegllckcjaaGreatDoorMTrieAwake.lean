/- TRIE: awake. TRIE: the reference's list: place. TRIE: how the reference counts the nodes. TRIE: rising texts; the list's own words. -/
import Derived.Test.YtincmegllckcjaaGreatDoorMShareSame
import Derived.Deep.QuietTactic
import Derived.BigQuiet
namespace Go.Proofs.YtincmegllckcjaaGreatDoor
section
open Go Go.RowKit
attribute [local go_sem ↓] Go.wp_at_zero Go.wp_at_succ

/-- the trie under way: what lay before w0 has not turned -/
structure St (w0 W : World) (sz t : Nat) (T : List Nd) (l : Subs) : Prop where
  of_ : TOf W w0.heap.size sz t T l
  bel : Below w0.heap.size w0 W
theorem St.tabs {w0 W : World} {sz t : Nat} {T : List Nd} {l : Subs} (h : St w0 W sz t T l) (hT : Tabs w0) : Tabs W := hT.below h.bel
theorem St.below {w0 W W' : World} {sz t : Nat} {T : List Nd} {l : Subs} (h : St w0 W sz t T l) (hb : Below W.heap.size W W') : St w0 W' sz t T l := ⟨h.of_.below hb, h.bel.trans (hb.mono h.bel.size)⟩
theorem below_frame {w0 A W : World} {F : Nat → Prop} (hA : Below w0.heap.size w0 A) (hf : Frame F A W) (hF : ∀ b, F b → w0.heap.size ≤ b) : Below w0.heap.size w0 W :=
  ⟨hf.os.trans hA.os, hf.tape.trans hA.tape, hf.output.trans hA.output, Nat.le_trans hA.size hf.size, fun b hb => (hf.block b (Nat.lt_of_lt_of_le hb hA.size) (fun h => by have := hF b h; omega)).trans (hA.block b hb)⟩
theorem St.frame {w0 W W' : World} {sz sz' t : Nat} {T T' : List Nd} {l l' : Subs} (h : St w0 W sz t T l) (hf : Frame (fun b => b = t ∨ foot T b) W W') (ho : TOf W' w0.heap.size sz' t T' l') : St w0 W' sz' t T' l' :=
  ⟨ho, below_frame h.bel hf fun b hb => by
    rcases hb with rfl | hb
    · exact h.of_.tri.bt
    · exact (h.of_.tri.is.lt hb).1⟩
theorem st_new (w : World) : Calls Tryz.prog 22 #[] w fun e w' => ∃ t T, e = .returned (.pointer (some ⟨t, 0, none⟩)) ∧ St w w' 0 t T [] := by
  refine (tof_new w).mono ?_
  rintro e w' ⟨t, T, rfl, h1, -, h3⟩
  exact ⟨t, T, rfl, h1, h3⟩
theorem st_add {w0 W : World} {sz t : Nat} {T : List Nd} {l : Subs} (h : St w0 W sz t T l) (hT : Tabs w0) (f : ByteArray) (z : Int) (hf : f.size ≤ 1048576) (hsz : sz ≤ 50000000) (hl : l.length ≤ 100000000) :
    Calls Tryz.prog 24 #[.pointer (some ⟨t, 0, none⟩), .string f, .int .i64 z] W fun e w' => ∃ (ok : Bool) (T' : List Nd), e = .returned (.bool ok) ∧ (ok = true ↔ filterB f = true ∧ (f, z) ∉ l) ∧ St w0 w' (sz + f.size + 2) t T' (addS l f z) := by
  refine (tof_add f z h.of_ hf (h.tabs hT) hsz hl).mono ?_
  rintro e w' ⟨ok, T', rfl, h1, h2, h3, -⟩
  exact ⟨ok, T', rfl, h1, h.frame h3 h2⟩
theorem st_remove {w0 W : World} {sz t : Nat} {T : List Nd} {l : Subs} (h : St w0 W sz t T l) (hT : Tabs w0) (f : ByteArray) (z : Int) (hf : f.size ≤ 1048576) (hsz : sz ≤ 100000000) (hl : l.length ≤ 100000000) :
    Calls Tryz.prog 55 #[.pointer (some ⟨t, 0, none⟩), .string f, .int .i64 z] W fun e w' => ∃ (ok : Bool) (T' : List Nd), e = .returned (.bool ok) ∧ (ok = true ↔ (f, z) ∈ l) ∧ St w0 w' sz t T' (subS l f z) := by
  refine (tof_remove f z h.of_ hf (h.tabs hT) hsz hl).mono ?_
  rintro e w' ⟨ok, T', rfl, h1, h2, h3, -⟩
  exact ⟨ok, T', rfl, h1, h.frame h3 h2⟩
theorem st_match {w0 W : World} {sz t : Nat} {T : List Nd} {l : Subs} (h : St w0 W sz t T l) (hT : Tabs w0) (s : ByteArray) (hs : s.size ≤ 1048576) (hsz : sz ≤ 100000000) (hwf : ∀ x ∈ l, (Lit.int .i64 x.2).wf = true) (hl : l.length ≤ 100000000) :
    Calls Tryz.prog 28 #[.pointer (some ⟨t, 0, none⟩), .string s] W fun e w' => ∃ v ids, e = .returned v ∧ IRow w' W.heap.size v ids ∧ ids.Pairwise (· < ·) ∧ (∀ z, z ∈ ids ↔ ∃ f, (f, z) ∈ l ∧ matchB f s = true) ∧ Below W.heap.size W w' := by
  refine (tof_match s h.of_ hs (h.tabs hT) hsz hwf hl).mono ?_
  rintro e w' ⟨v, ids, rfl, h1, h2, h3, h4⟩
  exact ⟨v, ids, rfl, h1, h2, fun z => (h3 z).trans (heard_match h.of_.ok s z), h4⟩
theorem addS_pos {l : Subs} {f : ByteArray} {z : Int} (h : filterB f = true) (k : (f, z) ∉ l) : addS l f z = l ++ [(f, z)] := by unfold addS; rw [if_pos ⟨h, k⟩]
theorem addS_neg {l : Subs} {f : ByteArray} {z : Int} (h : filterB f = false) : addS l f z = l := by unfold addS; rw [if_neg (fun e => by rw [h] at e; cases e.1)]
def fA : ByteArray := ⟨#[97, 47, 43]⟩
def fB : ByteArray := ⟨#[97, 47, 35]⟩
def fC : ByteArray := ⟨#[97, 47, 98]⟩
def fD : ByteArray := ⟨#[43]⟩
def fE : ByteArray := ⟨#[97, 43]⟩
def nA : ByteArray := ⟨#[97]⟩
theorem filt_A : filterB fA = true := by decide +kernel
theorem filt_B : filterB fB = true := by decide +kernel
theorem filt_C : filterB fC = true := by decide +kernel
theorem filt_D : filterB fD = true := by decide +kernel
theorem filt_E : filterB fE = false := by decide +kernel
theorem ne_bytes {s t : ByteArray} (h : s.data.toList ≠ t.data.toList) : s ≠ t := fun e => h (by rw [e])
theorem nin_C : (fC, (1 : Int)) ∉ ([(fA, 1), (fB, 2)] : Subs) := by
  intro h
  rcases List.mem_cons.1 h with h | h
  · injection h with h; exact absurd h (ne_bytes (by decide))
  · rw [List.mem_singleton] at h
    injection h with h; exact absurd h (ne_bytes (by decide))
theorem nin_D : (fD, (3 : Int)) ∉ ([(fA, 1), (fB, 2), (fC, 1)] : Subs) := by
  intro h
  rcases List.mem_cons.1 h with h | h
  · injection h with h; exact absurd h (ne_bytes (by decide))
  rcases List.mem_cons.1 h with h | h
  · injection h with h; exact absurd h (ne_bytes (by decide))
  · rw [List.mem_singleton] at h
    injection h with h; exact absurd h (ne_bytes (by decide))
def four : Subs := [(fA, 1), (fB, 2), (fC, 1), (fD, 3)]
theorem heard4 (s : ByteArray) (z : Int) : (∃ f, (f, z) ∈ four ∧ matchB f s = true) ↔ (z = 1 ∧ matchB fA s = true) ∨ (z = 2 ∧ matchB fB s = true) ∨ (z = 1 ∧ matchB fC s = true) ∨ (z = 3 ∧ matchB fD s = true) := by
  unfold four
  constructor
  · rintro ⟨f, hf, hm⟩
    rcases List.mem_cons.1 hf with h | hf
    · injection h with h1 h2; subst h1; exact .inl ⟨h2, hm⟩
    rcases List.mem_cons.1 hf with h | hf
    · injection h with h1 h2; subst h1; exact .inr (.inl ⟨h2, hm⟩)
    rcases List.mem_cons.1 hf with h | hf
    · injection h with h1 h2; subst h1; exact .inr (.inr (.inl ⟨h2, hm⟩))
    · rw [List.mem_singleton] at hf
      injection hf with h1 h2; subst h1; exact .inr (.inr (.inr ⟨h2, hm⟩))
  · rintro (⟨h, hm⟩ | ⟨h, hm⟩ | ⟨h, hm⟩ | ⟨h, hm⟩)
    · exact ⟨fA, by rw [h]; simp, hm⟩
    · exact ⟨fB, by rw [h]; simp, hm⟩
    · exact ⟨fC, by rw [h]; simp, hm⟩
    · exact ⟨fD, by rw [h]; simp, hm⟩
theorem m_C {ids : List Int} (h : ids.Pairwise (· < ·)) (k : ∀ z, z ∈ ids ↔ ∃ f, (f, z) ∈ four ∧ matchB f fC = true) : ids = [1, 2] := by
  refine sorted_ext ord_int h (by decide) fun z => ?_
  rw [k, heard4, show matchB fA fC = true by decide +kernel, show matchB fB fC = true by decide +kernel, show matchB fC fC = true by decide +kernel, show matchB fD fC = false by decide +kernel]
  simp
  omega
theorem m_A {ids : List Int} (h : ids.Pairwise (· < ·)) (k : ∀ z, z ∈ ids ↔ ∃ f, (f, z) ∈ four ∧ matchB f nA = true) : ids = [2, 3] := by
  refine sorted_ext ord_int h (by decide) fun z => ?_
  rw [k, heard4, show matchB fA nA = false by decide +kernel, show matchB fB nA = true by decide +kernel, show matchB fC nA = false by decide +kernel, show matchB fD nA = true by decide +kernel]
  simp
theorem wf4 : ∀ x ∈ four, (Lit.int .i64 x.2).wf = true := by
  unfold four
  intro x hx
  simp only [List.mem_cons, List.not_mem_nil, or_false] at hx
  rcases hx with rfl | rfl | rfl | rfl <;> decide
theorem is_new2 (w : World) (a b : Int) : IS (w.alloc (.cells #[.int .i64 a, .int .i64 b] 3)) (.slice (some ⟨w.heap.size, 0, none⟩) 2 2) [a, b] := by
  refine ⟨_, 2, rfl, Nat.le_refl _, by omega, .inr ⟨w.heap.size, 0, rfl, fun j x hj => ?_⟩⟩
  rw [cell_of_row _ _ _ _ _ _ (heap_alloc_new w (.cells #[.int .i64 a, .int .i64 b] 3))]
  match j, hj with
  | 0, hj => injection hj with hj; subst hj; rfl
  | 1, hj => injection hj with hj; subst hj; rfl
  | j + 2, hj => simp at hj
def la : ByteArray := ⟨#[97]⟩
def lb : ByteArray := ⟨#[98]⟩
def five : List (List ByteArray) := [[la], [la, plusS], [la, hashS], [la, lb], [plusS]]
theorem begs4 : begs four = [[la], [la, plusS], [la], [la, hashS], [la], [la, lb], [plusS]] := by kernel_rfl
theorem five_nodup : five.Nodup := by
  have h : (five.map fun p => p.map fun s => s.data.toList).Nodup := by decide +kernel
  exact (List.pairwise_map.1 h).imp fun h e => h (by rw [e])
theorem five_len {B : List (List ByteArray)} (h : B.Nodup) (k : ∀ p, p ∈ B ↔ p ∈ begs four) : B.length = 5 := by
  have e : ∀ p, p ∈ B ↔ p ∈ five := fun p => by
    rw [k, begs4]
    unfold five
    simp only [List.mem_cons, List.not_mem_nil, or_false]
    constructor
    · rintro (h | h | h | h | h | h | h) <;> simp [h]
    · rintro (h | h | h | h | h) <;> simp [h]
  have h1 := nodup_le h fun p hp => (e p).1 hp
  have h2 := nodup_le five_nodup fun p hp => (e p).2 hp
  have : five.length = 5 := rfl
  omega
end
section
open Go Go.RowKit
attribute [local go_sem ↓] Go.wp_at_zero Go.wp_at_succ

def subCells (l : Subs) : List Value := l.flatMap fun x => [Value.string x.1, Value.int .i64 x.2]
theorem subCells_get : ∀ (l : Subs) (i : Nat) (x : ByteArray × Int), l[i]? = some x → (subCells l)[i * 2]? = some (.string x.1) ∧ (subCells l)[i * 2 + 1]? = some (.int .i64 x.2)
  | [], _, _, h => by cases h
  | y :: l, 0, x, h => by injection h with h; subst h; exact ⟨rfl, rfl⟩
  | y :: l, i + 1, x, h => by
    have := subCells_get l i x h
    rw [show (i + 1) * 2 = i * 2 + 2 by omega]
    exact this
/-- the list in memory: a box that holds an own row of pairs -/
structure RL (W : World) (base rb : Nat) (x1 x2 v : Value) (l : Subs) : Prop where
  box : W.heap[rb]? = some (.cells #[v, x1, x2] 50 (0, 0))
  row : W.ownsRow base 157 2 v l.length (subCells l)
  lo : base ≤ rb
def PlaceR (l : Subs) (f : ByteArray) (z : Int) (r : Int) : Prop := (r = -1 ∧ (f, z) ∉ l) ∨ ∃ i : Nat, r = (i : Nat) ∧ l[i]? = some (f, z)
set_option maxRecDepth 100000 in
set_option maxHeartbeats 4000000 in
theorem place_any (w : World) (base rb : Nat) (x1 x2 v : Value) (l : Subs) (f : ByteArray) (z : Int) (h : RL w base rb x1 x2 v l) (hl : l.length ≤ 100000000) :
    Calls Tryz.prog 120 #[.pointer (some ⟨rb, 0, none⟩), .string f, .int .i64 z] w fun e w' => (∃ r, e = .returned (.int .i64 r) ∧ PlaceR l f z r) ∧ Below w.heap.size w w' := by
  obtain ⟨PP, hPP⟩ : ∃ PP : Ending → World → Prop, (fun e w' => (∃ r, e = .returned (.int .i64 r) ∧ PlaceR l f z r) ∧ Below w.heap.size w w') = PP := ⟨_, rfl⟩
  rw [hPP]
  have HPP := Lib.hid hPP
  have HR := Lib.hid h
  have c0 : w.cell? ⟨rb, 0, none⟩ = some v := by rw [cell_of_row w rb 0 _ _ _ h.box]; rfl
  have hb := (Array.getElem?_eq_some_iff.1 h.box).1
  obtain ⟨q, c, hv⟩ : ∃ q c, v = .slice q l.length c := by
    rcases h.row.2 with ⟨rfl, h2⟩ | ⟨g, cap, cur, rfl, -⟩
    · exact ⟨_, _, by rw [h2]⟩
    · exact ⟨_, _, rfl⟩
  subst hv
  clear hPP h
  go_enter Tryz.func120, Tryz.ntmps120
  go_wp2_with fail
  go_loopw [7] (fun s7 wr => ∃ i : Nat, s7 = .int .i64 (i : Nat) ∧ i ≤ l.length ∧ Hid (∀ j, j < i → l[j]? ≠ some (f, z)) ∧ Hid (Below w.heap.size w wr)) (fun s7 _ => l.length - (intOf s7).toNat)
  case atStart => exact ⟨0, rfl, Nat.zero_le _, fun j hj => by omega, Below.refl _ _⟩
  case round =>
    obtain ⟨i, rfl, hi, hN, hB⟩ := hrel
    have k0 := (hB.out.cell (p := ⟨rb, 0, none⟩) hb).trans c0
    have kb : rb < wr.heap.size := World.block_lt_of_cell? wr _ k0
    by_cases hlt : i < l.length
    · obtain ⟨x, hx⟩ : ∃ x, l[i]? = some x := ⟨_, List.getElem?_eq_getElem hlt⟩
      obtain ⟨g, rfl⟩ : ∃ g, q = some ⟨g, 0, none⟩ := by
        rcases HR.out.row.2 with ⟨h1, h2⟩ | ⟨g, cap, cur, h1, -⟩
        · omega
        · injection h1 with h1; exact ⟨g, h1⟩
      obtain ⟨g1, g2⟩ := subCells_get l i x hx
      have hg1 := HR.out.row.cellAt (i * 2) (by omega)
      have hg2 := HR.out.row.cellAt (i * 2 + 1) (by omega)
      rw [g1] at hg1
      rw [g2] at hg2
      have e1 := (hB.out.cell (World.block_lt_of_cell? w _ hg1)).trans hg1
      have e2 := (hB.out.cell (World.block_lt_of_cell? w _ hg2)).trans hg2
      have hgl : g < wr.heap.size := World.block_lt_of_cell? wr _ e1
      have hltI : (i : Int) < (l.length : Int) := by omega
      have hi0 : (0 : Int) ≤ (i : Int) := by omega
      have HX := Lib.hid hx
      clear hx g1 g2 hg1 hg2
      by_cases hf : x.1 = f
      · have t1 : (x.1.toList == f.toList) = true := is_same.2 hf
        by_cases hz : x.2 = z
        · have t2 : (x.2 == z) = true := by simp [hz]
          have HXE : Hid (x = (f, z)) := Prod.ext hf hz
          clear hf hz
          go_wp2_with fail
          rw [← HPP.out]
          exact ⟨⟨i, rfl, .inr ⟨i, rfl, by rw [HX.out, HXE.out]⟩⟩, hB.out⟩
        · have t2 : (x.2 == z) = false := by simp [hz]
          have HNE : Hid (x ≠ (f, z)) := fun e => hz (by rw [e])
          clear hf hz
          go_wp2_with fail
          go_roundw
          case rel =>
            refine ⟨i + 1, by go_num, by omega, fun j hj e => ?_, hB.out⟩
            rcases Nat.lt_or_ge j i with h | h
            · exact hN.out j h e
            · have : j = i := by omega
              subst this
              rw [HX.out] at e
              injection e with e
              rw [e] at HNE
              exact HNE.out rfl
          case measure => simp [intOf]; omega
      · have t1 : (x.1.toList == f.toList) = false := by
          cases h : (x.1.toList == f.toList)
          · rfl
          · exact absurd (is_same.1 h) hf
        have HNE : Hid (x ≠ (f, z)) := fun e => hf (by rw [e])
        clear hf
        go_wp2_with fail
        go_roundw
        case rel =>
          refine ⟨i + 1, by go_num, by omega, fun j hj e => ?_, hB.out⟩
          rcases Nat.lt_or_ge j i with h | h
          · exact hN.out j h e
          · have : j = i := by omega
            subst this
            rw [HX.out] at e
            injection e with e
            rw [e] at HNE
            exact HNE.out rfl
        case measure => simp [intOf]; omega
    · have hltI : ¬ ((i : Int) < (l.length : Int)) := by omega
      go_wp2_with fail
      rw [← HPP.out]
      refine ⟨⟨-1, rfl, .inl ⟨rfl, fun hm => ?_⟩⟩, hB.out⟩
      obtain ⟨j, hj, e⟩ := List.getElem_of_mem hm
      exact hN.out j (by omega) (by rw [List.getElem?_eq_getElem hj, e])
end
section
open Go Go.RowKit


open Classical in
noncomputable def comm : List ByteArray → List ByteArray → Nat
  | a :: x, b :: y => if a = b then comm x y + 1 else 0
  | _, _ => 0
theorem comm_iff : ∀ (l b : List ByteArray) (j : Nat), j ≤ l.length → (j ≤ comm l b ↔ ∃ r, b = l.take j ++ r)
  | _, b, 0, _ => by simp
  | [], b, j + 1, h => by simp at h
  | a :: x, [], j + 1, h => by
    unfold comm
    simp
  | a :: x, c :: y, j + 1, h => by
    unfold comm
    have ih := comm_iff x y j (by simpa using h)
    by_cases e : a = c
    · subst e
      rw [if_pos rfl]
      constructor
      · intro h1
        obtain ⟨r, hr⟩ := ih.1 (by omega)
        exact ⟨r, by rw [List.take_succ_cons, List.cons_append, ← hr]⟩
      · rintro ⟨r, hr⟩
        rw [List.take_succ_cons, List.cons_append] at hr
        injection hr with _ hr
        have := ih.2 ⟨r, hr⟩
        omega
    · rw [if_neg e]
      constructor
      · intro h1; omega
      · rintro ⟨r, hr⟩
        rw [List.take_succ_cons, List.cons_append] at hr
        injection hr with hr _
        exact absurd hr.symm e
theorem comm_le : ∀ l b : List ByteArray, comm l b ≤ l.length
  | [], b => by simp [comm]
  | a :: x, [] => by simp [comm]
  | a :: x, c :: y => by
    unfold comm
    have := comm_le x y
    split
    · rw [List.length_cons]; omega
    · omega
noncomputable def had (l : List ByteArray) (seen : List (List ByteArray)) : Nat := seen.foldl (fun h b => max h (comm l b)) 0
theorem had_fold (l : List ByteArray) : ∀ (seen : List (List ByteArray)) (h j : Nat), j ≤ seen.foldl (fun h b => max h (comm l b)) h ↔ j ≤ h ∨ ∃ b ∈ seen, j ≤ comm l b
  | [], h, j => by simp
  | c :: seen, h, j => by
    rw [List.foldl_cons, had_fold l seen]
    constructor
    · rintro (h1 | ⟨b, hb, h1⟩)
      · rcases Nat.le_total h (comm l c) with h2 | h2
        · rw [Nat.max_eq_right h2] at h1; exact .inr ⟨c, List.mem_cons_self .., h1⟩
        · rw [Nat.max_eq_left h2] at h1; exact .inl h1
      · exact .inr ⟨b, List.mem_cons_of_mem _ hb, h1⟩
    · rintro (h1 | ⟨b, hb, h1⟩)
      · exact .inl (Nat.le_trans h1 (Nat.le_max_left ..))
      · rcases List.mem_cons.1 hb with rfl | hb
        · exact .inl (Nat.le_trans h1 (Nat.le_max_right ..))
        · exact .inr ⟨b, hb, h1⟩
theorem had_le (l : List ByteArray) (seen : List (List ByteArray)) : had l seen ≤ l.length := by
  rcases (had_fold l seen 0 (had l seen)).1 (Nat.le_refl _) with h | ⟨b, hb, h⟩
  · omega
  · exact Nat.le_trans h (comm_le l b)
/-- the beginnings of lists -/
def begsL (seen : List (List ByteArray)) (p : List ByteArray) : Prop := p ≠ [] ∧ ∃ b ∈ seen, ∃ r, b = p ++ r
noncomputable def countL : List (List ByteArray) → List (List ByteArray) → Nat
  | _, [] => 0
  | seen, l :: L => (l.length - had l seen) + countL (seen ++ [l]) L
theorem count_begs : ∀ (L seen B : List (List ByteArray)), B.Nodup → (∀ p, p ∈ B ↔ begsL seen p) → ∃ B' : List (List ByteArray), B'.Nodup ∧ (∀ p, p ∈ B' ↔ begsL (seen ++ L) p) ∧ B'.length = B.length + countL seen L
  | [], seen, B, h1, h2 => ⟨B, h1, by simpa using h2, by simp [countL]⟩
  | l :: L, seen, B, h1, h2 => by
    have hle := had_le l seen
    have hmem : ∀ p, p ∈ B ++ (List.range (l.length - had l seen)).map (fun i => l.take (had l seen + i + 1)) ↔ begsL (seen ++ [l]) p := by
      intro p
      rw [List.mem_append, h2, List.mem_map]
      constructor
      · rintro (⟨h3, b, hb, h4⟩ | ⟨i, hi, rfl⟩)
        · exact ⟨h3, b, List.mem_append_left _ hb, h4⟩
        · rw [List.mem_range] at hi
          refine ⟨fun e => ?_, l, List.mem_append_right _ (List.mem_singleton.2 rfl), _, (List.take_append_drop _ _).symm⟩
          have := congrArg List.length e
          rw [List.length_take, List.length_nil] at this
          omega
      · rintro ⟨h3, b, hb, r, h4⟩
        rcases List.mem_append.1 hb with hb | hb
        · exact .inl ⟨h3, b, hb, r, h4⟩
        · rw [List.mem_singleton] at hb
          subst hb
          have hp := List.length_pos_iff.2 h3
          have hpl : p.length ≤ b.length := by rw [h4, List.length_append]; omega
          have htk : b.take p.length = p := by rw [h4, List.take_left]
          by_cases hh : p.length ≤ had b seen
          · rcases (had_fold b seen 0 p.length).1 hh with h5 | ⟨c, hc, h5⟩
            · omega
            · obtain ⟨s, hs⟩ := (comm_iff b c p.length hpl).1 h5
              exact .inl ⟨h3, c, hc, s, by rw [hs, htk]⟩
          · refine .inr ⟨p.length - had b seen - 1, List.mem_range.2 (by omega), ?_⟩
            rw [show had b seen + (p.length - had b seen - 1) + 1 = p.length by omega, htk]
    have hnd : (B ++ (List.range (l.length - had l seen)).map (fun i => l.take (had l seen + i + 1))).Nodup := by
      refine List.nodup_append.2 ⟨h1, ?_, fun a ha c hc e => ?_⟩
      · refine List.pairwise_map.2 ((List.nodup_range).imp_of_mem fun {i j} hi hj hne e => hne ?_)
        rw [List.mem_range] at hi hj
        have := congrArg List.length e
        rw [List.length_take, List.length_take] at this
        omega
      · subst e
        obtain ⟨i, hi, e⟩ := List.mem_map.1 hc
        rw [List.mem_range] at hi
        obtain ⟨-, b, hb, r, h4⟩ := (h2 a).1 ha
        have h5 : had l seen + i + 1 ≤ had l seen := (had_fold l seen 0 _).2 (.inr ⟨b, hb, (comm_iff l b _ (by omega)).2 ⟨r, by rw [e]; exact h4⟩⟩)
        omega
    obtain ⟨B', h3, h4, h5⟩ := count_begs L (seen ++ [l]) _ hnd hmem
    refine ⟨B', h3, fun p => by rw [h4]; simp, ?_⟩
    rw [h5, List.length_append, List.length_map, List.length_range]
    show _ = B.length + ((l.length - had l seen) + countL (seen ++ [l]) L)
    omega
end
section
open Go Go.RowKit

theorem list_tri (a b : List UInt8) : a < b ∨ a = b ∨ b < a := by
  rcases List.le_total a b with h | h
  · by_cases h1 : b < a
    · exact .inr (.inr h1)
    · by_cases h2 : a < b
      · exact .inl h2
      · exact .inr (.inl (List.le_antisymm h (List.not_lt.1 h2)))
  · by_cases h1 : a < b
    · exact .inl h1
    · by_cases h2 : b < a
      · exact .inr (.inr h2)
      · exact .inr (.inl (List.le_antisymm (List.not_lt.1 h2) h))
def ltB (s t : ByteArray) : Prop := s.data.toList < t.data.toList
instance : DecidableRel ltB := fun s t => inferInstanceAs (Decidable (s.data.toList < t.data.toList))
theorem ord_text : Ord3 ltB :=
  ⟨fun _ _ _ h k => List.lt_trans h k, fun _ h => List.lt_irrefl _ h, fun a b => by
    rcases list_tri a.data.toList b.data.toList with h | h | h
    · exact .inl h
    · exact .inr (.inl (bytes_inj h))
    · exact .inr (.inr h)⟩
theorem sortS_rising {ss : List ByteArray} (h : ss.Nodup) : (sortS ss).Pairwise ltB := by
  have h1 : ((lists ss).mergeSort fun x y => decide (x ≤ y)).Pairwise fun x y => decide (x ≤ y) = true := List.pairwise_mergeSort (fun a b c h k => by simp only [decide_eq_true_eq] at *; exact List.le_trans h k) (fun a b => by simp only [Bool.or_eq_true, decide_eq_true_eq]; exact List.le_total a b) _
  have hn : (lists ss).Nodup := by
    unfold lists
    exact List.pairwise_map.2 (h.imp fun h e => h (bytes_inj e))
  have h2 : ((lists ss).mergeSort fun x y => decide (x ≤ y)).Nodup := (List.mergeSort_perm _ _).nodup_iff.2 hn
  unfold sortS
  refine List.pairwise_map.2 ((List.pairwise_and_iff.2 ⟨h1, h2⟩).imp fun {a b} h => ?_)
  show (⟨a.toArray⟩ : ByteArray).data.toList < (⟨b.toArray⟩ : ByteArray).data.toList
  simp only [decide_eq_true_eq] at h
  rcases list_tri a b with h3 | h3 | h3
  · exact h3
  · exact absurd h3 h.2
  · exact absurd h3 (List.not_lt.2 h.1)
end
end Go.Proofs.YtincmegllckcjaaGreatDoor
