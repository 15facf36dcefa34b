/- TRIE: the program's trie and the reference's list, side by side. TRIE: built. TRIE: what is known of a script, and of the list that it makes. -/
import Derived.Test.YtflomcbclofbaaaDoorTrieRefL
import Derived.StillTailTactics
namespace Go.Proofs.YtflomcbclofbaaaDoor
open Go Go.RowKit
attribute [local go_sem ↓] Go.wp_at_zero Go.wp_at_succ

theorem foot_obj {W : World} {base sz : Nat} {T : List Nd} (h : TrieIs W base sz T) {b : Nat} (hb : foot T b) {cs : Array Value} {ty : TypeId} {z : Nat × Nat} (hc : W.heap[b]? = some (.cells cs ty z)) : ty = 54 ∨ ty = 3 := by
  obtain ⟨x, hx, hm⟩ := hb
  have hn := h.each x hx
  unfold Nd.blocks at hm
  rcases List.mem_cons.1 hm with rfl | hm
  · have := hn.box
    rw [hc] at this
    injection this with this
    injection this with _ h2 _
    exact .inl h2
  rcases List.mem_cons.1 hm with rfl | hm
  · obtain ⟨es, clock, hbm, -⟩ := hn.map
    rw [hc] at hbm
    injection hbm with hbm
    cases hbm
  · rcases hn.row.2 with ⟨h1, -⟩ | ⟨g, cap, cur, h1, -, hg, -⟩
    · rw [h1] at hm; cases hm
    · rw [h1] at hm
      have hm : b ∈ [g] := hm
      rw [List.mem_singleton] at hm
      subst hm
      rw [hc] at hg
      injection hg with hg
      injection hg with _ h2 _
      exact .inr h2
theorem not_foot {W : World} {base sz : Nat} {T : List Nd} (h : TrieIs W base sz T) {b : Nat} {cs : Array Value} {ty : TypeId} {z : Nat × Nat} (hc : W.heap[b]? = some (.cells cs ty z)) (h1 : ty ≠ 54) (h2 : ty ≠ 3) : ¬ foot T b := fun hb => by
  rcases foot_obj h hb hc with h | h
  · exact h1 h
  · exact h2 h
/-- both of them -/
structure Two (w0 W : World) (sz t : Nat) (T : List Nd) (rb : Nat) (v : Value) (l m : Subs) : Prop where
  st : St w0 W sz t T l
  rl : RL W w0.heap.size rb v m
section
variable {w0 W W' : World} {sz t rb : Nat} {T : List Nd} {v : Value} {l m : Subs}
theorem Two.below (h : Two w0 W sz t T rb v l m) (hb : Below W.heap.size W W') : Two w0 W' sz t T rb v l m := ⟨h.st.below hb, h.rl.below hb⟩
theorem Two.more (h : Two w0 W sz t T rb v l m) {sz' : Nat} (hs : sz ≤ sz') : Two w0 W sz' t T rb v l m :=
  ⟨⟨⟨⟨h.st.of_.tri.is.more hs, h.st.of_.tri.root, h.st.of_.tri.bt, h.st.of_.tri.free⟩, h.st.of_.lean, h.st.of_.at_, h.st.of_.ok, h.st.of_.nd⟩, h.st.bel⟩, h.rl⟩
theorem Two.box_off (h : Two w0 W sz t T rb v l m) : rb ≠ t ∧ ¬ foot T rb := by
  refine ⟨fun e => ?_, not_foot h.st.of_.tri.is h.rl.box (by decide) (by decide)⟩
  obtain ⟨x, -, -, hb⟩ := h.st.of_.tri.root
  rw [← e, h.rl.box] at hb
  injection hb with hb
  injection hb with _ hb _
  revert hb
  decide
theorem Two.row_off (h : Two w0 W sz t T rb v l m) {g : Nat} (hg : v.ownBlock = some g) : g ≠ t ∧ ¬ foot T g := by
  rcases h.rl.row.2 with ⟨rfl, -⟩ | ⟨g', cap, cur, rfl, -, hb, -⟩
  · cases hg
  · injection hg with hg
    have hg : g' = g := hg
    subst hg
    refine ⟨fun e => ?_, not_foot h.st.of_.tri.is hb (by decide) (by decide)⟩
    obtain ⟨x, -, -, hb2⟩ := h.st.of_.tri.root
    rw [← e, hb] at hb2
    injection hb2 with hb2
    injection hb2 with _ hb2 _
    revert hb2
    decide
/-- the trie has changed -/
theorem Two.trie {T' : List Nd} {l' : Subs} {sz' : Nat} (h : Two w0 W sz t T rb v l m) (hf : Frame (fun b => b = t ∨ foot T b) W W') (ho : TOf W' w0.heap.size sz' t T' l') : Two w0 W' sz' t T' rb v l' m := by
  refine ⟨h.st.frame hf ho, ?_, ?_, h.rl.lo⟩
  · have h1 := h.box_off
    exact (hf.block rb (Array.getElem?_eq_some_iff.1 h.rl.box).1 (fun e => by rcases e with e | e; exact h1.1 e; exact h1.2 e)).trans h.rl.box
  · exact row_of_heap h.rl.row fun b hb => hf.block b (h.rl.row.lt b hb).2 (fun e => by
      have h1 := h.row_off hb
      rcases e with e | e
      · exact h1.1 e
      · exact h1.2 e)
/-- the list has changed -/
theorem Two.list {v' : Value} {m' : Subs} (h : Two w0 W sz t T rb v l m) (hr : RLTo W w0.heap.size rb v m' W' v') : Two w0 W' sz t T rb v' l m' := by
  have hk : ∀ b, b = t ∨ foot T b → W'.heap[b]? = W.heap[b]? := fun b hb => by
    refine hr.fr.block b ?_ (fun e => ?_)
    · rcases hb with rfl | hb
      · exact h.st.of_.tri.lt
      · exact (h.st.of_.tri.is.lt hb).2
    · rcases e with rfl | e
      · have h1 := h.box_off
        rcases hb with hb | hb
        · exact h1.1 hb
        · exact h1.2 hb
      · have h1 := h.row_off e
        rcases hb with hb | hb
        · exact h1.1 hb
        · exact h1.2 hb
  refine ⟨⟨⟨h.st.of_.tri.kept hk, h.st.of_.lean, h.st.of_.at_, h.st.of_.ok, h.st.of_.nd⟩, ?_⟩, hr.rl⟩
  refine below_frame h.st.bel hr.fr fun b hb => ?_
  rcases hb with rfl | hb
  · exact h.rl.lo
  · exact (h.rl.row.lt b hb).1
theorem two_add (h : Two w0 W sz t T rb v l m) (hT : Tabs w0) (f : ByteArray) (z : Int) (hf : f.size ≤ 1048576) (hsz : sz ≤ 50000000) (hl : l.length ≤ 100000000) :
    Calls Tryd.prog 6 #[.pointer (some ⟨t, 0, none⟩), .string f, .int .i64 z] W fun e w' => ∃ (ok : Bool) (T' : List Nd), e = .returned (.bool ok) ∧ (ok = true ↔ filterB f = true ∧ (f, z) ∉ l) ∧ Two w0 w' (sz + f.size + 2) t T' rb v (addS l f z) m := by
  refine (tof_add f z h.st.of_ hf (h.st.tabs hT) hsz hl).mono ?_
  rintro e w' ⟨ok, T', rfl, h1, h2, h3, -⟩
  exact ⟨ok, T', rfl, h1, h.trie h3 h2⟩
theorem two_remove (h : Two w0 W sz t T rb v l m) (hT : Tabs w0) (f : ByteArray) (z : Int) (hf : f.size ≤ 1048576) (hsz : sz ≤ 100000000) (hl : l.length ≤ 100000000) :
    Calls Tryd.prog 11 #[.pointer (some ⟨t, 0, none⟩), .string f, .int .i64 z] W fun e w' => ∃ (ok : Bool) (T' : List Nd), e = .returned (.bool ok) ∧ (ok = true ↔ (f, z) ∈ l) ∧ Two w0 w' sz t T' rb v (subS l f z) m := by
  refine (tof_remove f z h.st.of_ hf (h.st.tabs hT) hsz hl).mono ?_
  rintro e w' ⟨ok, T', rfl, h1, h2, h3, -⟩
  exact ⟨ok, T', rfl, h1, h.trie h3 h2⟩
theorem two_refAdd (h : Two w0 W sz t T rb v l m) (hT : Tabs w0) (f : ByteArray) (z : Int) (hf : f.size ≤ 1048576) (hl : m.length ≤ 100000000) :
    Calls Tryd.prog 17 #[.pointer (some ⟨rb, 0, none⟩), .string f, .int .i64 z] W fun e w' => ∃ (ok : Bool) (v' : Value), e = .returned (.bool ok) ∧ (ok = true ↔ filterB f = true ∧ (f, z) ∉ m) ∧ Two w0 w' sz t T rb v' l (addS m f z) := by
  refine (refAdd_any W w0.heap.size rb v m f z h.rl (h.st.tabs hT) hf hl).mono ?_
  rintro e w' ⟨ok, v', rfl, h1, h2⟩
  exact ⟨ok, v', rfl, h1, h.list h2⟩
theorem two_refRemove (h : Two w0 W sz t T rb v l m) (f : ByteArray) (z : Int) (hnd : m.Nodup) (hl : m.length ≤ 100000000) :
    Calls Tryd.prog 18 #[.pointer (some ⟨rb, 0, none⟩), .string f, .int .i64 z] W fun e w' => ∃ (ok : Bool) (v' : Value), e = .returned (.bool ok) ∧ (ok = true ↔ (f, z) ∈ m) ∧ Two w0 w' sz t T rb v' l (subS m f z) := by
  refine (refRemove_any W w0.heap.size rb v m f z h.rl hnd hl).mono ?_
  rintro e w' ⟨ok, v', rfl, h1, h2⟩
  exact ⟨ok, v', rfl, h1, h.list h2⟩
end
/-- one call of a script, and all of them -/
abbrev Acts := List (Int × ByteArray × Int)
noncomputable def stepA (l : Subs) (a : Int × ByteArray × Int) : Subs := if a.1 = 1 then addS l a.2.1 a.2.2 else if a.1 = 2 then subS l a.2.1 a.2.2 else l
noncomputable def runA (L : Acts) : Subs := L.foldl stepA []
def szA (L : Acts) : Nat := (L.map fun a => a.2.1.size + 2).sum
theorem runA_snoc (L : Acts) (a : Int × ByteArray × Int) : runA (L ++ [a]) = stepA (runA L) a := by unfold runA; rw [List.foldl_append]; rfl
theorem szA_snoc (L : Acts) (a : Int × ByteArray × Int) : szA (L ++ [a]) = szA L + (a.2.1.size + 2) := by unfold szA; simp
theorem addS_sub {l : Subs} {f : ByteArray} {z : Int} {x : ByteArray × Int} (h : x ∈ addS l f z) : x ∈ l ∨ x = (f, z) := by
  unfold addS at h
  split at h
  · rcases List.mem_append.1 h with h | h
    · exact .inl h
    · exact .inr (List.mem_singleton.1 h)
  · exact .inl h
theorem addS_le (l : Subs) (f : ByteArray) (z : Int) : (addS l f z).length ≤ l.length + 1 ∧ totalS (addS l f z) ≤ totalS l + (f.size + 1) := by
  unfold addS totalS
  split
  · simp
  · omega
theorem subS_le (l : Subs) (f : ByteArray) (z : Int) : (subS l f z).length ≤ l.length ∧ totalS (subS l f z) ≤ totalS l := by
  refine ⟨by unfold subS; exact List.length_filter_le _ _, ?_⟩
  unfold subS totalS
  induction l with
  | nil => exact Nat.le_refl _
  | cons x l ih =>
    rw [List.filter_cons]
    split
    · simp only [List.map_cons, List.sum_cons]; omega
    · simp only [List.map_cons, List.sum_cons]; omega
theorem runA_le : ∀ L : Acts, (runA L).length ≤ L.length ∧ totalS (runA L) ≤ szA L ∧ ∀ x ∈ runA L, ∃ a ∈ L, a.2 = x := by
  intro L
  suffices h : ∀ (L K : Acts), ((runA K).length ≤ K.length ∧ totalS (runA K) ≤ szA K ∧ ∀ x ∈ runA K, ∃ a ∈ K, a.2 = x) → ((runA (K ++ L)).length ≤ (K ++ L).length ∧ totalS (runA (K ++ L)) ≤ szA (K ++ L) ∧ ∀ x ∈ runA (K ++ L), ∃ a ∈ K ++ L, a.2 = x) by
    exact h L [] ⟨Nat.le_refl _, Nat.le_refl _, fun x hx => by cases hx⟩
  intro L
  induction L with
  | nil => intro K h; simpa using h
  | cons a L ih =>
    intro K h
    obtain ⟨h1, h2, h3⟩ := h
    have := ih (K ++ [a]) (by
      rw [runA_snoc, szA_snoc, List.length_append, List.length_singleton]
      unfold stepA
      split
      · have := addS_le (runA K) a.2.1 a.2.2
        refine ⟨by omega, by omega, fun x hx => ?_⟩
        rcases addS_sub hx with hx | rfl
        · obtain ⟨b, hb, e⟩ := h3 x hx; exact ⟨b, List.mem_append_left _ hb, e⟩
        · exact ⟨a, List.mem_append_right _ (List.mem_singleton.2 rfl), rfl⟩
      · split
        · have := subS_le (runA K) a.2.1 a.2.2
          refine ⟨by omega, by omega, fun x hx => ?_⟩
          obtain ⟨b, hb, e⟩ := h3 x (mem_subS.1 hx).1; exact ⟨b, List.mem_append_left _ hb, e⟩
        · refine ⟨by omega, by omega, fun x hx => ?_⟩
          obtain ⟨b, hb, e⟩ := h3 x hx; exact ⟨b, List.mem_append_left _ hb, e⟩)
    simpa using this

def actCells (L : Acts) : List Value := L.flatMap fun a => [Value.int .i64 a.1, Value.string a.2.1, Value.int .i64 a.2.2]
theorem actCells_get : ∀ (L : Acts) (i : Nat) (a : Int × ByteArray × Int), L[i]? = some a → (actCells L)[i * 3]? = some (.int .i64 a.1) ∧ (actCells L)[i * 3 + 1]? = some (.string a.2.1) ∧ (actCells L)[i * 3 + 2]? = some (.int .i64 a.2.2)
  | [], _, _, h => by cases h
  | y :: L, 0, a, h => by injection h with h; subst h; exact ⟨rfl, rfl, rfl⟩
  | y :: L, i + 1, a, h => by
    have := actCells_get L i a h
    rw [show (i + 1) * 3 = i * 3 + 3 by omega]
    exact this
def ActAt (w : World) (g o i : Nat) (a : Int × ByteArray × Int) : Prop := w.cell? ⟨g, o + i * 3, none⟩ = some (.int .i64 a.1) ∧ w.cell? ⟨g, o + i * 3 + 1, none⟩ = some (.string a.2.1) ∧ w.cell? ⟨g, o + i * 3 + 2, none⟩ = some (.int .i64 a.2.2)
theorem act_at {w : World} {q : Option Addr} {n c : Nat} {L : Acts} (h : Fl w 3 (.slice q n c) n (actCells L)) {i : Nat} {a : Int × ByteArray × Int} (hn : n ≠ 0) (ha : L[i]? = some a) : ∃ g o, q = some ⟨g, o, none⟩ ∧ ActAt w g o i a := by
  obtain ⟨-, p, cap, e, -, -, h3⟩ := h
  injection e with e1 e2 e3
  subst e1
  obtain ⟨g, o, rfl, h4⟩ := h3.resolve_left hn
  obtain ⟨g0, g1, g2⟩ := actCells_get L i a ha
  have k1 := h4 _ _ g1
  have k2 := h4 _ _ g2
  rw [← Nat.add_assoc] at k1 k2
  exact ⟨g, o, rfl, h4 _ _ g0, k1, k2⟩
theorem act_cells {w W : World} {g o i : Nat} {a : Int × ByteArray × Int} (hb : Below w.heap.size w W) (h : ActAt w g o i a) : W.cell? ⟨g, o + i * 3, none⟩ = some (.int .i64 a.1) ∧ W.cell? ⟨g, o + i * 3 + 1, none⟩ = some (.string a.2.1) ∧ W.cell? ⟨g, o + i * 3 + 2, none⟩ = some (.int .i64 a.2.2) ∧ g < W.heap.size := by
  obtain ⟨h0, h1, h2⟩ := h
  have k0 := (hb.cell (World.block_lt_of_cell? w _ h0)).trans h0
  exact ⟨k0, (hb.cell (World.block_lt_of_cell? w _ h1)).trans h1, (hb.cell (World.block_lt_of_cell? w _ h2)).trans h2, World.block_lt_of_cell? W _ k0⟩
def BuiltR (w : World) (L : Acts) (r : Ending) (w' : World) : Prop := ∃ t T rb vr sz, r = .returned (.tuple #[.pointer (some ⟨t, 0, none⟩), .pointer (some ⟨rb, 0, none⟩)]) ∧ sz ≤ szA L ∧ Two w w' sz t T rb vr (runA L) (runA L)
set_option maxRecDepth 100000 in
set_option maxHeartbeats 8000000 in
theorem built_any (w : World) (hT : Tabs w) (v : Value) (L : Acts) (h : Fl w 3 v L.length (actCells L)) (hN : L.length ≤ 1048576) (hS : szA L ≤ 4000000) (hA1 : ∀ a ∈ L, a.2.1.size ≤ 1048576) :
    Calls Tryd.prog 5 #[v] w (BuiltR w L) := by
  obtain ⟨PP, hPP⟩ : ∃ PP : Ending → World → Prop, (BuiltR w L) = PP := ⟨_, rfl⟩
  rw [hPP]
  have HPP := Lib.hid hPP
  have HT := Lib.hid hT
  have HFL := Lib.hid h
  obtain ⟨q, c, rfl⟩ := h.form
  have HPRE : Hid (∀ (i : Nat) a, L[i]? = some a → (szA (L.take i) + a.2.1.size + 2 ≤ szA L ∧ (runA (L.take i)).length ≤ i ∧ runA (L.take (i + 1)) = stepA (runA (L.take i)) a ∧ szA (L.take (i + 1)) = szA (L.take i) + (a.2.1.size + 2) ∧ a.2.1.size ≤ 1048576)) := fun i a ha => by
    have hil := (List.getElem?_eq_some_iff.1 ha).1
    have e : L.take (i + 1) = L.take i ++ [a] := by rw [List.take_add_one, ha]; rfl
    have e2 : L = L.take i ++ a :: L.drop (i + 1) := by
      have := List.drop_eq_getElem_cons hil
      rw [← (List.getElem?_eq_some_iff.1 ha).2, ← this, List.take_append_drop]
    refine ⟨?_, ?_, by rw [e, runA_snoc], by rw [e, szA_snoc], hA1 a (List.mem_of_getElem? ha)⟩
    · conv => rhs; rw [e2]
      unfold szA
      rw [List.map_append, List.sum_append, List.map_cons, List.sum_cons]
      omega
    · have := (runA_le (L.take i)).1
      rw [List.length_take] at this
      omega
  clear hPP h hT hA1
  go_enter Tryd.func5, Tryd.ntmps5
  go_wp2_with (go_at_call 16; refine (st_new w).mono ?_; rintro e w1 ⟨t, T0, rfl, h1⟩)
  have HS1 := Lib.hid h1
  clear h1
  go_wp2_with fail
  have hA : Below w1.heap.size w1 (w1.alloc (.cells #[.slice none 0 0] 47)) := (Below.refl _ _).alloc (Nat.le_refl _) _
  have HTW0 : Hid (Two w (w1.alloc (.cells #[.slice none 0 0] 47)) 0 t T0 w1.heap.size (.slice none 0 0) [] []) := ⟨HS1.out.below hA, heap_alloc_new w1 _, World.ownsRow_nil _ _ _ _, HS1.out.bel.size⟩
  go_loopw [6] (fun s6 wr => ∃ (i sz : Nat) (T : List Nd) (v' : Value), s6 = .int .i64 (i : Nat) ∧ i ≤ L.length ∧ Hid (sz ≤ szA (L.take i)) ∧ Hid (Two w wr sz t T w1.heap.size v' (runA (L.take i)) (runA (L.take i)))) (fun s6 _ => L.length - (intOf s6).toNat)
  case atStart => exact ⟨0, 0, T0, .slice none 0 0, rfl, Nat.zero_le _, Nat.zero_le _, HTW0.out⟩
  case round =>
    obtain ⟨i, sz, T, v', rfl, hi, HSZ, HTW⟩ := hrel
    by_cases hlt : i < L.length
    · obtain ⟨a, ha⟩ : ∃ a, L[i]? = some a := ⟨_, List.getElem?_eq_getElem hlt⟩
      obtain ⟨g, o, rfl, hact⟩ := act_at HFL.out (by omega) ha
      have HACT := Lib.hid hact
      obtain ⟨e0, e1, e2, hgl⟩ := act_cells HTW.out.st.bel hact
      have hltI : (i : Int) < (L.length : Int) := by omega
      have hi0 : (0 : Int) ≤ (i : Int) := by omega
      obtain ⟨hp1, hp2, hp3, hp4, hsa⟩ := HPRE.out i a ha
      have hszi := HSZ.out
      have HRUN := Lib.hid hp3
      have HSP := Lib.hid hp4
      clear ha hact hp3 hp4
      by_cases hk1 : a.1 = 1
      · have HST : Hid (stepA (runA (L.take i)) a = addS (runA (L.take i)) a.2.1 a.2.2) := by unfold stepA; rw [if_pos hk1]; exact rfl
        have t1 : (a.1 == 1) = true := by simp [hk1]
        have t2 : (a.1 == 2) = false := by simp [hk1]
        clear hk1
        go_wp2_with fail
        go_still_tail 11, (by kernel_rfl)
        change wpList _ _ _ _ _ wr.drew
        have hd1 : Below wr.heap.size wr wr.drew := (Below.refl _ _).drew
        have HTA := Lib.hid (HTW.out.below hd1)
        have e1a := (hd1.cell (p := ⟨g, o + i * 3 + 1, none⟩) hgl).trans e1
        have e2a := (hd1.cell (p := ⟨g, o + i * 3 + 2, none⟩) hgl).trans e2
        have e0a := (hd1.cell (p := ⟨g, o + i * 3, none⟩) hgl).trans e0
        generalize wr.drew = W1 at *
        clear hd1 e0 e1 e2
        go_wp2_with fail
        refine (two_add HTA.out HT.out a.2.1 a.2.2 hsa (by omega) (by omega)).mono ?_
        rintro e W2 ⟨ok1, T1, rfl, -, htw1⟩
        have HTB1 := Lib.hid htw1
        clear htw1
        obtain ⟨f0, f1, f2, hg2⟩ := act_cells HTB1.out.st.bel HACT.out
        go_wp2_with fail
        go_still_tail 11, (by kernel_rfl)
        change wpList _ _ _ _ _ W2.drew
        have hd2 : Below W2.heap.size W2 W2.drew := (Below.refl _ _).drew
        have HTB := Lib.hid (HTB1.out.below hd2)
        generalize W2.drew = W3 at *
        clear hd2 f0 f1 f2 hg2
        go_wp2_with fail
        refine (two_refAdd HTB.out HT.out a.2.1 a.2.2 hsa (by omega)).mono ?_
        rintro e W4 ⟨ok2, v2, rfl, -, htw2⟩
        have HTC := Lib.hid htw2
        clear htw2
        obtain ⟨h0, h1, h2, hg4⟩ := act_cells HTC.out.st.bel HACT.out
        go_wp2_with fail
        go_roundw
        case rel =>
          refine ⟨i + 1, (sz + a.2.1.size + 2), T1, v2, by go_num, by omega, ?_, ?_⟩
          · show (sz + a.2.1.size + 2) ≤ szA (L.take (i + 1))
            rw [HSP.out]
            have := HSZ.out
            omega
          · rw [HRUN.out, HST.out]; exact HTC.out
        case measure => simp [intOf]; omega
      · by_cases hk2 : a.1 = 2
        · have HST : Hid (stepA (runA (L.take i)) a = subS (runA (L.take i)) a.2.1 a.2.2) := by unfold stepA; rw [if_neg hk1, if_pos hk2]; exact rfl
          have t1 : (a.1 == 1) = false := by simp [hk1]
          have t2 : (a.1 == 2) = true := by simp [hk2]
          clear hk1 hk2
          go_wp2_with fail
          go_still_tail 11, (by kernel_rfl)
          change wpList _ _ _ _ _ wr.drew
          have hd1 : Below wr.heap.size wr wr.drew := (Below.refl _ _).drew
          have HTA := Lib.hid (HTW.out.below hd1)
          have e1a := (hd1.cell (p := ⟨g, o + i * 3 + 1, none⟩) hgl).trans e1
          have e2a := (hd1.cell (p := ⟨g, o + i * 3 + 2, none⟩) hgl).trans e2
          have e0a := (hd1.cell (p := ⟨g, o + i * 3, none⟩) hgl).trans e0
          generalize wr.drew = W1 at *
          clear hd1 e0 e1 e2
          go_wp2_with fail
          refine (two_remove HTA.out HT.out a.2.1 a.2.2 hsa (by omega) (by omega)).mono ?_
          rintro e W2 ⟨ok1, T1, rfl, -, htw1⟩
          have HTB1 := Lib.hid htw1
          clear htw1
          obtain ⟨f0, f1, f2, hg2⟩ := act_cells HTB1.out.st.bel HACT.out
          go_wp2_with fail
          go_still_tail 11, (by kernel_rfl)
          change wpList _ _ _ _ _ W2.drew
          have hd2 : Below W2.heap.size W2 W2.drew := (Below.refl _ _).drew
          have HTB := Lib.hid (HTB1.out.below hd2)
          have HTB0 : Hid ((runA (L.take i)).Nodup) := HTA.out.st.of_.nd
          generalize W2.drew = W3 at *
          clear hd2 f0 f1 f2 hg2
          go_wp2_with fail
          refine (two_refRemove HTB.out a.2.1 a.2.2 HTB0.out (by omega)).mono ?_
          rintro e W4 ⟨ok2, v2, rfl, -, htw2⟩
          have HTC := Lib.hid htw2
          clear htw2
          obtain ⟨h0, h1, h2, hg4⟩ := act_cells HTC.out.st.bel HACT.out
          go_wp2_with fail
          go_roundw
          case rel =>
            refine ⟨i + 1, sz, T1, v2, by go_num, by omega, ?_, ?_⟩
            · show sz ≤ szA (L.take (i + 1))
              rw [HSP.out]
              have := HSZ.out
              omega
            · rw [HRUN.out, HST.out]; exact HTC.out
          case measure => simp [intOf]; omega
        · have HST : Hid (stepA (runA (L.take i)) a = runA (L.take i)) := by unfold stepA; rw [if_neg hk1, if_neg hk2]; exact rfl
          have t1 : (a.1 == 1) = false := by simp [hk1]
          have t2 : (a.1 == 2) = false := by simp [hk2]
          clear hk1 hk2
          go_wp2_with fail
          go_roundw
          case rel =>
            refine ⟨i + 1, sz, T, v', by go_num, by omega, ?_, ?_⟩
            · show sz ≤ szA (L.take (i + 1))
              rw [HSP.out]
              have := HSZ.out
              omega
            · rw [HRUN.out, HST.out]; exact HTW.out
          case measure => simp [intOf]; omega
    · have hltI : ¬ ((i : Int) < (L.length : Int)) := by omega
      have hge : i = L.length := by omega
      go_wp2_with fail
      rw [← HPP.out]
      have h1 := HTW.out
      have h2 := HSZ.out
      rw [hge, List.take_length] at h1 h2
      exact ⟨t, T, _, v', sz, rfl, h2, h1⟩

/-- a script that is small enough -/
structure Script (w : World) (v : Value) (L : Acts) : Prop where
  fl : Fl w 3 v L.length (actCells L)
  len : L.length ≤ 1048576
  sz : szA L ≤ 4000000
  each : ∀ a ∈ L, a.2.1.size ≤ 1048576 ∧ (Lit.int .i64 a.2.2).wf = true
/-- names -/
structure Names (w : World) (v : Value) (ns : List ByteArray) : Prop where
  sl : Sl w v ns
  len : ns.length ≤ 1048576
  each : ∀ n ∈ ns, n.size ≤ 1048576
theorem Script.built {w : World} {v : Value} {L : Acts} (h : Script w v L) (hT : Tabs w) : Calls Tryd.prog 5 #[v] w (BuiltR w L) := built_any w hT v L h.fl h.len h.sz fun a ha => (h.each a ha).1
theorem filter_size {f : ByteArray} (h : filterB f = true) : f.size ≤ 65535 := by
  unfold filterB plainB at h
  rw [Bool.and_eq_true, Bool.and_eq_true, Bool.and_eq_true, Bool.and_eq_true] at h
  have h2 := of_decide_eq_true h.1.1.1.2
  have e : f.data.toList.length = f.size := Array.length_toList
  omega
/-- what is known of the list of a script -/
structure Known (l : Subs) : Prop where
  len : l.length ≤ 1048576
  tot : totalS l ≤ 4000000
  wf : ∀ x ∈ l, (Lit.int .i64 x.2).wf = true
  ok : ∀ x ∈ l, filterB x.1 = true
  nd : l.Nodup
theorem Script.known {w w' : World} {v : Value} {L : Acts} (h : Script w v L) {sz t rb : Nat} {T : List Nd} {vr : Value} (hw : Two w w' sz t T rb vr (runA L) (runA L)) : Known (runA L) := by
  obtain ⟨h1, h2, h3⟩ := runA_le L
  refine ⟨Nat.le_trans h1 h.len, Nat.le_trans h2 h.sz, fun x hx => ?_, hw.st.of_.ok, hw.st.of_.nd⟩
  obtain ⟨a, ha, rfl⟩ := h3 x hx
  exact (h.each a ha).2
end Go.Proofs.YtflomcbclofbaaaDoor
