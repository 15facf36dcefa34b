/- TRIE: the map that match fills; its closure. -/
import Derived.Deep.QuietTactic
import Derived.BigQuiet
import Derived.Deep.DrawnRows
import Derived.Test.YtflomcbclofbaaaDoorTrieAddW
namespace Go.Proofs.YtflomcbclofbaaaDoor
open Go Go.RowKit
attribute [local go_sem ↓] Go.wp_at_zero Go.wp_at_succ

theorem nodup_le {α : Type} : ∀ {l m : List α}, l.Nodup → (∀ x ∈ l, x ∈ m) → l.length ≤ m.length := by
  classical
  intro l
  induction l with
  | nil => intro m _ _; exact Nat.zero_le _
  | cons x l ih =>
    intro m h hs
    rw [List.nodup_cons] at h
    have hx := hs x (List.mem_cons_self ..)
    have h1 := ih (m := m.erase x) h.2 (fun y hy => (List.mem_erase_of_ne (fun e => h.1 (by rw [← e]; exact hy))).2 (hs y (List.mem_cons_of_mem _ hy)))
    have h2 := List.length_erase_of_mem hx
    have h3 := List.length_pos_of_mem hx
    rw [List.length_cons]
    omega
def inF (D : DataW Unit) (z : Int) : Bool := Maps.has D (.int .i64 z)
/-- a map of numbers to counts, whose keys are of A -/
structure FM (W : World) (mb : Nat) (D : DataW Unit) (A : List Int) : Prop where
  own : W.ownsMap Tryd.prog 3 (plainElem Tryd.prog 3) mb (Maps.size D) D
  keys : ∀ k, Maps.has D k = true → ∃ z ∈ A, k = .int .i64 z
theorem int_keys : Maps.Keyed Tryd.prog 3 := Maps.int_keyed Tryd.underlying3
theorem own_tight {H : Type} {W : World} {P : Program} {k : TypeId} {R : Value → Option (DataW H × List MemPlace)} {b n : Nat} {D : DataW H} (h : W.ownsMap P k R b n D) : W.ownsMap P k R b (Maps.size D) D := by
  obtain ⟨es, clock, h1, h2, h3, rfl⟩ := h
  refine ⟨es, clock, h1, h2, ?_, rfl⟩
  have e1 := length_read (P := P) (k := k) (R0 := R) es
  show es.size ≤ List.length _
  rw [e1]
  exact Nat.le_refl _
theorem FM.size {W : World} {mb : Nat} {D : DataW Unit} {A : List Int} (h : FM W mb D A) : Maps.size D ≤ A.length := by
  obtain ⟨es, rfl, hp, hk⟩ := h.own.entries int_keys
  have hnd : (es.map (·.1)).Nodup := List.pairwise_map.2 hp
  have h1 : ∀ k ∈ es.map (·.1), k ∈ A.map (Lit.int .i64) := by
    intro k hk1
    obtain ⟨p, hp1, rfl⟩ := List.mem_map.1 hk1
    obtain ⟨z, hz, e⟩ := h.keys p.1 (by
      rw [Maps.has_eq, List.any_eq_true]
      exact ⟨p, hp1, WideAt.sameKey_self (hk p hp1)⟩)
    rw [e]
    exact List.mem_map_of_mem hz
  have := nodup_le hnd h1
  simpa [Maps.size_eq] using this
theorem wrap_wf (c : Int) : (Lit.int .i64 (wrap64 c)).wf = true := by
  simp only [Lit.wf, Bool.and_eq_true, decide_eq_true_eq]
  constructor
  · show -9223372036854775808 ≤ wrap64 c
    unfold wrap64; omega
  · show wrap64 c ≤ 9223372036854775807
    unfold wrap64; omega
theorem inF_put {D : DataW Unit} (hD : Maps.IsMap D) (z y : Int) (d : DataW Unit) : inF (D.put (.int .i64 z) d) y = true ↔ y = z ∨ inF D y = true := by
  unfold inF
  by_cases h : y = z
  · subst h
    rw [Maps.has_put_same hD (show WideAt.IsKeyLit (.int .i64 y) from trivial)]
    simp
  · rw [Maps.has_put_other (fun e => h (by injection e))]
    simp [h]
theorem FM.look {W : World} {mb : Nat} {D : DataW Unit} {A : List Int} (h : FM W mb D A) {z : Int} (hz : (Lit.int .i64 z).wf = true) : ∃ c, (Instr.lookup 57 (.map (some mb)) (.int .i64 z) false).run Tryd.prog W = .ok (.int .i64 c) W := by
  obtain ⟨c, h1, -⟩ := h.own.lookup_int (t := 57) (e := 3) int_keys Tryd.underlying57 Tryd.underlying3 (by kernel_rfl) (Maps.keyOf_int_mk Tryd.underlying3 hz)
  exact ⟨c, h1⟩
theorem FM.store {W : World} {mb : Nat} {D : DataW Unit} {A : List Int} (h : FM W mb D A) (hA : A.length ≤ 100000000) {z : Int} (hzA : z ∈ A) (hz : (Lit.int .i64 z).wf = true) (c : Int) :
    ∃ W' D', (Instr.mapUpdate 57 (.map (some mb)) (.int .i64 z) (.int .i64 (wrap64 c))).run Tryd.prog W = .ok () W' ∧ FM W' mb D' A ∧ (∀ y, inF D' y = true ↔ y = z ∨ inF D y = true) ∧ W.grownBy W' (some mb) := by
  obtain ⟨W', h1, h2, h3⟩ := h.own.update (t := 57) (e := 3) int_keys Tryd.underlying57 (by have := h.size; unfold maxLen; omega) (Maps.keyOf_int_mk Tryd.underlying3 hz) (plainElem_int Tryd.underlying3 (wrap_wf c))
  refine ⟨W', _, h1, ⟨own_tight h2, fun k hk => ?_⟩, fun y => inF_put h.own.isMap z y _, h3⟩
  by_cases e : k = .int .i64 z
  · exact ⟨z, hzA, e⟩
  · rw [Maps.has_put_other e] at hk
    exact h.keys k hk
theorem FM.kept {W W' : World} {mb : Nat} {D : DataW Unit} {A : List Int} (h : FM W mb D A) (hb : W'.heap[mb]? = W.heap[mb]?) : FM W' mb D A := by
  obtain ⟨es, clock, h1, h2⟩ := h.own
  exact ⟨⟨es, clock, hb.trans h1, h2⟩, h.keys⟩
theorem FM.lt {W : World} {mb : Nat} {D : DataW Unit} {A : List Int} (h : FM W mb D A) : mb < W.heap.size := h.own.lt
/-- the closure puts a node's numbers in -/
def FoundPost (w : World) (mb : Nat) (D : DataW Unit) (A : List Int) (S : Int → Prop) (r : Ending) (w' : World) : Prop :=
  r = .returned (.tuple #[]) ∧ ∃ D', FM w' mb D' A ∧ (∀ y, inF D' y = true ↔ inF D y = true ∨ S y) ∧ Frame (fun b => b = mb) w w'
theorem fput_nil (w : World) (bb mb : Nat) (D : DataW Unit) (A : List Int) (hF : FM w mb D A) :
    Calls Tryd.prog 42 #[.pointer none, .pointer (some ⟨bb, 0, none⟩)] w (FoundPost w mb D A (fun _ => False)) := by
  obtain ⟨PP, hPP⟩ : ∃ PP, FoundPost w mb D A (fun _ => False) = PP := ⟨_, rfl⟩
  rw [hPP]
  have HPP := Lib.hid hPP
  have HF := Lib.hid hF
  clear hPP hF
  go_enter Tryd.func42, Tryd.ntmps42
  go_wp2_with fail
  refine bodyPost_ret (v := .tuple #[]) (by simp [results, Tryd.results42]) rfl ?_
  rw [← HPP.out]
  exact ⟨rfl, D, HF.out, fun y => by simp, ⟨rfl, rfl, rfl, Nat.le_refl _, fun _ _ _ => rfl⟩⟩
set_option maxRecDepth 100000 in
set_option maxHeartbeats 4000000 in
theorem fput_any (w : World) (base sz bb mb : Nat) (x : Nd) (D : DataW Unit) (A : List Int) (hF : FM w mb D A) (hbox : w.heap[bb]? = some (.cells #[.map (some mb)] 57 (0, 0))) (h : NdIs w base sz x) (hm : mb ∉ x.blocks) (hA : A.length ≤ 100000000) (hx : ∀ z ∈ x.ids, z ∈ A) (hw : ∀ z ∈ A, (Lit.int .i64 z).wf = true) (hn : x.ids.length ≤ 100000000) :
    Calls Tryd.prog 42 #[.pointer (some ⟨x.a, 0, none⟩), .pointer (some ⟨bb, 0, none⟩)] w (FoundPost w mb D A (fun y => y ∈ x.ids)) := by
  obtain ⟨PP, hPP⟩ : ∃ PP, FoundPost w mb D A (fun y => y ∈ x.ids) = PP := ⟨_, rfl⟩
  rw [hPP]
  have HPP := Lib.hid hPP
  have HF := Lib.hid hF
  have HX := Lib.hid hx
  have HW := Lib.hid hw
  have HN := Lib.hid h
  have HBX := Lib.hid hbox
  have c0 : w.cell? ⟨x.a, 0, none⟩ = some x.v := by rw [cell_of_row w x.a 0 _ _ _ h.box]; rfl
  have hl := (Array.getElem?_eq_some_iff.1 h.box).1
  have hbm : bb ≠ mb := by
    obtain ⟨es, clock, h1, -⟩ := hF.own
    rintro rfl
    rw [hbox] at h1
    cases h1
  have HBM := Lib.hid hbm
  have HM := Lib.hid hm
  obtain ⟨q, n, c, hv⟩ : ∃ q n c, x.v = .slice q n c := by
    rcases IRow.form (show IRow w base x.v x.ids from h.row) with ⟨h1, -⟩ | ⟨g, cap, cur, h1, -⟩
    · exact ⟨_, _, _, h1⟩
    · exact ⟨_, _, _, h1⟩
  have hlen : n = x.ids.length := by
    rcases IRow.form (show IRow w base x.v x.ids from h.row) with ⟨h1, h2⟩ | ⟨g, cap, cur, h1, -⟩
    · rw [hv] at h1; injection h1 with _ h3 _; rw [h3, h2]; rfl
    · rw [hv] at h1; injection h1
  rw [hv] at c0
  have HV := Lib.hid hv
  obtain rfl := hlen
  clear hPP hF hx hw h hbox hbm hm hv
  go_enter Tryd.func42, Tryd.ntmps42
  go_wp2_with fail
  go_loopw [4, 13] (fun s4 s13 wr => ∃ (i : Nat) (D' : DataW Unit), s13 = .int .i64 (i : Nat) ∧ i ≤ x.ids.length ∧ Hid (FM wr mb D' A) ∧ Hid (∀ y, inF D' y = true ↔ inF D y = true ∨ y ∈ x.ids.take i) ∧ Hid (Frame (fun b => b = mb) w wr)) (fun _ s13 _ => x.ids.length - (intOf s13).toNat)
  case atStart => exact ⟨0, D, rfl, Nat.zero_le _, HF.out, fun y => by simp, ⟨rfl, rfl, rfl, Nat.le_refl _, fun _ _ _ => rfl⟩⟩
  case round =>
    obtain ⟨i, D', rfl, hi, HF', HD', HFR⟩ := hrel
    by_cases hlt : i < x.ids.length
    · obtain ⟨z, hz⟩ : ∃ z, x.ids[i]? = some z := ⟨_, List.getElem?_eq_getElem hlt⟩
      have hzm := List.mem_of_getElem? hz
      have hwz := HW.out z (HX.out z hzm)
      have hold : ∀ b, b < w.heap.size → b ≠ mb → wr.heap[b]? = w.heap[b]? := fun b hb hne => HFR.out.block b hb hne
      obtain ⟨g, hq, hgl, hcz⟩ : ∃ g, q = some ⟨g, 0, none⟩ ∧ g < w.heap.size ∧ wr.cell? ⟨g, i, none⟩ = some (.int .i64 z) := by
        rcases IRow.form (show IRow w base x.v x.ids from HN.out.row) with ⟨h1, h2⟩ | ⟨g, cap, cur, h1, -, hgl, -, -, -, -, -, hc⟩
        · rw [h2] at hlt; simp at hlt
        · rw [HV.out] at h1
          injection h1 with h1 _ _
          refine ⟨g, h1, hgl, ?_⟩
          have hgm : g ≠ mb := fun e => HM.out (by rw [mem_blocks, HV.out, h1, e]; exact .inr (.inr rfl))
          have h3 := hc i hlt
          rw [show x.ids.getD i 0 = z by unfold List.getD; rw [hz]; rfl] at h3
          rw [← h3]
          exact World.cell?_of_block (hold g hgl hgm)
      subst hq
      have hbb : wr.heap[bb]? = some (.cells #[.map (some mb)] 57 (0, 0)) := (hold bb (Array.getElem?_eq_some_iff.1 HBX.out).1 HBM.out).trans HBX.out
      have cb : wr.cell? ⟨bb, 0, none⟩ = some (.map (some mb)) := by rw [cell_of_row wr bb 0 _ _ _ hbb]; rfl
      have hbl := (Array.getElem?_eq_some_iff.1 hbb).1
      have hgl2 := World.block_lt_of_cell? wr _ hcz
      obtain ⟨cc, hlk⟩ := HF'.out.look hwz
      obtain ⟨w2, D2, hst, hF2, hD2, hg2⟩ := HF'.out.store hA (HX.out z hzm) hwz (cc + 1)
      have hltI : (i : Int) < (x.ids.length : Int) := by omega
      have hi0 : (0 : Int) ≤ (i : Int) := by omega
      have HF2 := Lib.hid hF2
      have HD2 := Lib.hid hD2
      have HG2 := Lib.hid hg2
      have HZ := Lib.hid hz
      clear hz hold hbb hF2 hD2 hg2 hzm hwz
      go_wp2_with fail
      go_roundw
      case rel =>
        refine ⟨i + 1, D2, by go_num, by omega, HF2.out, fun y => ?_, HFR.out.trans (Frame.of_grown HG2.out (fun b e => by injection e with e; exact .inl e.symm))⟩
        rw [HD2.out, HD'.out, List.take_add_one, HZ.out]
        simp only [Option.toList, List.mem_append, List.mem_singleton]
        constructor
        · rintro (h | h | h)
          · exact .inr (.inr h)
          · exact .inl h
          · exact .inr (.inl h)
        · rintro (h | h | h)
          · exact .inr (.inl h)
          · exact .inr (.inr h)
          · exact .inl h
      case measure => simp [intOf]; omega
    · have hnI : ¬ (i : Int) < (x.ids.length : Int) := by omega
      go_wp2_with fail
      refine bodyPost_ret (v := .tuple #[]) (by simp [results, Tryd.results42]) rfl ?_
      rw [← HPP.out]
      refine ⟨rfl, D', HF'.out, fun y => ?_, HFR.out⟩
      rw [HD'.out, List.take_of_length_le (by omega)]
end Go.Proofs.YtflomcbclofbaaaDoor
