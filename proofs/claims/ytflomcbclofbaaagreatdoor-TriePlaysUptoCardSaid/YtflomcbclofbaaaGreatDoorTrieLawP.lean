/- THE LAW TriePlays. -/
import Derived.Test.YtflomcbclofbaaaGreatDoorTrieAct
namespace Go.Proofs.YtflomcbclofbaaaGreatDoor
open Go Go.RowKit
attribute [local go_sem ↓] Go.wp_at_zero Go.wp_at_succ

theorem szA_take (L : Acts) (i : Nat) : szA (L.take i) ≤ szA L := by
  conv => rhs; rw [← List.take_append_drop i L]
  unfold szA
  rw [List.map_append, List.sum_append]
  omega
theorem Script.part {w w' : World} {v : Value} {L : Acts} (h : Script w v L) (i : Nat) {sz t rb : Nat} {T : List Nd} {vr : Value} (hw : Two w w' sz t T rb vr (runA (L.take i)) (runA (L.take i))) : Known (runA (L.take i)) := by
  obtain ⟨h1, h2, h3⟩ := runA_le (L.take i)
  refine ⟨Nat.le_trans h1 (Nat.le_trans (by rw [List.length_take]; omega) h.len), Nat.le_trans h2 (Nat.le_trans (szA_take L i) h.sz), fun x hx => ?_, hw.st.of_.ok, hw.st.of_.nd⟩
  obtain ⟨a, ha, rfl⟩ := h3 x hx
  exact (h.each a (List.mem_of_mem_take ha)).2
set_option maxRecDepth 100000 in
set_option maxHeartbeats 8000000 in
theorem triePlays_any (w : World) (hT : Tabs w) (v : Value) (L : Acts) (h : Script w v L) :
    Calls Tryz.prog 5 #[v] w fun e w' => e = .returned (.bool true) ∧ Below w.heap.size w w' := by
  obtain ⟨PP, hPP⟩ : ∃ PP : Ending → World → Prop, (fun e w' => e = .returned (.bool true) ∧ Below w.heap.size w w') = PP := ⟨_, rfl⟩
  rw [hPP]
  have HPP := Lib.hid hPP
  have HT := Lib.hid hT
  have HSC := Lib.hid h
  obtain ⟨q, c, rfl⟩ := h.fl.form
  have hLl := h.len
  have hLs := h.sz
  have HPRE : Hid (∀ (i : Nat) a, L[i]? = some a → (szA (L.take i) + a.2.1.size + 2 ≤ szA L ∧ runA (L.take (i + 1)) = stepA (runA (L.take i)) a ∧ szA (L.take (i + 1)) = szA (L.take i) + (a.2.1.size + 2) ∧ a.2.1.size ≤ 1048576)) := fun i a ha => by
    have e : L.take (i + 1) = L.take i ++ [a] := by rw [List.take_add_one, ha]; rfl
    have e2 := szA_take L (i + 1)
    rw [e, szA_snoc] at e2
    exact ⟨by omega, by rw [e, runA_snoc], by rw [e, szA_snoc], (h.each a (List.mem_of_getElem? ha)).1⟩
  clear hPP h hT
  go_enter Tryz.func5, Tryz.ntmps5
  go_wp2_with (go_at_call 8; refine (st_new w).mono ?_; rintro e w1 ⟨t, T0, rfl, h1⟩)
  have HS1 := Lib.hid h1
  clear h1
  go_wp2_with fail
  have hA : Below w1.heap.size w1 (w1.alloc (.cells #[.slice none 0 0] 31)) := (Below.refl _ _).alloc (Nat.le_refl _) _
  have HTW0 : Hid (Two w (w1.alloc (.cells #[.slice none 0 0] 31)) 0 t T0 w1.heap.size (.slice none 0 0) [] []) := ⟨HS1.out.below hA, heap_alloc_new w1 _, World.ownsRow_nil _ _ _ _, HS1.out.bel.size⟩
  go_loopw [5] (fun s5 wr => ∃ (i sz : Nat) (T : List Nd) (v' : Value), s5 = .int .i64 (i : Nat) ∧ i ≤ L.length ∧ Hid (sz ≤ szA (L.take i)) ∧ Hid (Two w wr sz t T w1.heap.size v' (runA (L.take i)) (runA (L.take i)))) (fun s5 _ => L.length - (intOf s5).toNat)
  case atStart => exact ⟨0, 0, T0, .slice none 0 0, rfl, Nat.zero_le _, Nat.zero_le _, HTW0.out⟩
  case round =>
    obtain ⟨i, sz, T, v', rfl, hi, HSZ, HTW⟩ := hrel
    have HKN := Lib.hid (HSC.out.part i HTW.out)
    have hszi : sz ≤ 4000000 := Nat.le_trans HSZ.out (Nat.le_trans (szA_take L i) hLs)
    by_cases hlt : i < L.length
    · obtain ⟨a, ha⟩ : ∃ a, L[i]? = some a := ⟨_, List.getElem?_eq_getElem hlt⟩
      obtain ⟨g, o, rfl, hact⟩ := act_at HSC.out.fl (by omega) ha
      obtain ⟨e0, e1, e2, hgl⟩ := act_cells HTW.out.st.bel hact
      have hltI : (i : Int) < (L.length : Int) := by omega
      have hi0 : (0 : Int) ≤ (i : Int) := by omega
      obtain ⟨hp1, hp3, hp4, hsa⟩ := HPRE.out i a ha
      have HRUN := Lib.hid hp3
      have HSP := Lib.hid hp4
      clear ha hact hp3 hp4
      go_wp2_with fail
      refine (act_any w wr HT.out sz t w1.heap.size T v' (runA (L.take i)) a.1 a.2.2 a.2.1 HTW.out HKN.out hsa hszi).mono ?_
      rintro e w5 ⟨rfl, sz5, T5, v5, hsz5, htw5⟩
      have HTW5 := Lib.hid (show Two w w5 sz5 t T5 w1.heap.size v5 (runA (L.take (i + 1))) (runA (L.take (i + 1))) by rw [HRUN.out]; exact htw5)
      have HS5 : Hid (sz5 ≤ szA (L.take (i + 1))) := by
        show sz5 ≤ szA (L.take (i + 1))
        rw [HSP.out]
        have := HSZ.out
        omega
      clear htw5 hsz5
      go_wp2_with fail
      go_roundw
      case rel => exact ⟨i + 1, sz5, T5, v5, by go_num, by omega, HS5.out, HTW5.out⟩
      case measure => simp [intOf]; omega
    · have hltI : ¬ ((i : Int) < (L.length : Int)) := by omega
      have hll := HKN.out.len
      have htl := HKN.out.tot
      have HFZ : Hid (∀ x ∈ runA (L.take i), x.1.size ≤ 900000) := fun x hx => Nat.le_trans (filter_size (HKN.out.ok x hx)) (by omega)
      go_wp2_with fail
      refine (whole_any wr _ _ sz t w1.heap.size T v' (runA (L.take i)) (runA (L.take i)) HTW.out.st.of_ HTW.out.rl (fun x => Iff.rfl) HKN.out.nd hll htl htl HFZ.out).mono ?_
      rintro e w7 ⟨rfl, hb7⟩
      have HO7 := Lib.hid (HTW.out.below hb7)
      clear hb7
      go_wp2_with fail
      refine (awake_any w7 (HO7.out.st.tabs HT.out)).mono ?_
      rintro e w8 ⟨rfl, hb8⟩
      have HO8 := Lib.hid (HO7.out.below hb8)
      clear hb8
      go_wp2_with fail
      rw [← HPP.out]
      exact ⟨rfl, HO8.out.st.bel⟩
end Go.Proofs.YtflomcbclofbaaaGreatDoor
