/- TRIE: the reference's list: Match. TRIE: the reference's list: Under. TRIE: the reference's list: Filters. TRIE: the reference's common. TRIE: the reference's Nodes. -/
import Derived.Test.YtflomcbclofbaaaGreatDoorTrieRput
namespace Go.Proofs.YtflomcbclofbaaaGreatDoor
open Go Go.RowKit
attribute [local go_sem ↓] Go.wp_at_zero Go.wp_at_succ

theorem RL.at_ {W : World} {base rb n c : Nat} {q : Option Addr} {l : Subs} (h : RL W base rb (.slice q n c) l) {i : Nat} {x : ByteArray × Int} (hx : l[i]? = some x) : ∃ g, q = some ⟨g, 0, none⟩ ∧ W.cell? ⟨g, i * 2, none⟩ = some (.string x.1) ∧ W.cell? ⟨g, i * 2 + 1, none⟩ = some (.int .i64 x.2) := by
  have hlt := (List.getElem?_eq_some_iff.1 hx).1
  rcases h.row.2 with ⟨h1, h2⟩ | ⟨g, cap, cur, h1, -⟩
  · omega
  · injection h1 with h1 h2 h3
    subst h1; subst h2; subst h3
    obtain ⟨g1, g2⟩ := subCells_get l i x hx
    have hg1 := h.row.cellAt (i * 2) (by omega)
    have hg2 := h.row.cellAt (i * 2 + 1) (by omega)
    rw [g1] at hg1
    rw [g2] at hg2
    exact ⟨g, rfl, hg1, hg2⟩
theorem RL.form {W : World} {base rb : Nat} {v : Value} {l : Subs} (h : RL W base rb v l) : ∃ q c, v = .slice q l.length c := (Fl.of_own h.row).form
theorem RL.cell0 {W : World} {base rb : Nat} {v : Value} {l : Subs} (h : RL W base rb v l) : W.cell? ⟨rb, 0, none⟩ = some v := by rw [cell_of_row W rb 0 _ _ _ h.box]; rfl
theorem take_snoc_mem {α : Type} {l : List α} {i : Nat} {x : α} (hx : l[i]? = some x) (y : α) : y ∈ l.take (i + 1) ↔ y ∈ l.take i ∨ y = x := by
  rw [List.take_add_one, hx, Option.toList_some, List.mem_append, List.mem_singleton]
set_option maxRecDepth 100000 in
set_option maxHeartbeats 8000000 in
theorem refListMatch_any (w : World) (base rb : Nat) (v : Value) (l : Subs) (f : ByteArray) (h : RL w base rb v l) (hl : l.length ≤ 100000000) (hT : Tabs w) (hfs : f.size ≤ 1048576) (hsz : ∀ x ∈ l, x.1.size ≤ 1048576) :
    Calls Tryz.prog 40 #[.pointer (some ⟨rb, 0, none⟩), .string f] w fun e w' => (∃ v' ids, e = .returned v' ∧ IS w' v' ids ∧ ids.Pairwise (fun a b : Int => a < b) ∧ ids.length ≤ l.length ∧ ∀ z, z ∈ ids ↔ ∃ f', (f', z) ∈ l ∧ matchB f' f = true) ∧ Below w.heap.size w w' := by
  obtain ⟨PP, hPP⟩ : ∃ PP : Ending → World → Prop, (fun e w' => (∃ v' ids, e = .returned v' ∧ IS w' v' ids ∧ ids.Pairwise (fun a b : Int => a < b) ∧ ids.length ≤ l.length ∧ ∀ z, z ∈ ids ↔ ∃ f', (f', z) ∈ l ∧ matchB f' f = true) ∧ Below w.heap.size w w') = PP := ⟨_, rfl⟩
  rw [hPP]
  have HPP := Lib.hid hPP
  have HR := Lib.hid h
  obtain ⟨q, c, rfl⟩ := h.form
  have c0 := h.cell0
  have hb := World.block_lt_of_cell? w _ c0
  have HSZ : Hid (∀ {i : Nat} (x : ByteArray × Int), l[i]? = some x → x.1.size ≤ 1048576) := fun x hx => hsz x (List.mem_of_getElem? hx)
  clear hsz
  clear hPP h
  go_enter Tryz.func40, Tryz.ntmps40
  go_wp2_with fail
  go_loopw [5, 6] (fun so si wr => ∃ (i : Nat) (q2 : Option Addr) (c2 : Nat) (ids : List Int), so = .slice q2 ids.length c2 ∧ si = .int .i64 (i : Nat) ∧ i ≤ l.length ∧ Hid (IS wr (.slice q2 ids.length c2) ids) ∧ Hid (ids.Pairwise (fun a b : Int => a < b)) ∧ Hid (∀ z, z ∈ ids ↔ ∃ f', (f', z) ∈ l.take i ∧ matchB f' f = true) ∧ ids.length ≤ i ∧ Hid (Below w.heap.size w wr)) (fun _ si _ => l.length - (intOf si).toNat)
  case atStart => exact ⟨0, none, 0, [], rfl, rfl, Nat.zero_le _, ⟨none, 0, rfl, Nat.le_refl _, by omega, .inl rfl⟩, List.Pairwise.nil, fun z => by simp, Nat.le_refl _, Below.refl _ _⟩
  case round =>
    obtain ⟨i, q2, c2, ids, rfl, rfl, hi, hS, hW, hM, hL, hB⟩ := hrel
    have k0 := (hB.out.cell (p := ⟨rb, 0, none⟩) hb).trans c0
    have kb : rb < wr.heap.size := World.block_lt_of_cell? wr _ k0
    by_cases hlt : i < l.length
    · obtain ⟨x, hx⟩ : ∃ x, l[i]? = some x := ⟨_, List.getElem?_eq_getElem hlt⟩
      obtain ⟨g, rfl, e1', e2'⟩ := HR.out.at_ hx
      have e1 := (hB.out.cell (World.block_lt_of_cell? w _ e1')).trans e1'
      have e2 := (hB.out.cell (World.block_lt_of_cell? w _ e2')).trans e2'
      have hgl : g < wr.heap.size := World.block_lt_of_cell? wr _ e1
      have hltI : (i : Int) < (l.length : Int) := by omega
      have hi0 : (0 : Int) ≤ (i : Int) := by omega
      have HTM := Lib.hid (take_snoc_mem hx)
      have HX := Lib.hid hx
      clear hx e1' e2'
      cases hm : matchB x.1 f with
      | false =>
        have HNO : Hid (¬ matchB x.1 f = true) := by rw [hm]; exact Bool.false_ne_true
        have CM := refMatch_any valid_said x.1 f wr (HSZ.out _ HX.out) hfs (hT.below hB.out)
        rw [hm] at CM
        have CM' := Lib.hid CM
        clear CM hm
        go_wp2_with (go_at_call 19; refine CM'.out.mono ?_; rintro e w1 ⟨rfl, hb1⟩; have HB1 := Lib.hid (hB.out.trans (hb1.mono hB.out.size)); have HS1 := Lib.hid (IS.below hS.out hb1); clear hb1)
        go_roundw
        case rel =>
          refine ⟨i + 1, q2, c2, ids, rfl, by go_num, by omega, HS1.out, hW.out, fun z => ?_, by omega, HB1.out⟩
          rw [hM.out]
          constructor
          · rintro ⟨f', h1, h2⟩; exact ⟨f', (HTM.out _).2 (.inl h1), h2⟩
          · rintro ⟨f', h1, h2⟩
            rcases (HTM.out _).1 h1 with h1 | h1
            · exact ⟨f', h1, h2⟩
            · exact absurd h2 (by subst h1; exact HNO.out)
        case measure => simp [intOf]; omega
      | true =>
        have HYES : Hid (matchB x.1 f = true) := hm
        have CM := refMatch_any valid_said x.1 f wr (HSZ.out _ HX.out) hfs (hT.below hB.out)
        rw [hm] at CM
        have CM' := Lib.hid CM
        clear CM hm
        go_wp2_with (go_at_call 19; refine CM'.out.mono ?_; rintro e w1 ⟨rfl, hb1⟩; have HB1 := Lib.hid (hB.out.trans (hb1.mono hB.out.size)); have HS1 := Lib.hid (IS.below hS.out hb1); have k1 := (hb1.cell (p := ⟨rb, 0, none⟩) kb).trans k0; have e3 := (hb1.cell (p := ⟨g, i * 2 + 1, none⟩) hgl).trans e2; have kb1 : rb < w1.heap.size := World.block_lt_of_cell? w1 _ k1; have hgl1 : g < w1.heap.size := World.block_lt_of_cell? w1 _ e3; clear hb1)
        have HMEM : Hid (∀ z, z ∈ putL (fun a b : Int => a < b) ids x.2 ↔ ∃ f', (f', z) ∈ l.take (i + 1) ∧ matchB f' f = true) := fun z => by
          rw [putL_mem, hM.out]
          constructor
          · rintro (h1 | ⟨f', h1, h2⟩)
            · subst h1; exact ⟨x.1, (HTM.out _).2 (.inr rfl), HYES.out⟩
            · exact ⟨f', (HTM.out _).2 (.inl h1), h2⟩
          · rintro ⟨f', h1, h2⟩
            rcases (HTM.out _).1 h1 with h1 | h1
            · exact .inr ⟨f', h1, h2⟩
            · exact .inl (by subst h1; rfl)
        have HWP := Lib.hid (putL_sorted ord_int hW.out x.2)
        have hLP := putL_len (lt := fun a b : Int => a < b) ids x.2
        go_wp2_with fail
        refine (refPut_any w1 _ ids x.2 HS1.out hW.out (by omega)).mono ?_
        rintro e wp ⟨⟨vp, rfl, hp⟩, hbp⟩
        obtain ⟨qp, cp, rfl⟩ : ∃ qp cp, vp = .slice qp (putL (fun a b : Int => a < b) ids x.2).length cp := (IS_fl hp).form
        have HBP := Lib.hid (HB1.out.trans (hbp.mono HB1.out.size))
        have HP := Lib.hid hp
        clear hbp hp
        generalize putL (fun a b : Int => a < b) ids x.2 = idp at *
        go_wp2_with fail
        go_roundw
        case rel => exact ⟨i + 1, qp, cp, idp, rfl, by go_num, by omega, HP.out, HWP.out, HMEM.out, by omega, HBP.out⟩
        case measure => simp [intOf]; omega
    · have hltI : ¬ ((i : Int) < (l.length : Int)) := by omega
      have hge : i = l.length := by omega
      go_wp2_with fail
      rw [← HPP.out]
      refine ⟨⟨_, ids, rfl, hS.out, hW.out, by omega, fun z => ?_⟩, hB.out⟩
      have h1 := hM.out z
      rw [hge, List.take_length] at h1
      exact h1

set_option maxRecDepth 100000 in
set_option maxHeartbeats 8000000 in
theorem refListUnder_any (w : World) (base rb : Nat) (v : Value) (l : Subs) (f : ByteArray) (h : RL w base rb v l) (hl : l.length ≤ 100000000) :
    Calls Tryz.prog 41 #[.pointer (some ⟨rb, 0, none⟩), .string f] w fun e w' => (∃ v' ids, e = .returned v' ∧ IS w' v' ids ∧ ids.Pairwise (fun a b : Int => a < b) ∧ ids.length ≤ l.length ∧ ∀ z, z ∈ ids ↔ ∃ f', (f', z) ∈ l ∧ f' = f) ∧ Below w.heap.size w w' := by
  obtain ⟨PP, hPP⟩ : ∃ PP : Ending → World → Prop, (fun e w' => (∃ v' ids, e = .returned v' ∧ IS w' v' ids ∧ ids.Pairwise (fun a b : Int => a < b) ∧ ids.length ≤ l.length ∧ ∀ z, z ∈ ids ↔ ∃ f', (f', z) ∈ l ∧ f' = f) ∧ Below w.heap.size w w') = PP := ⟨_, rfl⟩
  rw [hPP]
  have HPP := Lib.hid hPP
  have HR := Lib.hid h
  obtain ⟨q, c, rfl⟩ := h.form
  have c0 := h.cell0
  have hb := World.block_lt_of_cell? w _ c0
  clear hPP h
  go_enter Tryz.func41, Tryz.ntmps41
  go_wp2_with fail
  go_loopw [5, 6] (fun so si wr => ∃ (i : Nat) (q2 : Option Addr) (c2 : Nat) (ids : List Int), so = .slice q2 ids.length c2 ∧ si = .int .i64 (i : Nat) ∧ i ≤ l.length ∧ Hid (IS wr (.slice q2 ids.length c2) ids) ∧ Hid (ids.Pairwise (fun a b : Int => a < b)) ∧ Hid (∀ z, z ∈ ids ↔ ∃ f', (f', z) ∈ l.take i ∧ f' = f) ∧ ids.length ≤ i ∧ Hid (Below w.heap.size w wr)) (fun _ si _ => l.length - (intOf si).toNat)
  case atStart => exact ⟨0, none, 0, [], rfl, rfl, Nat.zero_le _, ⟨none, 0, rfl, Nat.le_refl _, by omega, .inl rfl⟩, List.Pairwise.nil, fun z => by simp, Nat.le_refl _, Below.refl _ _⟩
  case round =>
    obtain ⟨i, q2, c2, ids, rfl, rfl, hi, hS, hW, hM, hL, hB⟩ := hrel
    have k0 := (hB.out.cell (p := ⟨rb, 0, none⟩) hb).trans c0
    have kb : rb < wr.heap.size := World.block_lt_of_cell? wr _ k0
    by_cases hlt : i < l.length
    · obtain ⟨x, hx⟩ : ∃ x, l[i]? = some x := ⟨_, List.getElem?_eq_getElem hlt⟩
      obtain ⟨g, rfl, e1', e2'⟩ := HR.out.at_ hx
      have e1 := (hB.out.cell (World.block_lt_of_cell? w _ e1')).trans e1'
      have e2 := (hB.out.cell (World.block_lt_of_cell? w _ e2')).trans e2'
      have hgl : g < wr.heap.size := World.block_lt_of_cell? wr _ e1
      have hltI : (i : Int) < (l.length : Int) := by omega
      have hi0 : (0 : Int) ≤ (i : Int) := by omega
      have HTM := Lib.hid (take_snoc_mem hx)
      have HX := Lib.hid hx
      clear hx e1' e2'
      by_cases hm : x.1 = f
      · have t1 : (x.1.toList == f.toList) = true := is_same.2 hm
        have HYES : Hid (x.1 = f) := hm
        clear hm
        have HMEM : Hid (∀ z, z ∈ putL (fun a b : Int => a < b) ids x.2 ↔ ∃ f', (f', z) ∈ l.take (i + 1) ∧ f' = f) := fun z => by
          rw [putL_mem, hM.out]
          constructor
          · rintro (h1 | ⟨f', h1, h2⟩)
            · subst h1; exact ⟨x.1, (HTM.out _).2 (.inr rfl), HYES.out⟩
            · exact ⟨f', (HTM.out _).2 (.inl h1), h2⟩
          · rintro ⟨f', h1, h2⟩
            rcases (HTM.out _).1 h1 with h1 | h1
            · exact .inr ⟨f', h1, h2⟩
            · exact .inl (by subst h1; rfl)
        have HWP := Lib.hid (putL_sorted ord_int hW.out x.2)
        have hLP := putL_len (lt := fun a b : Int => a < b) ids x.2
        go_wp2_with fail
        refine (refPut_any wr _ ids x.2 hS.out hW.out (by omega)).mono ?_
        rintro e wp ⟨⟨vp, rfl, hp⟩, hbp⟩
        obtain ⟨qp, cp, rfl⟩ : ∃ qp cp, vp = .slice qp (putL (fun a b : Int => a < b) ids x.2).length cp := (IS_fl hp).form
        have HBP := Lib.hid (hB.out.trans (hbp.mono hB.out.size))
        have HP := Lib.hid hp
        clear hbp hp
        generalize putL (fun a b : Int => a < b) ids x.2 = idp at *
        go_wp2_with fail
        go_roundw
        case rel => exact ⟨i + 1, qp, cp, idp, rfl, by go_num, by omega, HP.out, HWP.out, HMEM.out, by omega, HBP.out⟩
        case measure => simp [intOf]; omega
      · have t1 : (x.1.toList == f.toList) = false := by
          cases h : (x.1.toList == f.toList)
          · rfl
          · exact absurd (is_same.1 h) hm
        have HNO : Hid (¬ x.1 = f) := hm
        clear hm
        go_wp2_with fail
        go_roundw
        case rel =>
          refine ⟨i + 1, q2, c2, ids, rfl, by go_num, by omega, hS.out, hW.out, fun z => ?_, by omega, hB.out⟩
          rw [hM.out]
          constructor
          · rintro ⟨f', h1, h2⟩; exact ⟨f', (HTM.out _).2 (.inl h1), h2⟩
          · rintro ⟨f', h1, h2⟩
            rcases (HTM.out _).1 h1 with h1 | h1
            · exact ⟨f', h1, h2⟩
            · exact absurd h2 (by subst h1; exact HNO.out)
        case measure => simp [intOf]; omega
    · have hltI : ¬ ((i : Int) < (l.length : Int)) := by omega
      have hge : i = l.length := by omega
      go_wp2_with fail
      rw [← HPP.out]
      refine ⟨⟨_, ids, rfl, hS.out, hW.out, by omega, fun z => ?_⟩, hB.out⟩
      have h1 := hM.out z
      rw [hge, List.take_length] at h1
      exact h1

set_option maxRecDepth 100000 in
set_option maxHeartbeats 8000000 in
theorem refListFilters_any (w : World) (base rb : Nat) (v : Value) (l : Subs) (h : RL w base rb v l) (hl : l.length ≤ 100000000) :
    Calls Tryz.prog 32 #[.pointer (some ⟨rb, 0, none⟩)] w fun e w' => (∃ v' ids, e = .returned v' ∧ Sl w' v' ids ∧ ids.Pairwise ltB ∧ ids.length ≤ l.length ∧ ∀ z, z ∈ ids ↔ ∃ y, (z, y) ∈ l) ∧ Below w.heap.size w w' := by
  obtain ⟨PP, hPP⟩ : ∃ PP : Ending → World → Prop, (fun e w' => (∃ v' ids, e = .returned v' ∧ Sl w' v' ids ∧ ids.Pairwise ltB ∧ ids.length ≤ l.length ∧ ∀ z, z ∈ ids ↔ ∃ y, (z, y) ∈ l) ∧ Below w.heap.size w w') = PP := ⟨_, rfl⟩
  rw [hPP]
  have HPP := Lib.hid hPP
  have HR := Lib.hid h
  obtain ⟨q, c, rfl⟩ := h.form
  have c0 := h.cell0
  have hb := World.block_lt_of_cell? w _ c0
  clear hPP h
  go_enter Tryz.func32, Tryz.ntmps32
  go_wp2_with fail
  go_loopw [3, 4] (fun so si wr => ∃ (i : Nat) (q2 : Option Addr) (c2 : Nat) (ids : List ByteArray), so = .slice q2 ids.length c2 ∧ si = .int .i64 (i : Nat) ∧ i ≤ l.length ∧ Hid (Sl wr (.slice q2 ids.length c2) ids) ∧ Hid (ids.Pairwise ltB) ∧ Hid (∀ z, z ∈ ids ↔ ∃ y, (z, y) ∈ l.take i) ∧ ids.length ≤ i ∧ Hid (Below w.heap.size w wr)) (fun _ si _ => l.length - (intOf si).toNat)
  case atStart => exact ⟨0, none, 0, [], rfl, rfl, Nat.zero_le _, ⟨none, 0, rfl, Nat.le_refl _, by omega, .inl rfl⟩, List.Pairwise.nil, fun z => by simp, Nat.le_refl _, Below.refl _ _⟩
  case round =>
    obtain ⟨i, q2, c2, ids, rfl, rfl, hi, hS, hW, hM, hL, hB⟩ := hrel
    have k0 := (hB.out.cell (p := ⟨rb, 0, none⟩) hb).trans c0
    have kb : rb < wr.heap.size := World.block_lt_of_cell? wr _ k0
    by_cases hlt : i < l.length
    · obtain ⟨x, hx⟩ : ∃ x, l[i]? = some x := ⟨_, List.getElem?_eq_getElem hlt⟩
      obtain ⟨g, rfl, e1', e2'⟩ := HR.out.at_ hx
      have e1 := (hB.out.cell (World.block_lt_of_cell? w _ e1')).trans e1'
      have e2 := (hB.out.cell (World.block_lt_of_cell? w _ e2')).trans e2'
      have hgl : g < wr.heap.size := World.block_lt_of_cell? wr _ e1
      have hltI : (i : Int) < (l.length : Int) := by omega
      have hi0 : (0 : Int) ≤ (i : Int) := by omega
      have HTM := Lib.hid (take_snoc_mem hx)
      have HX := Lib.hid hx
      clear hx e1' e2'
      have HMEM : Hid (∀ z, z ∈ putL ltB ids x.1 ↔ ∃ y, (z, y) ∈ l.take (i + 1)) := fun z => by
        rw [putL_mem, hM.out]
        constructor
        · rintro (h1 | ⟨y, h1⟩)
          · subst h1; exact ⟨x.2, (HTM.out _).2 (.inr rfl)⟩
          · exact ⟨y, (HTM.out _).2 (.inl h1)⟩
        · rintro ⟨y, h1⟩
          rcases (HTM.out _).1 h1 with h1 | h1
          · exact .inr ⟨y, h1⟩
          · exact .inl (by subst h1; rfl)
      have HWP := Lib.hid (putL_sorted ord_text hW.out x.1)
      have hLP := putL_len (lt := ltB) ids x.1
      go_wp2_with fail
      refine (refWord_any wr _ ids x.1 hS.out hW.out (by omega)).mono ?_
      rintro e wp ⟨⟨vp, rfl, hp⟩, hbp⟩
      obtain ⟨qp, cp, rfl⟩ : ∃ qp cp, vp = .slice qp (putL ltB ids x.1).length cp := (Sl_fl hp).form
      have HBP := Lib.hid (hB.out.trans (hbp.mono hB.out.size))
      have HP := Lib.hid hp
      clear hbp hp
      generalize putL ltB ids x.1 = idp at *
      go_wp2_with fail
      go_roundw
      case rel => exact ⟨i + 1, qp, cp, idp, rfl, by go_num, by omega, HP.out, HWP.out, HMEM.out, by omega, HBP.out⟩
      case measure => simp [intOf]; omega
    · have hltI : ¬ ((i : Int) < (l.length : Int)) := by omega
      have hge : i = l.length := by omega
      go_wp2_with fail
      rw [← HPP.out]
      refine ⟨⟨_, ids, rfl, hS.out, hW.out, by omega, fun z => ?_⟩, hB.out⟩
      have h1 := hM.out z
      rw [hge, List.take_length] at h1
      exact h1

theorem comm_at : ∀ (a b : List ByteArray) (k : Nat), k < comm a b → ∃ x, a[k]? = some x ∧ b[k]? = some x
  | [], b, k, h => by simp [comm] at h
  | x :: a, [], k, h => by simp [comm] at h
  | x :: a, y :: b, k, h => by
    unfold comm at h
    split at h
    · rename_i e
      subst e
      cases k with
      | zero => exact ⟨x, rfl, rfl⟩
      | succ k => exact comm_at a b k (by omega)
    · omega
theorem comm_end : ∀ (a b : List ByteArray), comm a b = a.length ∨ comm a b = b.length ∨ ∃ x y, a[comm a b]? = some x ∧ b[comm a b]? = some y ∧ x ≠ y
  | [], b => .inl (by simp [comm])
  | x :: a, [] => .inr (.inl (by simp [comm]))
  | x :: a, y :: b => by
    unfold comm
    by_cases e : x = y
    · rw [if_pos e]
      rcases comm_end a b with h | h | ⟨u, v, h1, h2, h3⟩
      · exact .inl (by rw [h]; rfl)
      · exact .inr (.inl (by rw [h]; rfl))
      · exact .inr (.inr ⟨u, v, h1, h2, h3⟩)
    · rw [if_neg e]
      exact .inr (.inr ⟨x, y, rfl, rfl, e⟩)
theorem comm_le2 (a b : List ByteArray) : comm a b ≤ b.length := by
  rcases Nat.lt_or_ge b.length (comm a b) with h | h
  · obtain ⟨x, -, h2⟩ := comm_at a b b.length h
    have := (List.getElem?_eq_some_iff.1 h2).1
    omega
  · exact h
set_option maxRecDepth 100000 in
set_option maxHeartbeats 8000000 in
theorem common_any (w : World) (v1 v2 : Value) (l1 l2 : List ByteArray) (h1 : Sl w v1 l1) (h2 : Sl w v2 l2) :
    Calls Tryz.prog 58 #[v1, v2] w fun e w' => e = .returned (.int .i64 (comm l1 l2 : Nat)) ∧ Below w.heap.size w w' := by
  obtain ⟨PP, hPP⟩ : ∃ PP : Ending → World → Prop, (fun e w' => e = .returned (.int .i64 (comm l1 l2 : Nat)) ∧ Below w.heap.size w w') = PP := ⟨_, rfl⟩
  rw [hPP]
  have HPP := Lib.hid hPP
  have H1 := Lib.hid h1
  have H2 := Lib.hid h2
  obtain ⟨p1, c1, rfl, ha1, ha2, -⟩ := h1
  obtain ⟨p2, c2, rfl, hb1, hb2, -⟩ := h2
  have hc1 := comm_le l1 l2
  have hc2 := comm_le2 l1 l2
  have HA : Hid (∀ k, k < comm l1 l2 → ∃ x, l1[k]? = some x ∧ l2[k]? = some x) := comm_at l1 l2
  have HE := Lib.hid (comm_end l1 l2)
  obtain ⟨c, hc⟩ : ∃ c, comm l1 l2 = c := ⟨_, rfl⟩
  rw [hc] at hc1 hc2 HA HE HPP
  clear hPP hc
  go_enter Tryz.func58, Tryz.ntmps58
  go_wp2_with fail
  go_loopw [5] (fun s5 wr => ∃ k : Nat, s5 = .int .i64 (k : Nat) ∧ k ≤ c ∧ Hid (Below w.heap.size w wr)) (fun s5 _ => c - (intOf s5).toNat)
  case atStart => exact ⟨0, rfl, Nat.zero_le _, Below.refl _ _⟩
  case round =>
    obtain ⟨k, rfl, hk, hB⟩ := hrel
    have hk0 : (0 : Int) ≤ (k : Int) := by omega
    by_cases hkc : k < c
    · obtain ⟨x, hx, hy⟩ := HA.out k hkc
      obtain ⟨b1, o1, rfl, k1'⟩ := Sl_cell H1.out hx
      obtain ⟨b2, o2, rfl, k2'⟩ := Sl_cell H2.out hy
      have k1 := (hB.out.cell (World.block_lt_of_cell? w _ k1')).trans k1'
      have k2 := (hB.out.cell (World.block_lt_of_cell? w _ k2')).trans k2'
      have g1 : b1 < wr.heap.size := World.block_lt_of_cell? wr _ k1
      have g2 : b2 < wr.heap.size := World.block_lt_of_cell? wr _ k2
      have d1 : decide (k < l1.length) = true := decide_eq_true (by omega)
      have d2 : decide (k < l2.length) = true := decide_eq_true (by omega)
      have e1 : (k : Int) < (l1.length : Int) := by omega
      have e2 : (k : Int) < (l2.length : Int) := by omega
      have t1 : (x.toList == x.toList) = true := by simp
      clear hx hy k1' k2'
      go_wp2_with fail
      go_quiet (fail)
      go_wp2_with fail
      go_roundw
      case rel => exact ⟨k + 1, by go_num, by omega, ⟨hB.out.os, hB.out.tape, hB.out.output, hB.out.size, hB.out.block⟩⟩
      case measure => simp [intOf]; omega
    · obtain rfl : k = c := by omega
      by_cases hk1 : k < l1.length
      · have d1 : decide (k < l1.length) = true := decide_eq_true (by omega)
        have e1 : (k : Int) < (l1.length : Int) := by omega
        by_cases hk2 : k < l2.length
        · have d2 : decide (k < l2.length) = true := decide_eq_true (by omega)
          have e2 : (k : Int) < (l2.length : Int) := by omega
          obtain ⟨x, y, hx, hy, hxy⟩ : ∃ x y, l1[k]? = some x ∧ l2[k]? = some y ∧ x ≠ y := by
            rcases HE.out with h | h | h
            · omega
            · omega
            · exact h
          obtain ⟨b1, o1, rfl, k1'⟩ := Sl_cell H1.out hx
          obtain ⟨b2, o2, rfl, k2'⟩ := Sl_cell H2.out hy
          have k1 := (hB.out.cell (World.block_lt_of_cell? w _ k1')).trans k1'
          have k2 := (hB.out.cell (World.block_lt_of_cell? w _ k2')).trans k2'
          have g1 : b1 < wr.heap.size := World.block_lt_of_cell? wr _ k1
          have g2 : b2 < wr.heap.size := World.block_lt_of_cell? wr _ k2
          have t1 : (x.toList == y.toList) = false := by
            cases h : (x.toList == y.toList)
            · rfl
            · exact absurd (is_same.1 h) hxy
          clear hx hy k1' k2' hxy
          go_wp2_with fail
          go_quiet (fail)
          go_wp2_with fail
          rw [← HPP.out]
          exact ⟨rfl, ⟨hB.out.os, hB.out.tape, hB.out.output, hB.out.size, hB.out.block⟩⟩
        · have d2 : decide (k < l2.length) = false := decide_eq_false (by omega)
          have e2 : ¬ ((k : Int) < (l2.length : Int)) := by omega
          go_wp2_with fail
          go_quiet (fail)
          go_wp2_with fail
          rw [← HPP.out]
          exact ⟨rfl, ⟨hB.out.os, hB.out.tape, hB.out.output, hB.out.size, hB.out.block⟩⟩
      · have d1 : decide (k < l1.length) = false := decide_eq_false (by omega)
        have e1 : ¬ ((k : Int) < (l1.length : Int)) := by omega
        go_wp2_with fail
        go_quiet (fail)
        go_wp2_with fail
        rw [← HPP.out]
        exact ⟨rfl, ⟨hB.out.os, hB.out.tape, hB.out.output, hB.out.size, hB.out.block⟩⟩

set_option maxHeartbeats 1000000 in
theorem refLevels_own (s : ByteArray) (w : World) (hs : s.size ≤ 1048576) :
    Calls Tryz.prog 44 #[.string s] w fun e w' => ∃ v, e = .returned v ∧ w'.ownsRow w.heap.size 9 1 v (levels s).length ((levels s).map Value.string) ∧ Below w.heap.size w w' := by
  obtain ⟨i0, hi, hz0, hz1, hz2⟩ := info_parts info_string
  go_enter Tryz.func44, Tryz.ntmps44
  go_wp2
  go_loopw [3, 4, 5] (fun v at_ i wr => ∃ (k a : Nat) (done : List ByteArray), a ≤ k ∧ k ≤ s.size ∧ at_ = .int .i64 a ∧ i = .int .i64 k ∧ done.length ≤ k ∧ Hid (levels s = done ++ (splitS (s.data.toList.drop a)).map ba) ∧
      Hid (∀ c ∈ (s.data.toList.drop a).take (k - a), c ≠ 47) ∧ wr.ownsRow w.heap.size 9 1 v done.length (done.map Value.string) ∧ Below w.heap.size w wr)
    (fun _ _ i _ => s.size - (intOf i).toNat)
  case atStart => exact ⟨0, 0, [], Nat.le_refl _, Nat.zero_le _, rfl, rfl, Nat.le_refl _, rfl, (by intro c hc; simp at hc), World.ownsRow_nil _ _ _ _, Below.refl _ _⟩
  case round =>
    obtain ⟨k, a, done, hak, hk, rfl, rfl, hdk, HL, HC, hown, hB⟩ := hrel
    have hsz := hB.size
    by_cases hlt : k < s.size
    · by_cases h1 : (((s[k].toNat : Nat) : Int) == 47) = true
      · have HH := Lib.hid (lev_hit s a k done hak hlt HL.out HC.out h1)
        clear HL HC
        go_wp2_with (at_builtin; refine wpList_append_own _ rfl _ _ 23 rfl w.heap.size 9 i0 (.string ByteArray.empty) 1 16 Tryz.underlying23 hi hz0 hz1 hz2 rfl (by decide) _ _ _ rfl (hown.alloc _) ⟨wr.heap.size, 0, none⟩ 1 1 [.string (s.extract a k)] rfl rfl (cell_one_new _ _ _) (fun x hx => by simp at hx; subst hx; rfl) (by unfold maxLen; omega) (by omega) (by simp; omega) ?_; intro v' w1 hown' hgrow hnil)
        have hB1 : Below w.heap.size w w1 := ((hB.alloc hsz _).grown hgrow (by simp; omega) (fun j hj => (hown.lt j hj).1))
        have hown2 : w1.ownsRow w.heap.size 9 1 v' (done ++ [s.extract a k]).length ((done ++ [s.extract a k]).map Value.string) := by simpa using hown'
        clear hown' hgrow hown hnil
        go_wp2
        go_roundw
        case rel => exact ⟨k + 1, k + 1, done ++ [s.extract a k], Nat.le_refl _, by omega, by go_num, by go_num, by simp; omega, HH, (by intro c hc; simp at hc), hown2, hB1⟩
        case measure => simp [intOf]; omega
      · simp only [Bool.not_eq_true] at h1
        have HH := Lib.hid (lev_no s a k hak hlt HC.out h1)
        clear HC
        go_wp2
        go_roundw
        case rel => exact ⟨k + 1, a, done, by omega, by omega, rfl, by go_num, by omega, HL, HH, hown, hB⟩
        case measure => simp [intOf]; omega
    · obtain rfl : k = s.size := by omega
      have HH := Lib.hid (lev_end s a done HL.out HC.out)
      clear HL HC
      go_wp2_with (at_builtin; refine wpList_append_own _ rfl _ _ 23 rfl w.heap.size 9 i0 (.string ByteArray.empty) 1 16 Tryz.underlying23 hi hz0 hz1 hz2 rfl (by decide) _ _ _ rfl (hown.alloc _) ⟨wr.heap.size, 0, none⟩ 1 1 [.string (s.extract a s.size)] rfl rfl (cell_one_new _ _ _) (fun x hx => by simp at hx; subst hx; rfl) (by unfold maxLen; omega) (by omega) (by simp; omega) ?_; intro v' w1 hown' hgrow hnil)
      have hB1 : Below w.heap.size w w1 := ((hB.alloc hsz _).grown hgrow (by simp; omega) (fun j hj => (hown.lt j hj).1))
      have hown2 : w1.ownsRow w.heap.size 9 1 v' (done ++ [s.extract a s.size]).length ((done ++ [s.extract a s.size]).map Value.string) := by simpa using hown'
      clear hown' hgrow hown hnil
      go_wp2
      go_ret
      exact ⟨_, rfl, by rw [HH.out]; exact hown2, hB1⟩

theorem count_snoc : ∀ (A seen : List (List ByteArray)) (x : List ByteArray), countL seen (A ++ [x]) = countL seen A + (x.length - had x (seen ++ A))
  | [], seen, x => by simp [countL]
  | a :: A, seen, x => by
    rw [List.cons_append]
    unfold countL
    rw [count_snoc A (seen ++ [a]) x]
    simp only [List.append_assoc, List.singleton_append]
    omega
theorem count_le : ∀ (A seen : List (List ByteArray)), countL seen A ≤ (A.map List.length).sum
  | [], seen => by simp [countL]
  | a :: A, seen => by
    unfold countL
    have := count_le A (seen ++ [a])
    simp only [List.map_cons, List.sum_cons]
    omega
theorem had_snoc (l : List ByteArray) (seen : List (List ByteArray)) (b : List ByteArray) : had l (seen ++ [b]) = max (had l seen) (comm l b) := by
  unfold had; rw [List.foldl_append]; rfl
def levs (l : Subs) : List (List ByteArray) := l.map fun x => levels x.1
theorem levs_sum (l : Subs) : ((levs l).map List.length).sum ≤ totalS l := by
  unfold levs totalS
  induction l with
  | nil => exact Nat.le_refl _
  | cons x l ih =>
    simp only [List.map_cons, List.sum_cons]
    have := levels_len x.1
    omega
/-- the lists of levels that were seen -/
def SeenR (W : World) (B : Nat) (v : Value) (seen : List (List ByteArray)) : Prop :=
  ∃ vs : List Value, W.ownsRow B 23 1 v seen.length vs ∧ (∀ u ∈ vs, u.oneCell' = true) ∧ ∀ (j : Nat) s, seen[j]? = some s → ∃ u, vs[j]? = some u ∧ W.ownsRow B 9 1 u s.length (s.map Value.string)
theorem SeenR.nil (W : World) (B : Nat) : SeenR W B (.slice none 0 0) [] := ⟨[], World.ownsRow_nil _ _ _ _, fun _ h => (List.not_mem_nil h).elim, fun j s h => by cases h⟩
theorem SeenR.below {W W' : World} {B : Nat} {v : Value} {seen : List (List ByteArray)} (h : SeenR W B v seen) (hb : Below W.heap.size W W') : SeenR W' B v seen := by
  obtain ⟨vs, h1, h0, h2⟩ := h
  refine ⟨vs, row_of_heap h1 fun b hk => hb.block b (h1.lt b hk).2, h0, fun j s hj => ?_⟩
  obtain ⟨u, h3, h4⟩ := h2 j s hj
  exact ⟨u, h3, row_of_heap h4 fun b hk => hb.block b (h4.lt b hk).2⟩
theorem SeenR.add {W W' : World} {B : Nat} {v v' u : Value} {seen : List (List ByteArray)} {s : List ByteArray} (vs : List Value) (h1 : W.ownsRow B 23 1 v seen.length vs) (h0 : ∀ u ∈ vs, u.oneCell' = true)
    (h2 : ∀ (j : Nat) s, seen[j]? = some s → ∃ u, vs[j]? = some u ∧ W.ownsRow B 9 1 u s.length (s.map Value.string)) (hu : W.ownsRow B 9 1 u s.length (s.map Value.string)) (ho : u.oneCell' = true)
    (hg : W.grownBy W' v.ownBlock) (h' : W'.ownsRow B 23 1 v' (seen.length + 1) (vs ++ [u])) : SeenR W' B v' (seen ++ [s]) := by
  have hvl : vs.length = seen.length := by rw [h1.1, Nat.mul_one]
  have hk : ∀ {u : Value} {s : List ByteArray}, W.ownsRow B 9 1 u s.length (s.map Value.string) → W'.ownsRow B 9 1 u s.length (s.map Value.string) := fun {u s} h => row_of_heap h fun b hb => by
    refine hg.block b (h.lt b hb).2 (fun e => ?_)
    obtain ⟨c1, e1⟩ := own_type h hb
    obtain ⟨c2, e2⟩ := own_type h1 e.symm
    rw [e1] at e2
    injection e2 with e2
    injection e2 with _ e2 _
    revert e2
    decide
  refine ⟨vs ++ [u], by rw [List.length_append]; exact h', fun x hx => ?_, fun j s2 hj => ?_⟩
  · rcases List.mem_append.1 hx with hx | hx
    · exact h0 x hx
    · rw [List.mem_singleton] at hx; subst hx; exact ho
  · by_cases hjl : j < seen.length
    · rw [List.getElem?_append_left hjl] at hj
      obtain ⟨u2, h3, h4⟩ := h2 j s2 hj
      exact ⟨u2, by rw [List.getElem?_append_left (by omega)]; exact h3, hk h4⟩
    · have hjs := (List.getElem?_eq_some_iff.1 hj).1
      rw [List.length_append, List.length_singleton] at hjs
      have : j = seen.length := by omega
      subst this
      rw [List.getElem?_append_right (Nat.le_refl _), Nat.sub_self] at hj
      injection hj with hj
      subst hj
      exact ⟨u, by rw [List.getElem?_append_right (by omega), hvl, Nat.sub_self]; rfl, hk hu⟩
theorem info_texts : (Tryz.prog.info? 23).map (fun i => (i.zero, i.size, i.bytes)) = some (some (.slice none 0 0), 1, 24) := by kernel_rfl
theorem nat_max (a b : Nat) : max (a : Int) (b : Int) = ((max a b : Nat) : Int) := by omega
set_option maxRecDepth 100000 in
set_option maxHeartbeats 8000000 in
theorem refNodes_any (w : World) (base rb : Nat) (v : Value) (l : Subs) (h : RL w base rb v l) (hl : l.length ≤ 100000000) (hsz : ∀ x ∈ l, x.1.size ≤ 1048576) (ht : totalS l ≤ 100000000) :
    Calls Tryz.prog 34 #[.pointer (some ⟨rb, 0, none⟩)] w fun e w' => e = .returned (.int .i64 (countL [] (levs l) : Nat)) ∧ Below w.heap.size w w' := by
  obtain ⟨PP, hPP⟩ : ∃ PP : Ending → World → Prop, (fun e w' => e = .returned (.int .i64 (countL [] (levs l) : Nat)) ∧ Below w.heap.size w w') = PP := ⟨_, rfl⟩
  rw [hPP]
  have HPP := Lib.hid hPP
  have HR := Lib.hid h
  obtain ⟨q, c, rfl⟩ := h.form
  have c0 := h.cell0
  have hb := World.block_lt_of_cell? w _ c0
  have HSZ : Hid (∀ {i : Nat} (x : ByteArray × Int), l[i]? = some x → x.1.size ≤ 1048576) := fun x hx => hsz x (List.mem_of_getElem? hx)
  have HTOT : Hid (∀ i, countL [] ((levs l).take i) ≤ 100000000) := fun i => by
    refine Nat.le_trans (count_le _ _) (Nat.le_trans ?_ (Nat.le_trans (levs_sum l) ht))
    rw [List.map_take]
    conv => rhs; rw [← List.take_append_drop i ((levs l).map List.length), List.sum_append]
    exact Nat.le_add_right _ _
  obtain ⟨i0, hi, hz0, hz1, hz2⟩ := info_parts info_texts
  clear hPP h hsz ht
  go_enter Tryz.func34, Tryz.ntmps34
  go_wp2_with fail
  go_loopw [3, 4, 5] (fun s3 s4 s5 wr => ∃ (i n : Nat) (q2 : Option Addr) (c2 : Nat), s3 = .slice q2 i c2 ∧ s4 = .int .i64 (n : Nat) ∧ s5 = .int .i64 (i : Nat) ∧ i ≤ l.length ∧ n ≤ 100000000 ∧ Hid (n = countL [] ((levs l).take i)) ∧ Hid (SeenR wr w.heap.size (.slice q2 i c2) ((levs l).take i)) ∧ Hid (Below w.heap.size w wr)) (fun _ _ s5 _ => l.length - (intOf s5).toNat)
  case atStart => exact ⟨0, 0, none, 0, rfl, rfl, rfl, Nat.zero_le _, by omega, rfl, SeenR.nil _ _, Below.refl _ _⟩
  case round =>
    obtain ⟨i, n, q2, c2, rfl, rfl, rfl, hil, hn, hN, hS, hB⟩ := hrel
    have k0 := (hB.out.cell (p := ⟨rb, 0, none⟩) hb).trans c0
    have kb : rb < wr.heap.size := World.block_lt_of_cell? wr _ k0
    by_cases hlt : i < l.length
    · obtain ⟨x, hx⟩ : ∃ x, l[i]? = some x := ⟨_, List.getElem?_eq_getElem hlt⟩
      obtain ⟨g, rfl, e1', e2'⟩ := HR.out.at_ hx
      have e1 := (hB.out.cell (World.block_lt_of_cell? w _ e1')).trans e1'
      have hgl : g < wr.heap.size := World.block_lt_of_cell? wr _ e1
      have hltI : (i : Int) < (l.length : Int) := by omega
      have hi0 : (0 : Int) ≤ (i : Int) := by omega
      have hlx : (levs l)[i]? = some (levels x.1) := by unfold levs; rw [List.getElem?_map, hx]; rfl
      have hsx := HSZ.out x hx
      have hlev := levels_len x.1
      have htk : (levs l).take (i + 1) = (levs l).take i ++ [levels x.1] := by rw [List.take_add_one, hlx]; rfl
      have hT1 := HTOT.out (i + 1)
      rw [htk, count_snoc, List.nil_append, ← hN.out] at hT1
      have HCS : Hid (countL [] ((levs l).take (i + 1)) = n + ((levels x.1).length - had (levels x.1) ((levs l).take i))) := by rw [htk, count_snoc, List.nil_append, ← hN.out]; exact rfl
      have HTK := Lib.hid htk
      have hseen : ((levs l).take i).length = i := by rw [List.length_take]; unfold levs; rw [List.length_map]; omega
      have HSL := Lib.hid hseen
      have hhl := had_le (levels x.1) ((levs l).take i)
      have HN := hN
      obtain ⟨seen, hsee⟩ : ∃ seen, (levs l).take i = seen := ⟨_, rfl⟩
      rw [hsee] at hT1 HCS hS HTK hhl HSL
      clear hx e1' e2' hlx htk hseen hsee
      go_wp2_with fail
      refine (refLevels_own x.1 wr hsx).mono ?_
      rintro e w1 ⟨vl, rfl, hol, hb1⟩
      have HS1 := Lib.hid (hS.out.below hb1)
      have hbs := hB.out.size
      have HOL := Lib.hid (ownsRow_mono hol hbs)
      obtain ⟨ql, cl, rfl⟩ := (Fl.of_own hol).form
      have HSLV := Lib.hid (Sl.of_owns hol)
      have HB1 := Lib.hid (hB.out.trans (hb1.mono hbs))
      have k1 := (hb1.cell (p := ⟨rb, 0, none⟩) kb).trans k0
      have kb1 : rb < w1.heap.size := World.block_lt_of_cell? w1 _ k1
      obtain ⟨lv, hlv⟩ : ∃ lv, levels x.1 = lv := ⟨_, rfl⟩
      rw [hlv] at hT1 HCS HTK hhl HOL HSLV hlev
      rw [hlv]
      clear hol hb1 hlv
      go_wp2_with fail
      go_loopw [7, 8] (fun s7 s8 wr => ∃ (k hd : Nat), s7 = .int .i64 (hd : Nat) ∧ s8 = .int .i64 (k : Nat) ∧ k ≤ i ∧ hd ≤ lv.length ∧ Hid (hd = had lv (seen.take k)) ∧ Hid (Below w1.heap.size w1 wr)) (fun _ s8 _ => i - (intOf s8).toNat)
      case atStart => exact ⟨0, 0, rfl, rfl, Nat.zero_le _, Nat.zero_le _, rfl, Below.refl _ _⟩
      case round =>
        obtain ⟨k, hd, rfl, rfl, hki, hdl, hHD, hBi⟩ := hrel
        by_cases hkl : k < i
        · obtain ⟨s, hs⟩ : ∃ s, seen[k]? = some s := ⟨_, List.getElem?_eq_getElem (by have := HSL.out; omega)⟩
          obtain ⟨vs, hv1, -, hv2⟩ := HS1.out.below hBi.out
          rw [HSL.out] at hv1
          obtain ⟨u, hu, hou⟩ := hv2 k s hs
          have hvlt := (List.getElem?_eq_some_iff.1 hu).1
          obtain ⟨g2, cap2, -, rfl⟩ : ∃ g2 cap2, True ∧ q2 = some ⟨g2, 0, none⟩ := by
            rcases hv1.2 with ⟨h1, h2⟩ | ⟨g2, cap2, cur, h1, -⟩
            · omega
            · injection h1 with h1; exact ⟨g2, cap2, trivial, h1⟩
          have ku : wr.cell? ⟨g2, k, none⟩ = vs[k]? := hv1.cellAt k (by omega)
          rw [hu] at ku
          have g2l : g2 < wr.heap.size := World.block_lt_of_cell? wr _ ku
          obtain ⟨qu, cu, rfl⟩ := (Fl.of_own hou).form
          have HSU := Lib.hid (Sl.of_owns hou)
          have hkI : (k : Int) < (i : Int) := by omega
          have hk0 : (0 : Int) ≤ (k : Int) := by omega
          have HH : Hid (had lv (seen.take (k + 1)) = max hd (comm lv s)) := by rw [List.take_add_one, hs, Option.toList_some, had_snoc, ← hHD.out]; exact rfl
          have hcl := comm_le lv s
          clear hs hv1 hv2 hu hou hvlt
          go_wp2_with fail
          refine (common_any wr _ _ lv s (HSLV.out.below hBi.out) HSU.out).mono ?_
          rintro e w2 ⟨rfl, hb2⟩
          have HB2 := Lib.hid (hBi.out.trans (hb2.mono hBi.out.size))
          clear hb2
          go_wp2_with fail
          go_roundw
          case rel => exact ⟨k + 1, max hd (comm lv s), by rw [nat_max], by go_num, by omega, by omega, HH.out.symm, HB2.out⟩
          case measure => simp [intOf]; omega
        · have hkI : ¬ ((k : Int) < (i : Int)) := by omega
          have hke : k = i := by omega
          have hhd : hd = had lv seen := by rw [hHD.out, hke, ← HSL.out, List.take_length]
          have HHD := Lib.hid hhd
          have hT2 : n + (lv.length - hd) ≤ 100000000 := by rw [hhd]; exact hT1
          obtain ⟨vs, hv1, hv0, hv2⟩ := HS1.out.below hBi.out
          have HV1 := Lib.hid (show wr.ownsRow w.heap.size 23 1 (.slice q2 i c2) i vs by have := hv1; rw [HSL.out] at this; exact this)
          have HV0 := Lib.hid hv0
          have HV2 := Lib.hid hv2
          have hbz : w.heap.size ≤ wr.heap.size := Nat.le_trans HB1.out.size hBi.out.size
          have HBW := Lib.hid (HB1.out.trans (hBi.out.mono HB1.out.size))
          have hlvi : (lv.length : Int) ≤ 1048578 := by omega
          clear hv1 hv0 hv2 hke hhd
          go_wp2_with (at_builtin; refine wpList_append_own _ rfl _ _ 86 rfl w.heap.size 23 i0 (.slice none 0 0) 1 24 Tryz.underlying86 hi hz0 hz1 hz2 rfl (by decide) _ _ _ rfl (HV1.out.alloc _) ⟨wr.heap.size, 0, none⟩ 1 1 [.slice ql lv.length cl] rfl rfl (cell_one_new _ _ _) (fun x hx => by simp at hx; subst hx; rfl) (by unfold maxLen; omega) (by omega) (by simp; omega) ?_; intro v5 w5 hown5 hg5 hnil5; have HO5 := Lib.hid hown5; have HG5 := Lib.hid hg5; obtain ⟨q5, c5, rfl⟩ := (Fl.of_own hown5).form; have HB5 := Lib.hid ((HBW.out.alloc hbz _).grown hg5 (by simp; omega) (fun k hk => (HV1.out.lt k hk).1)); clear hown5 hg5 hnil5)
          go_roundw
          case rel =>
            refine ⟨i + 1, n + (lv.length - hd), q5, c5, by go_num, ?_, by go_num, by omega, hT2, ?_, ?_, HB5.out⟩
            · congr 1
              omega
            · rw [HCS.out, ← HHD.out]; exact rfl
            · rw [HTK.out]
              have hA : Below wr.heap.size wr (wr.alloc (.cells #[.slice ql lv.length cl] 23)) := (Below.refl _ _).alloc (Nat.le_refl _) _
              refine SeenR.add vs (v := .slice q2 i c2) (u := .slice ql lv.length cl) (W := wr.alloc (.cells #[.slice ql lv.length cl] 23)) ?_ HV0.out (fun j s hj => ?_) ?_ rfl HG5.out (by rw [HSL.out]; exact HO5.out)
              · rw [HSL.out]; exact HV1.out.alloc _
              · obtain ⟨u, h3, h4⟩ := HV2.out j s hj
                exact ⟨u, h3, h4.alloc _⟩
              · exact row_of_heap HOL.out fun b hk => (hA.block b (Nat.lt_of_lt_of_le (HOL.out.lt b hk).2 hBi.out.size)).trans (hBi.out.block b (HOL.out.lt b hk).2)
          case measure => simp [intOf]; omega
    · have hltI : ¬ ((i : Int) < (l.length : Int)) := by omega
      have hge : i = l.length := by omega
      have HE : Hid (n = countL [] (levs l)) := by
        have h1 := hN.out
        rw [hge, List.take_of_length_le (by unfold levs; simp)] at h1
        exact h1
      go_wp2_with fail
      rw [← HPP.out]
      exact ⟨by rw [HE.out], hB.out⟩
end Go.Proofs.YtflomcbclofbaaaGreatDoor
