/- SHARE: Hub.Keep. -/
import Derived.BigRegion
import Derived.Test.YtincmegllckcjaaGreatDoorShareKeepP
namespace Go.Proofs.YtincmegllckcjaaGreatDoor
open Go Go.RowKit
attribute [local go_sem ↓] Go.wp_at_zero Go.wp_at_succ

def restA (L : List AM) (s : ByteArray) : List AM := L.filter fun x => decide (x.tp.data.toList ≠ s.data.toList)
open Classical in
noncomputable def keepA (L : List AM) (m : AM) : Bool × List AM := if m.t.kd = 0 then (decide (∃ x ∈ L, x.tp = m.tp), restA L m.tp) else (true, restA L m.tp ++ [m])
theorem abs_rest (ms : List Mg) (s : ByteArray) : (ms.filter fun m => decide (m.tp.data.toList ≠ s.data.toList)).map Mg.am = restA (ms.map Mg.am) s := by
  unfold restA
  rw [List.filter_map]
  rfl
def KeepPost (w : World) (base : Nat) (H : Hb) (kn : Nat) (KB : Nat → Prop) (ms : List Mg) (m : Mg) (e : Ending) (w' : World) : Prop := ∃ (kn' : Nat) (KD' : DataW Value) (KB' : Nat → Prop) (ms' : List Mg), e = .returned (.bool (keepA (ms.map Mg.am) m.am).1) ∧ HubK w' base H kn' KD' KB' ms' ∧ ms'.map Mg.am = (keepA (ms.map Mg.am) m.am).2 ∧ kn' ≤ kn + 1 ∧ Frame (fun b => b = H.km) w w' ∧ (∀ b, KB' b → KB b ∨ w.heap.size ≤ b)
theorem HubK.cell2 {W : World} {base : Nat} {H : Hb} {kn : Nat} {KD : DataW Value} {KB : Nat → Prop} {ms : List Mg} (h : HubK W base H kn KD KB ms) : W.cell? ⟨H.hb, 2, none⟩ = some (.map (some H.km)) := by
  rw [cell_of_row _ _ _ _ _ _ h.hub.box]; rfl
theorem HubK.turn {W W1 W' : World} {base kn kn' : Nat} {H : Hb} {KD KD' : DataW Value} {KB KB' : Nat → Prop} {ms ms' : List Mg} (h : HubK W base H kn KD KB ms) (hb : Below W.heap.size W W1) (hg : W1.grownBy W' (some H.km)) (hk : KeptIs W' base H.km kn' KD' KB' ms') (hB : ∀ b, KB' b → KB b ∨ W.heap.size ≤ b) : HubK W' base H kn' KD' KB' ms' := by
  have hlt := h.hub.hlt
  refine ⟨(h.hub.below hb).kept fun b hf => hg.block b ?_ (fun e => ?_), hk, h.off, fun b hb2 => ?_⟩
  · have := hb.size
    rcases hf with rfl | hf
    · omega
    · have := (h.hub.lt hf).2; omega
  · injection e with e
    subst e
    rcases hf with hf | hf
    · exact h.off.1 hf.symm
    · exact h.off.2 hf
  · rcases hB b hb2 with h1 | h1
    · exact h.offB b h1
    · exact ⟨by omega, fun e => by have := (h.hub.lt e).2; omega⟩
set_option maxRecDepth 100000 in
set_option maxHeartbeats 8000000 in
theorem hubKeep_any (w : World) (base : Nat) (H : Hb) (kn : Nat) (KD : DataW Value) (KB : Nat → Prop) (ms : List Mg) (m : Mg) (h : HubK w base H kn KD KB ms) (hd : DvIs w m.f m.body m.t) (hsm : DvSm m.f m.t) (htp : m.tp.size ≤ 1048576) (hkn : kn ≤ 100000000) (hbase : base ≤ w.heap.size) :
    Calls Tryz.prog 14 #[.pointer (some ⟨H.hb, 0, none⟩), .agg #[.int .i64 m.id, .string m.tp, .int .i64 m.kd, .int .i64 m.di, .int .u64 m.db, .string m.ds, .slice m.q m.n m.c, .int .i64 m.at_, .int .i64 m.un, .string m.rp, .int .i64 m.co, .int .i64 m.pr, .int .i64 m.ho]] w (KeepPost w base H kn KB ms m) := by
  obtain ⟨PP, hPP⟩ : ∃ PP : Ending → World → Prop, KeepPost w base H kn KB ms m = PP := ⟨_, rfl⟩
  rw [hPP]
  have HPP := Lib.hid hPP
  have HH := Lib.hid h
  have HD := Lib.hid hd
  have HSM := Lib.hid hsm
  have c2 := h.cell2
  have hhl := h.hub.hlt
  have CN : Hid (∀ W, Below w.heap.size w W → Calls Tryz.prog 23 #[.pointer (some ⟨H.hb, 0, none⟩)] W fun e w' => e = .returned (.bool false) ∧ w' = W) := fun W hb => hub_no (h.hub.below hb)
  have hkd : m.t.kd = m.kd := by obtain ⟨ps, e⟩ := DvIs.mk hd; rw [e]; rfl
  have hkey := WideMaps.keyOf_string_mk Tryz.underlying9 (s := m.tp) (by unfold maxLen; omega)
  by_cases hk0 : m.kd = 0
  · have HJ : Hid (∀ ok : Bool, (ok = true ↔ ∃ x ∈ ms, x.tp = m.tp) → keepA (ms.map Mg.am) m.am = (ok, restA (ms.map Mg.am) m.tp)) := fun ok hok => by
      unfold keepA
      rw [if_pos (show m.am.t.kd = 0 by show m.t.kd = 0; rw [hkd, hk0])]
      refine Prod.ext ?_ rfl
      refine dec_of (hok.trans ?_)
      constructor
      · rintro ⟨x, hx, e⟩; exact ⟨x.am, List.mem_map.2 ⟨x, hx, rfl⟩, e⟩
      · rintro ⟨y, hy, e⟩
        obtain ⟨x, hx, rfl⟩ := List.mem_map.1 hy
        exact ⟨x, hx, e⟩
    clear hPP h hd hsm hkd
    obtain ⟨b, hb⟩ : ∃ b, w.heap.size = b := ⟨_, rfl⟩
    obtain ⟨WA, hWA⟩ : ∃ WA, w.alloc (.cells #[.int .i64 m.id, .string m.tp, .int .i64 m.kd, .int .i64 m.di, .int .u64 m.db, .string m.ds, .slice m.q m.n m.c, .int .i64 m.at_, .int .i64 m.un, .string m.rp, .int .i64 m.co, .int .i64 m.pr, .int .i64 m.ho] 36) = WA := ⟨_, rfl⟩
    have hbA : Below w.heap.size w WA := by rw [← hWA]; exact (Below.refl _ w).alloc (Nat.le_refl _) _
    have hbox : WA.heap[b]? = some (.cells #[.int .i64 m.id, .string m.tp, .int .i64 m.kd, .int .i64 m.di, .int .u64 m.db, .string m.ds, .slice m.q m.n m.c, .int .i64 m.at_, .int .i64 m.un, .string m.rp, .int .i64 m.co, .int .i64 m.pr, .int .i64 m.ho] 36 (0, 0)) := by rw [← hWA, ← hb]; exact heap_alloc_new w _
    have HBA := Lib.hid hbA
    have HHA := Lib.hid (HH.out.below hbA)
    have CA := Lib.hid (CN.out WA hbA)
    rw [hk0] at hbox hWA
    have x1 : WA.cell? ⟨b, 1, none⟩ = some (.string m.tp) := by rw [cell_of_row _ _ _ _ _ _ hbox]; rfl
    have x2 : WA.cell? ⟨b, 2, none⟩ = some (.int .i64 0) := by rw [cell_of_row _ _ _ _ _ _ hbox]; rfl
    have xl := (Array.getElem?_eq_some_iff.1 hbox).1
    have d2 := HHA.out.cell2
    have hhA := HHA.out.hub.hlt
    obtain ⟨x, ok, hlk, hok⟩ := HHA.out.kept.look2 (s := m.tp) (by unfold maxLen; omega)
    unfold Mg.val at hlk
    have hkl := HHA.out.kept.map.lt
    have hl1 := hlk WA.drew rfl
    have hl2 := hlk (WA.alloc (.cells #[.int .i64 0, .string ⟨#[]⟩, .int .i64 0, .int .i64 0, .int .u64 0, .string ⟨#[]⟩, .slice none 0 0, .int .i64 0, .int .i64 0, .string ⟨#[]⟩, .int .i64 0, .int .i64 0, .int .i64 0] 36)).drew (Below.heap_alloc _ _ _ hkl)
    have hl3 := hlk (WA.drew.alloc (.cells #[.int .i64 0, .string ⟨#[]⟩, .int .i64 0, .int .i64 0, .int .u64 0, .string ⟨#[]⟩, .slice none 0 0, .int .i64 0, .int .i64 0, .string ⟨#[]⟩, .int .i64 0, .int .i64 0, .int .i64 0] 36)) (Below.heap_alloc _ _ _ hkl)
    have HJ2 := Lib.hid (HJ.out ok hok)
    have HBX := Lib.hid hbox
    have HKEY := Lib.hid hkey
    have HWA := Lib.hid hWA
    clear hWA hbox hbA hok hkey c2 hhl hlk hkl
    go_enter Tryz.func14, Tryz.ntmps14
    go_wp2_with fail
    rw [HWA.out]
    refine CA.out.mono ?_
    rintro e w1 ⟨rfl, hw1⟩
    subst hw1
    go_wp2_with fail
    go_region
    all_goals
      go_simp
      refine k_world (fun W => Below w1.heap.size w1 W) (by first | exact ((Below.refl w1.heap.size w1).alloc (Nat.le_refl _) _).drew | exact (Below.refl w1.heap.size w1).drew.alloc (by simp) _) (fun W5 hb5 => ?_)
      have HH5 := Lib.hid (HHA.out.below hb5)
      have y1 : W5.cell? ⟨b, 1, none⟩ = some (.string m.tp) := (hb5.cell xl).trans x1
      have yl : b < W5.heap.size := Nat.lt_of_lt_of_le xl hb5.size
      have d5 := HH5.out.cell2
      have hh5 := HH5.out.hub.hlt
      have HB5 : Hid (Below w.heap.size w W5.drew) := (HBA.out.trans (hb5.mono HBA.out.size)).drew
      obtain ⟨w4, hdel, hown, hturn⟩ := World.ownsMap.drop (t := 60) (e := 36) (HH5.out.below (Below.drew_of W5)).kept.map string_keys Tryz.underlying60 HKEY.out 0
      have hdel : (Builtin.delete_ #[60, 9] 0 #[.map (some H.km), .string m.tp]).run Tryz.prog W5.drew = .ok (.tuple #[]) w4 := hdel
      have HGR := Lib.hid hturn.grown
      have HK4 := Lib.hid ((HH5.out.below (Below.drew_of W5)).kept.drop hturn.grown hown)
      clear hb5 hown hturn hl1 hl2 hl3 x1 x2 d2 hhA xl
      go_wp2_with fail
      go_region
      all_goals (go_simp; go_wp2_with fail)
      rw [← HPP.out]
      refine ⟨kn, _, KB, _, by (rw [HJ2.out]; try rfl), HH.out.turn HB5.out HGR.out HK4.out (fun b hb => .inl hb), by rw [HJ2.out]; exact abs_rest _ _, by omega, ?_, fun b hb => .inl hb⟩
      exact (Frame.of_below HB5.out).trans ⟨HGR.out.os, HGR.out.tape, HGR.out.output, HGR.out.size, fun b h1 h2 => HGR.out.block b h1 (fun e => h2 (.inl (by injection e)))⟩
  · have HJ : Hid (keepA (ms.map Mg.am) m.am = (true, restA (ms.map Mg.am) m.tp ++ [m.am])) := by
      show _ = _
      unfold keepA
      rw [if_neg (show ¬ m.am.t.kd = 0 by show ¬ m.t.kd = 0; rw [hkd]; exact hk0)]
      rfl
    clear hPP h hd hsm hkd
    obtain ⟨b, hb⟩ : ∃ b, w.heap.size = b := ⟨_, rfl⟩
    obtain ⟨WA, hWA⟩ : ∃ WA, w.alloc (.cells #[.int .i64 m.id, .string m.tp, .int .i64 m.kd, .int .i64 m.di, .int .u64 m.db, .string m.ds, .slice m.q m.n m.c, .int .i64 m.at_, .int .i64 m.un, .string m.rp, .int .i64 m.co, .int .i64 m.pr, .int .i64 m.ho] 36) = WA := ⟨_, rfl⟩
    have hbA : Below w.heap.size w WA := by rw [← hWA]; exact (Below.refl _ w).alloc (Nat.le_refl _) _
    have hbox : WA.heap[b]? = some (.cells #[.int .i64 m.id, .string m.tp, .int .i64 m.kd, .int .i64 m.di, .int .u64 m.db, .string m.ds, .slice m.q m.n m.c, .int .i64 m.at_, .int .i64 m.un, .string m.rp, .int .i64 m.co, .int .i64 m.pr, .int .i64 m.ho] 36 (0, 0)) := by rw [← hWA, ← hb]; exact heap_alloc_new w _
    have HBA := Lib.hid hbA
    have HHA := Lib.hid (HH.out.below hbA)
    have CA := Lib.hid (CN.out WA hbA)
    have x0 : WA.cell? ⟨b, 0, none⟩ = some (.int .i64 m.id) := by rw [cell_of_row _ _ _ _ _ _ hbox]; rfl
    have x1 : WA.cell? ⟨b, 1, none⟩ = some (.string m.tp) := by rw [cell_of_row _ _ _ _ _ _ hbox]; rfl
    have x2 : WA.cell? ⟨b, 2, none⟩ = some (.int .i64 m.kd) := by rw [cell_of_row _ _ _ _ _ _ hbox]; rfl
    have x3 : WA.cell? ⟨b, 3, none⟩ = some (.int .i64 m.di) := by rw [cell_of_row _ _ _ _ _ _ hbox]; rfl
    have x4 : WA.cell? ⟨b, 4, none⟩ = some (.int .u64 m.db) := by rw [cell_of_row _ _ _ _ _ _ hbox]; rfl
    have x5 : WA.cell? ⟨b, 5, none⟩ = some (.string m.ds) := by rw [cell_of_row _ _ _ _ _ _ hbox]; rfl
    have x6 : WA.cell? ⟨b, 6, none⟩ = some (.slice m.q m.n m.c) := by rw [cell_of_row _ _ _ _ _ _ hbox]; rfl
    have x7 : WA.cell? ⟨b, 7, none⟩ = some (.int .i64 m.at_) := by rw [cell_of_row _ _ _ _ _ _ hbox]; rfl
    have x8 : WA.cell? ⟨b, 8, none⟩ = some (.int .i64 m.un) := by rw [cell_of_row _ _ _ _ _ _ hbox]; rfl
    have x9 : WA.cell? ⟨b, 9, none⟩ = some (.string m.rp) := by rw [cell_of_row _ _ _ _ _ _ hbox]; rfl
    have x10 : WA.cell? ⟨b, 10, none⟩ = some (.int .i64 m.co) := by rw [cell_of_row _ _ _ _ _ _ hbox]; rfl
    have x11 : WA.cell? ⟨b, 11, none⟩ = some (.int .i64 m.pr) := by rw [cell_of_row _ _ _ _ _ _ hbox]; rfl
    have x12 : WA.cell? ⟨b, 12, none⟩ = some (.int .i64 m.ho) := by rw [cell_of_row _ _ _ _ _ _ hbox]; rfl
    have z2 := frozen_of_row WA b 2 _ _ hbox
    have z3 := frozen_of_row WA b 3 _ _ hbox
    have z4 := frozen_of_row WA b 4 _ _ hbox
    have z5 := frozen_of_row WA b 5 _ _ hbox
    have z6 := frozen_of_row WA b 6 _ _ hbox
    have xl := (Array.getElem?_eq_some_iff.1 hbox).1
    have hkb : (m.kd == 0) = false := by rw [beq_eq_false_iff_ne]; exact hk0
    have CO : Hid (∀ W, Below w.heap.size w W → Calls Tryz.prog 34 #[.agg #[.int .i64 m.kd, .int .i64 m.di, .int .u64 m.db, .string m.ds, .slice m.q m.n m.c]] W (OwnPost W m.f m.t)) := fun W hb => own_any m.f W m.kd m.di m.db m.ds m.q m.n m.c m.t (DvIs.below hb HD.out) HSM.out
    have HWA := Lib.hid hWA
    have HBX := Lib.hid hbox
    have HKEY := Lib.hid hkey
    clear hWA hbox hbA hkey c2 hhl hk0
    go_enter Tryz.func14, Tryz.ntmps14
    go_wp2_with fail
    rw [HWA.out]
    refine CA.out.mono ?_
    rintro e w1 ⟨rfl, hw1⟩
    subst hw1
    go_wp2_with fail
    refine (CO.out _ HBA.out).mono ?_
    rintro e W2 ⟨a0, a1, a2, a3, aq, an, ac, rfl, hb2, hd2⟩
    obtain ⟨ps, ht1⟩ := DvIs.mk HD.out
    obtain ⟨ps', ht2⟩ := DvIs.mk hd2.is
    rw [ht1] at ht2
    injection ht2 with t0 t1 t2 t3 t4
    subst t0; subst t1; subst t2; subst t3
    have hbox2 : W2.heap[b]? = some (.cells #[.int .i64 m.id, .string m.tp, .int .i64 m.kd, .int .i64 m.di, .int .u64 m.db, .string m.ds, .slice m.q m.n m.c, .int .i64 m.at_, .int .i64 m.un, .string m.rp, .int .i64 m.co, .int .i64 m.pr, .int .i64 m.ho] 36 (0, 0)) := (hb2.block b xl).trans HBX.out
    have yl := (Array.getElem?_eq_some_iff.1 hbox2).1
    have y0 : W2.cell? ⟨b, 0, none⟩ = some (.int .i64 m.id) := by rw [cell_of_row _ _ _ _ _ _ hbox2]; rfl
    have y1 : W2.cell? ⟨b, 1, none⟩ = some (.string m.tp) := by rw [cell_of_row _ _ _ _ _ _ hbox2]; rfl
    have y2 : W2.cell? ⟨b, 2, none⟩ = some (.int .i64 m.kd) := by rw [cell_of_row _ _ _ _ _ _ hbox2]; rfl
    have y3 : W2.cell? ⟨b, 3, none⟩ = some (.int .i64 m.di) := by rw [cell_of_row _ _ _ _ _ _ hbox2]; rfl
    have y4 : W2.cell? ⟨b, 4, none⟩ = some (.int .u64 m.db) := by rw [cell_of_row _ _ _ _ _ _ hbox2]; rfl
    have y5 : W2.cell? ⟨b, 5, none⟩ = some (.string m.ds) := by rw [cell_of_row _ _ _ _ _ _ hbox2]; rfl
    have y6 : W2.cell? ⟨b, 6, none⟩ = some (.slice m.q m.n m.c) := by rw [cell_of_row _ _ _ _ _ _ hbox2]; rfl
    have y7 : W2.cell? ⟨b, 7, none⟩ = some (.int .i64 m.at_) := by rw [cell_of_row _ _ _ _ _ _ hbox2]; rfl
    have y8 : W2.cell? ⟨b, 8, none⟩ = some (.int .i64 m.un) := by rw [cell_of_row _ _ _ _ _ _ hbox2]; rfl
    have y9 : W2.cell? ⟨b, 9, none⟩ = some (.string m.rp) := by rw [cell_of_row _ _ _ _ _ _ hbox2]; rfl
    have y10 : W2.cell? ⟨b, 10, none⟩ = some (.int .i64 m.co) := by rw [cell_of_row _ _ _ _ _ _ hbox2]; rfl
    have y11 : W2.cell? ⟨b, 11, none⟩ = some (.int .i64 m.pr) := by rw [cell_of_row _ _ _ _ _ _ hbox2]; rfl
    have y12 : W2.cell? ⟨b, 12, none⟩ = some (.int .i64 m.ho) := by rw [cell_of_row _ _ _ _ _ _ hbox2]; rfl
    have v2 := frozen_of_row W2 b 2 _ _ hbox2
    have v3 := frozen_of_row W2 b 3 _ _ hbox2
    have v4 := frozen_of_row W2 b 4 _ _ hbox2
    have v5 := frozen_of_row W2 b 5 _ _ hbox2
    have v6 := frozen_of_row W2 b 6 _ _ hbox2
    have HBX2 := Lib.hid hbox2
    have HXL := Lib.hid xl
    have HB2 := Lib.hid hb2
    have HD2 := Lib.hid hd2
    clear x0 x1 x2 x3 x4 x5 x6 x7 x8 x9 x10 x11 x12 z2 z3 z4 z5 z6 xl hb2 hd2 hbox2
    go_upto_region 7 with fail
    refine wp_world (fun W => W.heap[b]? = some (.cells #[.int .i64 m.id, .string m.tp, .int .i64 m.kd, .int .i64 m.di, .int .u64 m.db, .string m.ds, .slice aq an ac, .int .i64 m.at_, .int .i64 m.un, .string m.rp, .int .i64 m.co, .int .i64 m.pr, .int .i64 m.ho] 36 (0, 0)) ∧ W2.grownBy W (some b)) ⟨heap_setCell_same _ b 6 _ _ _ (heap_setCell_same _ b 5 _ _ _ (heap_setCell_same _ b 4 _ _ _ (heap_setCell_same _ b 3 _ _ _ (heap_setCell_same W2 b 2 _ _ _ HBX2.out)))), grown_set (grown_set (grown_set (grown_set (grown_set (grownBy_refl W2 _) _ _) _ _) _ _) _ _) _ _⟩ (fun W3 hW3 => ?_)
    have HG3 := Lib.hid hW3.2
    have hbox3 := hW3.1
    have x0 : W3.cell? ⟨b, 0, none⟩ = some (.int .i64 m.id) := by rw [cell_of_row _ _ _ _ _ _ hbox3]; rfl
    have x1 : W3.cell? ⟨b, 1, none⟩ = some (.string m.tp) := by rw [cell_of_row _ _ _ _ _ _ hbox3]; rfl
    have x2 : W3.cell? ⟨b, 2, none⟩ = some (.int .i64 m.kd) := by rw [cell_of_row _ _ _ _ _ _ hbox3]; rfl
    have x3 : W3.cell? ⟨b, 3, none⟩ = some (.int .i64 m.di) := by rw [cell_of_row _ _ _ _ _ _ hbox3]; rfl
    have x4 : W3.cell? ⟨b, 4, none⟩ = some (.int .u64 m.db) := by rw [cell_of_row _ _ _ _ _ _ hbox3]; rfl
    have x5 : W3.cell? ⟨b, 5, none⟩ = some (.string m.ds) := by rw [cell_of_row _ _ _ _ _ _ hbox3]; rfl
    have x6 : W3.cell? ⟨b, 6, none⟩ = some (.slice aq an ac) := by rw [cell_of_row _ _ _ _ _ _ hbox3]; rfl
    have x7 : W3.cell? ⟨b, 7, none⟩ = some (.int .i64 m.at_) := by rw [cell_of_row _ _ _ _ _ _ hbox3]; rfl
    have x8 : W3.cell? ⟨b, 8, none⟩ = some (.int .i64 m.un) := by rw [cell_of_row _ _ _ _ _ _ hbox3]; rfl
    have x9 : W3.cell? ⟨b, 9, none⟩ = some (.string m.rp) := by rw [cell_of_row _ _ _ _ _ _ hbox3]; rfl
    have x10 : W3.cell? ⟨b, 10, none⟩ = some (.int .i64 m.co) := by rw [cell_of_row _ _ _ _ _ _ hbox3]; rfl
    have x11 : W3.cell? ⟨b, 11, none⟩ = some (.int .i64 m.pr) := by rw [cell_of_row _ _ _ _ _ _ hbox3]; rfl
    have x12 : W3.cell? ⟨b, 12, none⟩ = some (.int .i64 m.ho) := by rw [cell_of_row _ _ _ _ _ _ hbox3]; rfl
    have xl := (Array.getElem?_eq_some_iff.1 hbox3).1
    have HBW : Hid (Below w.heap.size w W3) := (HBA.out.trans (HB2.out.mono HBA.out.size)).grown HG3.out (Nat.le_trans HBA.out.size HB2.out.size) (fun k hk => by injection hk with hk; omega)
    have HH3 := Lib.hid (HH.out.below HBW.out)
    have d2 := HH3.out.cell2
    have hh3 := HH3.out.hub.hlt
    clear y0 y1 y2 y3 y4 y5 y6 y7 y8 y9 y10 y11 y12 v2 v3 v4 v5 v6 yl hW3 hbox3
    have HBD : Hid (Below w.heap.size w W3.drew) := HBW.out.drew
    obtain ⟨w4, hst, hown, hturn⟩ := (HH.out.below HBD.out).kept.map.store (t := 60) (e := 36) string_keys Tryz.underlying60 (by unfold maxLen; omega) HKEY.out (val := .agg #[.int .i64 m.id, .string m.tp, .int .i64 m.kd, .int .i64 m.di, .int .u64 m.db, .string m.ds, .slice aq an ac, .int .i64 m.at_, .int .i64 m.un, .string m.rp, .int .i64 m.co, .int .i64 m.pr, .int .i64 m.ho]) (d := .held (.agg #[.int .i64 m.id, .string m.tp, .int .i64 m.kd, .int .i64 m.di, .int .u64 m.db, .string m.ds, .slice aq an ac, .int .i64 m.at_, .int .i64 m.un, .string m.rp, .int .i64 m.co, .int .i64 m.pr, .int .i64 m.ho])) (ps := []) rfl
    have hst : (Instr.mapUpdate 60 (.map (some H.km)) (.string m.tp) (.agg #[.int .i64 m.id, .string m.tp, .int .i64 m.kd, .int .i64 m.di, .int .u64 m.db, .string m.ds, .slice aq an ac, .int .i64 m.at_, .int .i64 m.un, .string m.rp, .int .i64 m.co, .int .i64 m.pr, .int .i64 m.ho])).run Tryz.prog W3.drew = .ok () w4 := hst
    have HGR := Lib.hid hturn.grown
    have hdv : DvIn (fun b => w.heap.size ≤ b ∧ b < W3.drew.heap.size) W3.drew m.f [.int .i64 m.kd, .int .i64 m.di, .int .u64 m.db, .string m.ds, .slice aq an ac] m.t := HD2.out.kept (Q := fun b => w.heap.size ≤ b ∧ b < W3.drew.heap.size) (w' := W3.drew) fun c hc hl => ⟨HG3.out.block c hl (fun e => by have h1 : w1.heap.size ≤ c := hc.1; have h2 := HXL.out; injection e with e; omega), by have h1 : w1.heap.size ≤ c := hc.1; have h2 := HBA.out.size; omega, Nat.lt_of_lt_of_le hl HG3.out.size⟩
    have HK4 := Lib.hid (HH.out.kept.put (m := { m with q := aq, n := an, c := ac }) HBD.out hdv HSM.out htp hbase hturn.grown hown)
    clear hown hturn hdv
    go_region
    all_goals
      go_simp
      go_wp2_with fail
      rw [← HPP.out]
      refine ⟨kn + 1, _, _, _, by (rw [HJ.out]; try rfl), HH.out.turn HBD.out HGR.out HK4.out (fun c hc => by rcases hc with hc | hc; exact .inl hc; exact .inr hc.1), ?_, Nat.le_refl _, ?_, fun c hc => by rcases hc with hc | hc; exact .inl hc; exact .inr hc.1⟩
      · rw [HJ.out]
        show ((ms.filter fun x : Mg => decide (x.tp.data.toList ≠ m.tp.data.toList)) ++ [{ m with q := aq, n := an, c := ac }]).map Mg.am = _
        rw [List.map_append, abs_rest]
        rfl
      · exact (Frame.of_below HBD.out).trans ⟨HGR.out.os, HGR.out.tape, HGR.out.output, HGR.out.size, fun c h1 h2 => HGR.out.block c h1 (fun e => h2 (.inl (by injection e)))⟩
end Go.Proofs.YtincmegllckcjaaGreatDoor
