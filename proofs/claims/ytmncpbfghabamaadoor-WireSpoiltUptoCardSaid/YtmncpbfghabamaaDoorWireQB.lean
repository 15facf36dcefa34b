/- WIRE: the reference reads a value: the kinds without parts. WIRE: the reference reads a value: the kinds of one reading. WIRE: the reference reads a value: no byte left. WIRE: the reference reads a value: no such kind. WIRE: the reference reads a value: a truth. WIRE: the reference's list where the reader has stopped, and what a list brings a value. WIRE: the reference reads a value: an error. WIRE: the reference reads a value: a pair. WIRE: the reference reads a value: a list. WIRE: the reference reads a value: eight bytes. WIRE: the reference reads a value: a pointer. WIRE: the reference reads any value; its Read. -/
import Derived.Test.YtmncpbfghabamaaDoorWireQA
namespace Go.Proofs.YtmncpbfghabamaaDoor
open Go Go.RowKit
attribute [local go_sem ↓] Go.wp_at_zero Go.wp_at_succ

/-- what holds behind the byte of the kind -/
structure QD (Br D : Nat) (v : Value) (s : Qs) (kd di db : Int) (ds : ByteArray) (va : Value) (W W1 : World) : Prop where
  qb : QB W1 Br v s
  but : But Br W W1
  res : DB W1 W.heap.size 0 0 0 ⟨#[]⟩ (.slice none 0 0)
  own : DB W1 D kd di db ds va
/-- a value without parts -/
theorem valD_leaf {f deep parts kd u : Nat} {c : UInt8} {r : List UInt8} {o : Own} (hc : c.toNat = kd) (hk : kd < 14) (hn : needs kd = 0) (ho : ownD (roomOf deep parts) kd r = .done o u) (h0 : o.n = 0) :
    valD (f + 1) deep parts (c :: r) = .done (.mk kd o.di o.db o.ds [], parts) (1 + u) := by
  subst hc
  rw [valD, if_neg (by omega), if_neg (by omega), ho]
  simp only [Rd.bind_done]
  rw [h0]
  simp [listD]
theorem valD_short {f deep parts kd : Nat} {c : UInt8} {r : List UInt8} (hc : c.toNat = kd) (hk : kd < 14) (hn : needs kd = 0) (ho : ownD (roomOf deep parts) kd r = .short) : valD (f + 1) deep parts (c :: r) = .short := by
  subst hc
  rw [valD, if_neg (by omega), if_neg (by omega), ho]
  rfl
theorem valD_badO {f deep parts kd : Nat} {c : UInt8} {r : List UInt8} (hc : c.toNat = kd) (hk : kd < 14) (hn : needs kd = 0) (ho : ownD (roomOf deep parts) kd r = .bad) : valD (f + 1) deep parts (c :: r) = .bad := by
  subst hc
  rw [valD, if_neg (by omega), if_neg (by omega), ho]
  rfl
/-- no parts -/
theorem DvIn.leaf (P : Nat → Prop) (W : World) (f : Nat) {kd di db : Int} {ds : ByteArray} (h1 : I64 kd) (h2 : I64 di) (h3 : 0 ≤ db ∧ db < 18446744073709551616) :
    DvIn P W (f + 1) [.int .i64 kd, .int .i64 di, .int .u64 db, .string ds, .slice none 0 0] (.mk kd di db ds []) :=
  ⟨none, 0, rfl, h1, h2, h3, Nat.le_refl _, by omega, fun h => absurd h (Nat.lt_irrefl _)⟩
set_option maxRecDepth 100000 in
set_option maxHeartbeats 4000000 in
theorem qvalue_none (l : List UInt8) (Br f deep parts kd : Nat) (v : Value) (c : UInt8) (r : List UInt8) (s : Qs) (W : World) (hr : QB W Br v s) (hv : Bs W v l) (hl : l.length ≤ 100000000) (he : s.ok = true) (hp : s.pos ≤ l.length) (hpt : s.parts = 4096 - (parts : Nat)) (hcr : l.drop s.pos = c :: r) (hc : c.toNat = kd) (hk : kd = 0 ∨ kd = 12 ∨ kd = 13) :
    Calls Tryd.prog 37 #[.pointer (some ⟨Br, 0, none⟩), .int .i64 (deep : Nat)] W (QVPost l Br v s (f + 1) deep parts W) := by
  obtain ⟨PP, hPP⟩ : ∃ PP, QVPost l Br v s (f + 1) deep parts W = PP := ⟨_, rfl⟩
  rw [hPP]
  have HPP := Lib.hid hPP
  have HR := Lib.hid hr
  have HV := Lib.hid hv
  have HVS := Lib.hid hv.slice
  have HE : Hid (s.ok = true) := he
  have hpl : s.pos < l.length := by
    have h := congrArg List.length hcr
    rw [List.length_drop, List.length_cons] at h
    omega
  have hcc : l.getD s.pos 0 = c := by
    have h := congrArg (fun x => x[0]?) hcr
    simp at h
    simp [List.getD, h]
  have HB : Hid (byteQ l s = (c, { s with pos := s.pos + 1 })) := by show _ = _; unfold byteQ; rw [if_neg (by rw [he]; decide), if_pos hpl, hcc]
  have HVD : Hid (valD (f + 1) deep parts (l.drop s.pos) = .done (.mk kd 0 0 ⟨#[]⟩ [], parts) (1 + 0)) := by
    show _ = _
    rw [hcr]
    exact valD_leaf (o := ⟨0, 0, ⟨#[]⟩, 0⟩) hc (by omega) (by unfold needs; rw [if_neg (by omega), if_neg (by omega)]) (by unfold ownD; rcases hk with rfl | rfl | rfl <;> rfl) rfl
  have hlt := hr.cells.2.2.2.2.2
  have HA0 : Hid (But Br W (W.alloc (.cells #[.int .i64 0, .int .i64 0, .int .u64 0, .string ⟨#[]⟩, .slice none 0 0] 25))) := (But.refl Br W).alloc _
  have HD0 : Hid (DB (W.alloc (.cells #[.int .i64 0, .int .i64 0, .int .u64 0, .string ⟨#[]⟩, .slice none 0 0] 25)) W.heap.size 0 0 0 ⟨#[]⟩ (.slice none 0 0)) := heap_alloc_new W _
  have HPT := Lib.hid hpt
  clear hPP hr hv he hcr hcc hpt
  go_enter Tryd.func37, Tryd.ntmps37
  go_wp2_with fail
  refine (qbyte_any l Br v s _ (HR.out.alloc _) (HV.out.butQ HR.out HVS.out HA0.out) hl hp).mono ?_
  rintro e W1 ⟨rfl, h1, h2⟩
  rw [HB.out] at h1 ⊢
  simp only [hc]
  have hne0 : W.heap.size ≠ Br := by omega
  have D1 := Lib.hid (HD0.out.but h2 hne0)
  have B1 := Lib.hid (HA0.out.trans h2)
  have G1 := Lib.hid h1
  have hsz := h2.size
  rw [World.size_alloc] at hsz
  obtain ⟨e0, e1, e2, e3, e4, hlte⟩ := D1.out.cells
  have r0 := D1.out.free 0
  have r1 := D1.out.free 1
  have r2 := D1.out.free 2
  have r3 := D1.out.free 3
  have r4 := D1.out.free 4
  have HKD : Hid (I64 (kd : Nat)) := by show I64 _; unfold I64; omega
  have HPL := Lib.hid hpl
  clear h1 h2 hc
  rcases hk with rfl | rfl | rfl
  all_goals
    go_wp2_with fail
    refine bodyPost_ret (res_value (B := W.heap.size) (DB.alloc (D1.out.set5 _ 0 0 ⟨#[]⟩ (.slice none 0 0)) _) rfl _ rfl) rfl ?_
    rw [← HPP.out]
    refine ⟨_, 0, 0, ⟨#[]⟩, none, 0, 0, _, rfl, (G1.out.set5 _ hne0 _ _ _ _ _).alloc _, (B1.out.set5 _ (Nat.le_refl _) _ _ _ _ _).alloc _, HPL.out, ?_⟩
    rw [HVD.out]
    exact ⟨rfl, HE.out, HPT.out, DvIn.leaf _ _ _ HKD.out (by unfold I64; omega) (by omega)⟩

set_option maxRecDepth 100000 in
set_option maxHeartbeats 8000000 in
theorem qvalue_signed (l : List UInt8) (Br f deep parts kd : Nat) (v : Value) (c : UInt8) (r : List UInt8) (s : Qs) (W : World) (hr : QB W Br v s) (hv : Bs W v l) (hl : l.length ≤ 100000000) (he : s.ok = true) (hp : s.pos ≤ l.length) (hpt : s.parts = 4096 - (parts : Nat)) (hcr : l.drop s.pos = c :: r) (hc : c.toNat = kd) (hk : kd = 1 ∨ kd = 2) :
    Calls Tryd.prog 37 #[.pointer (some ⟨Br, 0, none⟩), .int .i64 (deep : Nat)] W (QVPost l Br v s (f + 1) deep parts W) := by
  have hpl2 : l.drop (s.pos + 1) = r := by rw [← List.drop_drop, hcr]; rfl
  obtain ⟨PP, hPP⟩ : ∃ PP, QVPost l Br v s (f + 1) deep parts W = PP := ⟨_, rfl⟩
  rw [hPP]
  have HPP := Lib.hid hPP
  have HR := Lib.hid hr
  have HV := Lib.hid hv
  have HVS := Lib.hid hv.slice
  have HE : Hid (s.ok = true) := he
  have hpl : s.pos < l.length := by
    have h := congrArg List.length hcr
    rw [List.length_drop, List.length_cons] at h
    omega
  have hcc : l.getD s.pos 0 = c := by
    have h := congrArg (fun x => x[0]?) hcr
    simp at h
    simp [List.getD, h]
  have HB : Hid (byteQ l s = (c, { s with pos := s.pos + 1 })) := by show _ = _; unfold byteQ; rw [if_neg (by rw [he]; decide), if_pos hpl, hcc]
  have HCR := Lib.hid hcr
  have HP2 := Lib.hid hpl2
  have HC := Lib.hid hc
  have hlt := hr.cells.2.2.2.2.2
  have HA0 : Hid (But Br W (W.alloc (.cells #[.int .i64 0, .int .i64 0, .int .u64 0, .string ⟨#[]⟩, .slice none 0 0] 25))) := (But.refl Br W).alloc _
  have HD0 : Hid (DB (W.alloc (.cells #[.int .i64 0, .int .i64 0, .int .u64 0, .string ⟨#[]⟩, .slice none 0 0] 25)) W.heap.size 0 0 0 ⟨#[]⟩ (.slice none 0 0)) := heap_alloc_new W _
  have HPT := Lib.hid hpt
  clear hPP hr hv he hcc hpt
  go_enter Tryd.func37, Tryd.ntmps37
  go_wp2_with fail
  refine (qbyte_any l Br v s _ (HR.out.alloc _) (HV.out.butQ HR.out HVS.out HA0.out) hl hp).mono ?_
  rintro e W1 ⟨rfl, h1, h2⟩
  rw [HB.out] at h1 ⊢
  simp only [hc]
  have hne0 : W.heap.size ≠ Br := by omega
  have D1 := Lib.hid (HD0.out.but h2 hne0)
  have B1 := Lib.hid (HA0.out.trans h2)
  have G1 := Lib.hid h1
  have hsz := h2.size
  rw [World.size_alloc] at hsz
  obtain ⟨e0, e1, e2, e3, e4, hlte⟩ := D1.out.cells
  have r0 := D1.out.free 0
  have r1 := D1.out.free 1
  have r2 := D1.out.free 2
  have r3 := D1.out.free 3
  have r4 := D1.out.free 4
  have HKD : Hid (I64 (kd : Nat)) := by show I64 _; unfold I64; omega
  have HPL := Lib.hid hpl
  clear h1 h2 hc hcr hpl2
  have HNE : Hid (W1.heap.size ≠ W.heap.size) := by show _ ≠ _; omega
  have HKK := Lib.hid hk
  have hn1 : ¬ W1.heap.size = W.heap.size := by omega
  have hn2 : ¬ W.heap.size = W1.heap.size := by omega
  have HO1 : Hid (∀ k : Int, DB (W1.alloc (.cells #[.int .i64 k, .int .i64 0, .int .u64 0, .string ⟨#[]⟩, .slice none 0 0] 25)) W1.heap.size k 0 0 ⟨#[]⟩ (.slice none 0 0)) := fun k => heap_alloc_new W1 _
  have HBd : Hid (W1.heap.size ≠ Br) := by show _ ≠ _; omega
  have HBs : Hid (∀ o, Bs (W1.alloc o) v l) := fun o => HV.out.butQ HR.out HVS.out (B1.out.alloc o)
  rcases hk with rfl | rfl
  all_goals
    go_wp2_with fail
    refine (qsigned_all l Br v _ _ (G1.out.alloc _) (HBs.out _) hl HPL.out).mono ?_
    rintro e W2 ⟨x, s', rfl, g1, g2, g3⟩
    have D2 := Lib.hid ((D1.out.alloc (.cells #[_, .int .i64 0, .int .u64 0, .string ⟨#[]⟩, .slice none 0 0] 25)).but g2 hne0)
    have O2 := Lib.hid ((HO1.out _).but g2 HBd.out)
    have B2 := Lib.hid ((B1.out.alloc _).trans g2)
    have R2 := Lib.hid g1
    have A2 := Lib.hid g3
    clear e0 e1 e2 e3 e4 hlte r0 r1 r2 r3 r4 g1 g2 g3
    obtain ⟨e0, e1, e2, e3, e4, hlte⟩ := D2.out.cells
    obtain ⟨d0, d1, d2, d3, d4, hltd⟩ := O2.out.cells
    have r0 := D2.out.free 0
    have r1 := D2.out.free 1
    have r2 := D2.out.free 2
    have r3 := D2.out.free 3
    have r4 := D2.out.free 4
    have q1 := O2.out.free 1
    have q3 := O2.out.free 3
    go_wp2_with fail
    refine bodyPost_ret (res_value (B := W.heap.size) ((D2.out.setOther ⟨W1.heap.size, 1, none⟩ _ HNE.out).set5 _ x 0 ⟨#[]⟩ (.slice none 0 0)) rfl _ rfl) rfl ?_
    rw [← HPP.out]
    refine ⟨_, x, 0, ⟨#[]⟩, none, 0, 0, s', rfl, (R2.out.setOther ⟨W1.heap.size, 1, none⟩ _ HBd.out).set5 _ hne0 _ _ _ _ _, (B2.out.set ⟨W1.heap.size, 1, none⟩ _ (.inr (Nat.le_of_succ_le hsz))).set5 _ (Nat.le_refl _) _ _ _ _ _, A2.out.2.1, ?_⟩
    obtain ⟨a1, a2, a3⟩ := A2.out
    rcases a3 with ⟨b1, -⟩ | ⟨-, b2⟩
    · exact absurd (show s.ok = false from b1) (by rw [HE.out]; decide)
    · have hP2 : l.drop (s.pos + 1) = r := HP2.out
      rw [HCR.out]
      rw [show ({ s with pos := s.pos + 1 } : Qs).pos = s.pos + 1 from rfl, hP2] at b2
      cases hs : sigD r with
      | done y n =>
        rw [hs] at b2
        obtain ⟨rfl, z2, z3⟩ := b2
        have hx := (sigD_back hs).2.2
        rw [valD_leaf (o := ⟨x, 0, .empty, 0⟩) (u := n) HC.out (by omega) (by decide) (by unfold ownD; simp [hs]) rfl]
        exact ⟨by rw [z2]; show s.pos + 1 + n = _; omega, z3, by rw [a1]; exact HPT.out, DvIn.leaf _ _ _ HKD.out hx (by omega)⟩
      | short =>
        rw [hs] at b2
        rw [valD_short HC.out (by omega) (by decide) (by unfold ownD; simp [hs])]
        exact b2.2
      | bad =>
        rw [hs] at b2
        rw [valD_badO HC.out (by omega) (by decide) (by unfold ownD; simp [hs])]
        exact b2.2
set_option maxRecDepth 100000 in
set_option maxHeartbeats 8000000 in
theorem qvalue_text (l : List UInt8) (Br f deep parts kd : Nat) (v : Value) (c : UInt8) (r : List UInt8) (s : Qs) (W : World) (hr : QB W Br v s) (hv : Bs W v l) (hl : l.length ≤ 100000000) (he : s.ok = true) (hp : s.pos ≤ l.length) (hpt : s.parts = 4096 - (parts : Nat)) (hcr : l.drop s.pos = c :: r) (hc : c.toNat = kd) (hk : kd = 4 ∨ kd = 5 ∨ kd = 7) :
    Calls Tryd.prog 37 #[.pointer (some ⟨Br, 0, none⟩), .int .i64 (deep : Nat)] W (QVPost l Br v s (f + 1) deep parts W) := by
  have hpl2 : l.drop (s.pos + 1) = r := by rw [← List.drop_drop, hcr]; rfl
  obtain ⟨PP, hPP⟩ : ∃ PP, QVPost l Br v s (f + 1) deep parts W = PP := ⟨_, rfl⟩
  rw [hPP]
  have HPP := Lib.hid hPP
  have HR := Lib.hid hr
  have HV := Lib.hid hv
  have HVS := Lib.hid hv.slice
  have HE : Hid (s.ok = true) := he
  have hpl : s.pos < l.length := by
    have h := congrArg List.length hcr
    rw [List.length_drop, List.length_cons] at h
    omega
  have hcc : l.getD s.pos 0 = c := by
    have h := congrArg (fun x => x[0]?) hcr
    simp at h
    simp [List.getD, h]
  have HB : Hid (byteQ l s = (c, { s with pos := s.pos + 1 })) := by show _ = _; unfold byteQ; rw [if_neg (by rw [he]; decide), if_pos hpl, hcc]
  have HCR := Lib.hid hcr
  have HP2 := Lib.hid hpl2
  have HC := Lib.hid hc
  have hlt := hr.cells.2.2.2.2.2
  have HA0 : Hid (But Br W (W.alloc (.cells #[.int .i64 0, .int .i64 0, .int .u64 0, .string ⟨#[]⟩, .slice none 0 0] 25))) := (But.refl Br W).alloc _
  have HD0 : Hid (DB (W.alloc (.cells #[.int .i64 0, .int .i64 0, .int .u64 0, .string ⟨#[]⟩, .slice none 0 0] 25)) W.heap.size 0 0 0 ⟨#[]⟩ (.slice none 0 0)) := heap_alloc_new W _
  have HPT := Lib.hid hpt
  clear hPP hr hv he hcc hpt
  go_enter Tryd.func37, Tryd.ntmps37
  go_wp2_with fail
  refine (qbyte_any l Br v s _ (HR.out.alloc _) (HV.out.butQ HR.out HVS.out HA0.out) hl hp).mono ?_
  rintro e W1 ⟨rfl, h1, h2⟩
  rw [HB.out] at h1 ⊢
  simp only [hc]
  have hne0 : W.heap.size ≠ Br := by omega
  have D1 := Lib.hid (HD0.out.but h2 hne0)
  have B1 := Lib.hid (HA0.out.trans h2)
  have G1 := Lib.hid h1
  have hsz := h2.size
  rw [World.size_alloc] at hsz
  obtain ⟨e0, e1, e2, e3, e4, hlte⟩ := D1.out.cells
  have r0 := D1.out.free 0
  have r1 := D1.out.free 1
  have r2 := D1.out.free 2
  have r3 := D1.out.free 3
  have r4 := D1.out.free 4
  have HKD : Hid (I64 (kd : Nat)) := by show I64 _; unfold I64; omega
  have HPL := Lib.hid hpl
  clear h1 h2 hc hcr hpl2
  have HNE : Hid (W1.heap.size ≠ W.heap.size) := by show _ ≠ _; omega
  have HKK := Lib.hid hk
  have hn1 : ¬ W1.heap.size = W.heap.size := by omega
  have hn2 : ¬ W.heap.size = W1.heap.size := by omega
  have HO1 : Hid (∀ k : Int, DB (W1.alloc (.cells #[.int .i64 k, .int .i64 0, .int .u64 0, .string ⟨#[]⟩, .slice none 0 0] 25)) W1.heap.size k 0 0 ⟨#[]⟩ (.slice none 0 0)) := fun k => heap_alloc_new W1 _
  have HBd : Hid (W1.heap.size ≠ Br) := by show _ ≠ _; omega
  have HBs : Hid (∀ o, Bs (W1.alloc o) v l) := fun o => HV.out.butQ HR.out HVS.out (B1.out.alloc o)
  rcases hk with rfl | rfl | rfl
  all_goals
    go_wp2_with fail
    refine (qtext_all l Br v _ 65535 _ (G1.out.alloc _) (HBs.out _) hl HPL.out (by omega)).mono ?_
    rintro e W2 ⟨x, s', rfl, g1, g2, g3⟩
    have D2 := Lib.hid ((D1.out.alloc (.cells #[_, .int .i64 0, .int .u64 0, .string ⟨#[]⟩, .slice none 0 0] 25)).but g2 hne0)
    have O2 := Lib.hid ((HO1.out _).but g2 HBd.out)
    have B2 := Lib.hid ((B1.out.alloc _).trans g2)
    have R2 := Lib.hid g1
    have A2 := Lib.hid g3
    clear e0 e1 e2 e3 e4 hlte r0 r1 r2 r3 r4 g1 g2 g3
    obtain ⟨e0, e1, e2, e3, e4, hlte⟩ := D2.out.cells
    obtain ⟨d0, d1, d2, d3, d4, hltd⟩ := O2.out.cells
    have r0 := D2.out.free 0
    have r1 := D2.out.free 1
    have r2 := D2.out.free 2
    have r3 := D2.out.free 3
    have r4 := D2.out.free 4
    have q1 := O2.out.free 1
    have q3 := O2.out.free 3
    go_wp2_with fail
    refine bodyPost_ret (res_value (B := W.heap.size) ((D2.out.setOther ⟨W1.heap.size, 3, none⟩ _ HNE.out).set5 _ 0 0 x (.slice none 0 0)) rfl _ rfl) rfl ?_
    rw [← HPP.out]
    refine ⟨_, 0, 0, x, none, 0, 0, s', rfl, (R2.out.setOther ⟨W1.heap.size, 3, none⟩ _ HBd.out).set5 _ hne0 _ _ _ _ _, (B2.out.set ⟨W1.heap.size, 3, none⟩ _ (.inr (Nat.le_of_succ_le hsz))).set5 _ (Nat.le_refl _) _ _ _ _ _, A2.out.2.1, ?_⟩
    obtain ⟨a1, a2, a3⟩ := A2.out
    rcases a3 with ⟨b1, -⟩ | ⟨-, b2⟩
    · exact absurd (show s.ok = false from b1) (by rw [HE.out]; decide)
    · have hP2 : l.drop (s.pos + 1) = r := HP2.out
      rw [HCR.out]
      rw [show ({ s with pos := s.pos + 1 } : Qs).pos = s.pos + 1 from rfl, hP2] at b2
      cases hs : textD 65535 r with
      | done y n =>
        rw [hs] at b2
        obtain ⟨rfl, z2, z3⟩ := b2
        rw [valD_leaf (o := ⟨0, 0, x, 0⟩) (u := n) HC.out (by omega) (by decide) (by unfold ownD; simp [hs]) rfl]
        exact ⟨by rw [z2]; show s.pos + 1 + n = _; omega, z3, by rw [a1]; exact HPT.out, DvIn.leaf _ _ _ HKD.out i64_zero (by omega)⟩
      | short =>
        rw [hs] at b2
        rw [valD_short HC.out (by omega) (by decide) (by unfold ownD; simp [hs])]
        exact b2.2
      | bad =>
        rw [hs] at b2
        rw [valD_badO HC.out (by omega) (by decide) (by unfold ownD; simp [hs])]
        exact b2.2

set_option maxRecDepth 100000 in
set_option maxHeartbeats 4000000 in
theorem qvalue_short (l : List UInt8) (Br f deep parts : Nat) (v : Value) (s : Qs) (W : World) (hr : QB W Br v s) (hv : Bs W v l) (hl : l.length ≤ 100000000) (hp : s.pos ≤ l.length) (he : s.ok = true) (hd : l.drop s.pos = []) :
    Calls Tryd.prog 37 #[.pointer (some ⟨Br, 0, none⟩), .int .i64 (deep : Nat)] W (QVPost l Br v s (f + 1) deep parts W) := by
  obtain ⟨PP, hPP⟩ : ∃ PP, QVPost l Br v s (f + 1) deep parts W = PP := ⟨_, rfl⟩
  rw [hPP]
  have HPP := Lib.hid hPP
  have HR := Lib.hid hr
  have HV := Lib.hid hv
  have HVS := Lib.hid hv.slice
  have HB : Hid (byteQ l s = (0, { s with short := true })) := by show _ = _; unfold byteQ; rw [if_neg (by rw [he]; decide), if_neg (by have h := congrArg List.length hd; rw [List.length_drop, List.length_nil] at h; omega)]
  have HBF : Hid (s.bad = false) := by unfold Qs.ok at he; simp at he; exact he.2
  have HDR := Lib.hid hd
  have hlt := hr.cells.2.2.2.2.2
  have HA0 : Hid (But Br W (W.alloc (.cells #[.int .i64 0, .int .i64 0, .int .u64 0, .string ⟨#[]⟩, .slice none 0 0] 25))) := (But.refl Br W).alloc _
  have HD0 : Hid (DB (W.alloc (.cells #[.int .i64 0, .int .i64 0, .int .u64 0, .string ⟨#[]⟩, .slice none 0 0] 25)) W.heap.size 0 0 0 ⟨#[]⟩ (.slice none 0 0)) := heap_alloc_new W _
  clear hPP hr hv he hd
  go_enter Tryd.func37, Tryd.ntmps37
  go_wp2_with fail
  refine (qbyte_any l Br v s _ (HR.out.alloc _) (HV.out.butQ HR.out HVS.out HA0.out) hl hp).mono ?_
  rintro e W1 ⟨rfl, h1, h2⟩
  rw [HB.out] at h1 ⊢
  have hne0 : W.heap.size ≠ Br := by omega
  have D1 := Lib.hid (HD0.out.but h2 hne0)
  have B1 := Lib.hid (HA0.out.trans h2)
  have G1 := Lib.hid h1
  have hsz := h2.size
  rw [World.size_alloc] at hsz
  obtain ⟨e0, e1, e2, e3, e4, hlte⟩ := D1.out.cells
  have r0 := D1.out.free 0
  have r1 := D1.out.free 1
  have r2 := D1.out.free 2
  have r3 := D1.out.free 3
  have r4 := D1.out.free 4
  clear h1 h2
  have hw0 : IntKind.i64.wrap 0 = 0 := rfl
  go_wp2_with fail
  refine bodyPost_ret (res_value (B := W.heap.size) (DB.alloc (D1.out.set5 0 0 0 ⟨#[]⟩ (.slice none 0 0)) _) rfl _ rfl) rfl ?_
  rw [← HPP.out]
  refine ⟨0, 0, 0, ⟨#[]⟩, none, 0, 0, _, rfl, (G1.out.set5 _ hne0 _ _ _ _ _).alloc _, (B1.out.set5 _ (Nat.le_refl _) _ _ _ _ _).alloc _, hp, ?_⟩
  rw [HDR.out, valD]
  exact ⟨rfl, HBF.out⟩

set_option maxRecDepth 100000 in
set_option maxHeartbeats 4000000 in
theorem qvalue_over (l : List UInt8) (Br f deep parts kd : Nat) (v : Value) (c : UInt8) (r : List UInt8) (s : Qs) (W : World) (hr : QB W Br v s) (hv : Bs W v l) (hl : l.length ≤ 100000000) (he : s.ok = true) (hp : s.pos ≤ l.length) (hcr : l.drop s.pos = c :: r) (hc : c.toNat = kd) (hk : 14 ≤ kd) :
    Calls Tryd.prog 37 #[.pointer (some ⟨Br, 0, none⟩), .int .i64 (deep : Nat)] W (QVPost l Br v s (f + 1) deep parts W) := by
  obtain ⟨PP, hPP⟩ : ∃ PP, QVPost l Br v s (f + 1) deep parts W = PP := ⟨_, rfl⟩
  rw [hPP]
  have HPP := Lib.hid hPP
  have HR := Lib.hid hr
  have HV := Lib.hid hv
  have HVS := Lib.hid hv.slice
  have HE : Hid (s.ok = true) := he
  have hpl : s.pos < l.length := by
    have h := congrArg List.length hcr
    rw [List.length_drop, List.length_cons] at h
    omega
  have hcc : l.getD s.pos 0 = c := by
    have h := congrArg (fun x => x[0]?) hcr
    simp at h
    simp [List.getD, h]
  have HB : Hid (byteQ l s = (c, { s with pos := s.pos + 1 })) := by show _ = _; unfold byteQ; rw [if_neg (by rw [he]; decide), if_pos hpl, hcc]
  have HVD : Hid (valD (f + 1) deep parts (l.drop s.pos) = .bad) := by
    show _ = _
    rw [hcr, valD, if_pos (by omega)]
  have hlt := hr.cells.2.2.2.2.2
  have HA0 : Hid (But Br W (W.alloc (.cells #[.int .i64 0, .int .i64 0, .int .u64 0, .string ⟨#[]⟩, .slice none 0 0] 25))) := (But.refl Br W).alloc _
  have HD0 : Hid (DB (W.alloc (.cells #[.int .i64 0, .int .i64 0, .int .u64 0, .string ⟨#[]⟩, .slice none 0 0] 25)) W.heap.size 0 0 0 ⟨#[]⟩ (.slice none 0 0)) := heap_alloc_new W _
  clear hPP hr hv he hcr hcc
  go_enter Tryd.func37, Tryd.ntmps37
  go_wp2_with fail
  refine (qbyte_any l Br v s _ (HR.out.alloc _) (HV.out.butQ HR.out HVS.out HA0.out) hl hp).mono ?_
  rintro e W1 ⟨rfl, h1, h2⟩
  rw [HB.out] at h1 ⊢
  simp only [hc]
  have hne0 : W.heap.size ≠ Br := by omega
  have D1 := Lib.hid (HD0.out.but h2 hne0)
  have B1 := Lib.hid (HA0.out.trans h2)
  have G1 := Lib.hid h1
  have hsz := h2.size
  rw [World.size_alloc] at hsz
  obtain ⟨e0, e1, e2, e3, e4, hlte⟩ := D1.out.cells
  have r0 := D1.out.free 0
  have r1 := D1.out.free 1
  have r2 := D1.out.free 2
  have r3 := D1.out.free 3
  have r4 := D1.out.free 4
  obtain ⟨c0, c1, c2, c3, c4, hltc⟩ := G1.out.cells
  have hf4 := G1.out.free 4
  have hkI : (14 : Int) ≤ (kd : Int) := by omega
  have hk256 : kd < 256 := by rw [← hc]; exact c.toNat_lt
  have hw : IntKind.i64.wrap (kd : Int) = (kd : Int) := i64_wrap_nat (by omega)
  have hn1 : ¬ W1.heap.size = Br := by omega
  have hn2 : ¬ Br = W1.heap.size := by omega
  have hn3 : ¬ Br = W.heap.size := by omega
  have hn4 : ¬ W1.heap.size = W.heap.size := by omega
  have hn5 : ¬ W.heap.size = W1.heap.size := by omega
  have HPL := Lib.hid hpl
  clear h1 h2 hc
  have k1 : ((kd : Int) == 1) = false := by simp; omega
  have k2 : ((kd : Int) == 2) = false := by simp; omega
  have k3 : ((kd : Int) == 3) = false := by simp; omega
  have k4 : ((kd : Int) == 4) = false := by simp; omega
  have k5 : ((kd : Int) == 5) = false := by simp; omega
  have k6 : ((kd : Int) == 6) = false := by simp; omega
  have k7 : ((kd : Int) == 7) = false := by simp; omega
  have k8 : ((kd : Int) == 8) = false := by simp; omega
  have k9 : ((kd : Int) == 9) = false := by simp; omega
  have k10 : ((kd : Int) == 10) = false := by simp; omega
  have k11 : ((kd : Int) == 11) = false := by simp; omega
  go_wp2_with fail
  refine bodyPost_ret (res_value (B := W.heap.size) (DB.alloc ((D1.out.setOther ⟨Br, 4, none⟩ _ hn3).set5 _ 0 0 ⟨#[]⟩ (.slice none 0 0)) _) rfl _ rfl) rfl ?_
  rw [← HPP.out]
  refine ⟨_, 0, 0, ⟨#[]⟩, none, 0, 0, _, rfl, ((G1.out.setBad true).set5 _ hne0 _ _ _ _ _).alloc _, ((B1.out.set ⟨Br, 4, none⟩ _ (.inl rfl)).set5 _ (Nat.le_refl _) _ _ _ _ _).alloc _, HPL.out, ?_⟩
  rw [HVD.out]
  rfl

theorem byteQ_nil {l : List UInt8} {s : Qs} (hd : l.drop s.pos = []) (he : s.ok = true) : byteQ l s = (0, { s with short := true }) := by
  have h := congrArg List.length hd
  rw [List.length_drop, List.length_nil] at h
  unfold byteQ
  rw [if_neg (by rw [he]; decide), if_neg (by omega)]
theorem byteQ_cons {l : List UInt8} {s : Qs} {b : UInt8} {t : List UInt8} (hd : l.drop s.pos = b :: t) (he : s.ok = true) : byteQ l s = (b, { s with pos := s.pos + 1 }) ∧ s.pos + 1 ≤ l.length := by
  have h := congrArg List.length hd
  rw [List.length_drop, List.length_cons] at h
  have hb : l.getD s.pos 0 = b := by
    have h := congrArg (fun x => x[0]?) hd
    simp at h
    simp [List.getD, h]
  unfold byteQ
  rw [if_neg (by rw [he]; decide), if_pos (by omega), hb]
  exact ⟨rfl, by omega⟩
set_option maxRecDepth 100000 in
set_option maxHeartbeats 8000000 in
theorem qvalue_bool (l : List UInt8) (Br f deep parts kd : Nat) (v : Value) (c : UInt8) (r : List UInt8) (s : Qs) (W : World) (hr : QB W Br v s) (hv : Bs W v l) (hl : l.length ≤ 100000000) (he : s.ok = true) (hp : s.pos ≤ l.length) (hpt : s.parts = 4096 - (parts : Nat)) (hcr : l.drop s.pos = c :: r) (hc : c.toNat = kd) (hk : kd = 6) :
    Calls Tryd.prog 37 #[.pointer (some ⟨Br, 0, none⟩), .int .i64 (deep : Nat)] W (QVPost l Br v s (f + 1) deep parts W) := by
  have hpl2 : l.drop (s.pos + 1) = r := by rw [← List.drop_drop, hcr]; rfl
  obtain ⟨PP, hPP⟩ : ∃ PP, QVPost l Br v s (f + 1) deep parts W = PP := ⟨_, rfl⟩
  rw [hPP]
  have HPP := Lib.hid hPP
  have HR := Lib.hid hr
  have HV := Lib.hid hv
  have HVS := Lib.hid hv.slice
  have HE : Hid (s.ok = true) := he
  have hpl : s.pos < l.length := by
    have h := congrArg List.length hcr
    rw [List.length_drop, List.length_cons] at h
    omega
  have hcc : l.getD s.pos 0 = c := by
    have h := congrArg (fun x => x[0]?) hcr
    simp at h
    simp [List.getD, h]
  have HB : Hid (byteQ l s = (c, { s with pos := s.pos + 1 })) := by show _ = _; unfold byteQ; rw [if_neg (by rw [he]; decide), if_pos hpl, hcc]
  have HCR := Lib.hid hcr
  have HP2 := Lib.hid hpl2
  have HC := Lib.hid hc
  have hlt := hr.cells.2.2.2.2.2
  have HA0 : Hid (But Br W (W.alloc (.cells #[.int .i64 0, .int .i64 0, .int .u64 0, .string ⟨#[]⟩, .slice none 0 0] 25))) := (But.refl Br W).alloc _
  have HD0 : Hid (DB (W.alloc (.cells #[.int .i64 0, .int .i64 0, .int .u64 0, .string ⟨#[]⟩, .slice none 0 0] 25)) W.heap.size 0 0 0 ⟨#[]⟩ (.slice none 0 0)) := heap_alloc_new W _
  have HPT := Lib.hid hpt
  clear hPP hr hv he hcc hpt
  go_enter Tryd.func37, Tryd.ntmps37
  go_wp2_with fail
  refine (qbyte_any l Br v s _ (HR.out.alloc _) (HV.out.butQ HR.out HVS.out HA0.out) hl hp).mono ?_
  rintro e W1 ⟨rfl, h1, h2⟩
  rw [HB.out] at h1 ⊢
  simp only [hc]
  have hne0 : W.heap.size ≠ Br := by omega
  have D1 := Lib.hid (HD0.out.but h2 hne0)
  have B1 := Lib.hid (HA0.out.trans h2)
  have G1 := Lib.hid h1
  have hsz := h2.size
  rw [World.size_alloc] at hsz
  obtain ⟨e0, e1, e2, e3, e4, hlte⟩ := D1.out.cells
  have r0 := D1.out.free 0
  have r1 := D1.out.free 1
  have r2 := D1.out.free 2
  have r3 := D1.out.free 3
  have r4 := D1.out.free 4
  have HKD : Hid (I64 (kd : Nat)) := by show I64 _; unfold I64; omega
  have HPL := Lib.hid hpl
  clear h1 h2 hc hcr hpl2
  have HNE : Hid (W1.heap.size ≠ W.heap.size) := by show _ ≠ _; omega
  have HKK := Lib.hid hk
  have hn1 : ¬ W1.heap.size = W.heap.size := by omega
  have hn2 : ¬ W.heap.size = W1.heap.size := by omega
  have HO1 : Hid (∀ k : Int, DB (W1.alloc (.cells #[.int .i64 k, .int .i64 0, .int .u64 0, .string ⟨#[]⟩, .slice none 0 0] 25)) W1.heap.size k 0 0 ⟨#[]⟩ (.slice none 0 0)) := fun k => heap_alloc_new W1 _
  have HBd : Hid (W1.heap.size ≠ Br) := by show _ ≠ _; omega
  have HBs : Hid (∀ o, Bs (W1.alloc o) v l) := fun o => HV.out.butQ HR.out HVS.out (B1.out.alloc o)
  subst hk
  go_wp2_with fail
  refine (qbyte_any l Br v _ _ (G1.out.alloc _) (HBs.out _) hl HPL.out).mono ?_
  rintro e W2 ⟨rfl, g1, g2⟩
  have D2 := Lib.hid ((D1.out.alloc (.cells #[_, .int .i64 0, .int .u64 0, .string ⟨#[]⟩, .slice none 0 0] 25)).but g2 hne0)
  have O2 := Lib.hid ((HO1.out _).but g2 HBd.out)
  have B2 := Lib.hid ((B1.out.alloc _).trans g2)
  have R2 := Lib.hid g1
  clear e0 e1 e2 e3 e4 hlte r0 r1 r2 r3 r4 g1 g2
  obtain ⟨e0, e1, e2, e3, e4, hlte⟩ := D2.out.cells
  obtain ⟨d0, d1, d2, d3, d4, hltd⟩ := O2.out.cells
  have r0 := D2.out.free 0
  have r1 := D2.out.free 1
  have r2 := D2.out.free 2
  have r3 := D2.out.free 3
  have r4 := D2.out.free 4
  have q1 := O2.out.free 1
  have q3 := O2.out.free 3
  obtain ⟨B, s2, hbq⟩ : ∃ B s2, byteQ l { s with pos := s.pos + 1 } = (B, s2) := ⟨_, _, rfl⟩
  have HQ := Lib.hid hbq
  have R3 : Hid (QB W2 Br v s2) := by have h := R2.out; rw [hbq] at h; exact h
  rw [hbq]
  obtain ⟨X, hX⟩ : ∃ X, B.toNat = X := ⟨_, rfl⟩
  have hX256 : X < 256 := by rw [← hX]; exact B.toNat_lt
  have HX := Lib.hid hX
  simp only [hX]
  have hw : IntKind.i64.wrap (X : Int) = (X : Int) := i64_wrap_nat (by omega)
  obtain ⟨c0, c1, c2, c3, c4, hltc⟩ := R3.out.cells
  have hf4 := R3.out.free 4
  have hn3 : ¬ W1.heap.size = Br := HBd.out
  have hn4 : ¬ Br = W1.heap.size := fun e => HBd.out e.symm
  have hn5 : ¬ Br = W.heap.size := by omega
  clear hbq hX
  have HSP : Hid ((r = [] ∧ X = 0 ∧ s2 = { s with pos := s.pos + 1, short := true }) ∨ (∃ t, r = B :: t ∧ s2 = { s with pos := s.pos + 1 + 1 } ∧ s.pos + 1 + 1 ≤ l.length)) := by
    have hP2 := HP2.out
    have hok : ({ s with pos := s.pos + 1 } : Qs).ok = true := HE.out
    cases hr : r with
    | nil =>
      rw [hr] at hP2
      have h := byteQ_nil (s := { s with pos := s.pos + 1 }) hP2 hok
      rw [HQ.out] at h
      injection h with h1 h2
      exact .inl ⟨rfl, by rw [← HX.out, h1]; rfl, h2⟩
    | cons b t =>
      rw [hr] at hP2
      have h := byteQ_cons (s := { s with pos := s.pos + 1 }) hP2 hok
      rw [HQ.out] at h
      obtain ⟨h, h3⟩ := h
      injection h with h1 h2
      exact .inr ⟨t, by rw [h1], h2, h3⟩
  have HPO : Hid (s2.pos ≤ l.length) := by
    show _ ≤ _
    rcases HSP.out with ⟨-, -, h⟩ | ⟨t, -, h, h2⟩
    · rw [h]; exact HPL.out
    · rw [h]; exact h2
  by_cases h1 : 1 < X
  · have h1I : (1 : Int) < (X : Int) := by omega
    go_wp2_with fail
    refine bodyPost_ret (res_value (B := W.heap.size) (((D2.out.setOther ⟨W1.heap.size, 1, none⟩ _ HNE.out).setOther ⟨Br, 4, none⟩ _ hn5).set5 _ (X : Nat) 0 ⟨#[]⟩ (.slice none 0 0)) rfl _ rfl) rfl ?_
    rw [← HPP.out]
    refine ⟨_, (X : Nat), 0, ⟨#[]⟩, none, 0, 0, _, rfl, ((R3.out.setOther ⟨W1.heap.size, 1, none⟩ _ HBd.out).setBad true).set5 _ hne0 _ _ _ _ _, ((B2.out.set ⟨W1.heap.size, 1, none⟩ _ (.inr (Nat.le_of_succ_le hsz))).set ⟨Br, 4, none⟩ _ (.inl rfl)).set5 _ (Nat.le_refl _) _ _ _ _ _, HPO.out, ?_⟩
    rw [HCR.out]
    rcases HSP.out with ⟨-, h, -⟩ | ⟨t, h, -⟩
    · omega
    · rw [valD_badO HC.out (by omega) (by decide) (by unfold ownD; rw [h]; simp [HX.out, h1])]
      rfl
  · have h1I : ¬ (1 : Int) < (X : Int) := by omega
    go_wp2_with fail
    refine bodyPost_ret (res_value (B := W.heap.size) ((D2.out.setOther ⟨W1.heap.size, 1, none⟩ _ HNE.out).set5 _ (X : Nat) 0 ⟨#[]⟩ (.slice none 0 0)) rfl _ rfl) rfl ?_
    rw [← HPP.out]
    refine ⟨_, (X : Nat), 0, ⟨#[]⟩, none, 0, 0, _, rfl, (R3.out.setOther ⟨W1.heap.size, 1, none⟩ _ HBd.out).set5 _ hne0 _ _ _ _ _, (B2.out.set ⟨W1.heap.size, 1, none⟩ _ (.inr (Nat.le_of_succ_le hsz))).set5 _ (Nat.le_refl _) _ _ _ _ _, HPO.out, ?_⟩
    rw [HCR.out]
    have hok := HE.out
    unfold Qs.ok at hok
    simp at hok
    rcases HSP.out with ⟨h, -, h2⟩ | ⟨t, h, h2, -⟩
    · rw [valD_short HC.out (by omega) (by decide) (by unfold ownD; rw [h]; simp), h2]
      exact ⟨rfl, hok.2⟩
    · rw [valD_leaf (o := ⟨X, 0, .empty, 0⟩) (u := 1) HC.out (by omega) (by decide) (by unfold ownD; rw [h]; simp [HX.out]; omega) rfl, h2]
      exact ⟨by show s.pos + 1 + 1 = _; omega, HE.out, HPT.out, DvIn.leaf _ _ _ HKD.out (by unfold I64; omega) (by omega)⟩

/-- a list for which there is room, where the reader has stopped -/
def QLHalt (Br : Nat) (v : Value) (s : Qs) (n : Nat) (W : World) (r : Ending) (W' : World) : Prop := r = .returned (.slice none 0 0) ∧ QB W' Br v { s with parts := s.parts + (n : Int) } ∧ But Br W W'
set_option maxRecDepth 100000 in
set_option maxHeartbeats 4000000 in
theorem qlist_halt (Br deep n : Nat) (v : Value) (s : Qs) (W : World) (hr : QB W Br v s) (hpt : 0 ≤ s.parts ∧ s.parts ≤ 4096) (hn : 0 < n) (hn2 : n ≤ 4096) (he : s.ok = false) (hroom : s.parts + (n : Int) ≤ 4096 ∧ deep < 16) :
    Calls Tryd.prog 66 #[.pointer (some ⟨Br, 0, none⟩), .int .i64 (n : Nat), .int .i64 (deep : Nat)] W (QLHalt Br v s n W) := by
  obtain ⟨PP, hPP⟩ : ∃ PP, QLHalt Br v s n W = PP := ⟨_, rfl⟩
  rw [hPP]
  have HPP := Lib.hid hPP
  obtain ⟨pos, parts, sh, bd⟩ := s
  obtain ⟨c0, c1, c2, c3, c4, hlt⟩ := hr.cells
  have hf2 := hr.free 2
  simp only at hpt c0 c1 c2 c3 c4 hroom
  obtain ⟨h1, h2⟩ := hpt
  obtain ⟨P, hP⟩ : ∃ P, parts + (n : Int) = P := ⟨_, rfl⟩
  have hw : IntKind.i64.wrap (parts + (n : Int)) = P := by rw [IntWalk.i64_in _ (by omega)]; omega
  rw [hP] at hroom
  obtain ⟨hroom1, hroom2⟩ := hroom
  have hb : ¬ (4096 : Int) < P := by omega
  have hd : ¬ (16 : Int) ≤ (deep : Int) := by omega
  have hnI : (0 : Int) < (n : Int) := by omega
  have HQ1 : Hid (QB (W.setCell ⟨Br, 2, none⟩ (.int .i64 P)) Br v ⟨pos, P, sh, bd⟩) := hr.setParts P rfl
  have HB0 : Hid (But Br W (W.setCell ⟨Br, 2, none⟩ (.int .i64 P))) := (But.refl Br W).set ⟨Br, 2, none⟩ _ (.inl rfl)
  have C1 : Hid (Calls Tryd.prog 48 #[.pointer (some ⟨Br, 0, none⟩)] (W.setCell ⟨Br, 2, none⟩ (.int .i64 P)) fun e w' => e = .returned (.bool false) ∧ w' = (W.setCell ⟨Br, 2, none⟩ (.int .i64 P))) := (qok_any Br _ _ _ HQ1.out).mono fun _ _ ⟨h1, h2⟩ => ⟨by rw [h1]; exact congrArg (fun b => Ending.returned (.bool b)) he, h2.symm⟩
  have HP := Lib.hid hP
  clear hPP hr hP he
  go_enter Tryd.func66, Tryd.ntmps66
  go_wp2_with fail
  go_loopw [7, 8] (fun s7 s8 wr => s7 = .slice none 0 0 ∧ s8 = .int .i64 0 ∧ wr = W.setCell ⟨Br, 2, none⟩ (.int .i64 P)) (fun _ _ _ => 0)
  case atStart => exact ⟨rfl, rfl, rfl⟩
  case round =>
    obtain ⟨rfl, rfl, rfl⟩ := hrel
    go_wp2_with fail
    refine C1.out.mono ?_
    rintro e w' ⟨rfl, rfl⟩
    go_wp2_with fail
    rw [← HPP.out]
    exact ⟨rfl, HQ1.out.same (by rw [← HP.out]), HB0.out⟩

/-- what a list brings a value -/
theorem QAt.list {l : List UInt8} {f deep n p0 base u0 m c' : Nat} {kd di db : Int} {ds : ByteArray} {q : Option Addr} {ts : List Dv} {s s1 s' : Qs} {W2 W' : World} {Q : Nat → Prop} {lv : Rd (Dv × Nat)}
    (hv : lv = (listD (valD f (deep + 1)) n p0 (l.drop s1.pos)).bind fun ts u2 => .done (.mk kd di db ds ts.1, ts.2) (u0 + u2)) (h0 : s1.pos = s.pos + u0)
    (hg : match listD (valD f (deep + 1)) n p0 (l.drop s1.pos) with
      | .done x u => s'.pos = s1.pos + u ∧ s'.ok = true ∧ s'.parts = 4096 - (x.2 : Nat) ∧ x.1 = ts ∧ LRow W2 base (.slice q m c') f ts
      | .short => s'.short = true ∧ s'.bad = false
      | .bad => s'.bad = true)
    (hk : ∀ b, base ≤ b → b < W2.heap.size → W'.heap[b]? = W2.heap[b]? ∧ Q b) (h1 : I64 kd) (h2 : I64 di) (h3 : 0 ≤ db ∧ db < 18446744073709551616) :
    QAt lv Q W' (f + 1) [.int .i64 kd, .int .i64 di, .int .u64 db, .string ds, .slice q m c'] s s' := by
  subst hv
  cases hl : listD (valD f (deep + 1)) n p0 (l.drop s1.pos) with
  | done x u =>
    rw [hl] at hg
    obtain ⟨g1, g2, g3, rfl, g5⟩ := hg
    exact ⟨by rw [g1, h0]; show s.pos + u0 + u = s.pos + (u0 + u); omega, g2, g3, (g5.in_ (Nat.le_refl _) h1 h2 h3).kept fun b hb hl => hk b hb.1 hl⟩
  | short => rw [hl] at hg; exact hg
  | bad => rw [hl] at hg; exact hg
/-- the end of a value's reading leaves what is new -/
theorem end_keeps {W2 : World} {B D base j : Nat} {u a0 a1 a2 a3 a4 : Value} (hB : B < base) (hD : D < base) (b : Nat) (hb : base ≤ b) (hl : b < W2.heap.size) :
    ((((((W2.setCell ⟨D, j, none⟩ u).setCell ⟨B, 0, none⟩ a0).setCell ⟨B, 1, none⟩ a1).setCell ⟨B, 2, none⟩ a2).setCell ⟨B, 3, none⟩ a3).setCell ⟨B, 4, none⟩ a4).heap[b]? = W2.heap[b]? ∧
    (B ≤ b ∧ b < ((((((W2.setCell ⟨D, j, none⟩ u).setCell ⟨B, 0, none⟩ a0).setCell ⟨B, 1, none⟩ a1).setCell ⟨B, 2, none⟩ a2).setCell ⟨B, 3, none⟩ a3).setCell ⟨B, 4, none⟩ a4).heap.size) := by
  have e : b ≠ B := by omega
  have e2 : b ≠ D := by omega
  exact ⟨(heap_set5_other e _ _ _ _ _).trans (Below.heap_setCell _ _ _ _ e2), by omega, by rw [size_set5]; simp [World.setCell]; exact hl⟩
theorem roomOf_lt {deep parts f n : Nat} (hdf : deep + f = 16) (h : ¬ (n ≤ parts ∧ deep < 16)) (hn : 0 < n) : roomOf deep parts < n := by
  unfold roomOf
  split <;> omega
theorem roomOf_ge {deep parts n : Nat} (h : n ≤ parts ∧ deep < 16) : ¬ roomOf deep parts < n := by
  unfold roomOf
  rw [if_neg (by omega)]
  omega
theorem valD_badR {f deep parts kd : Nat} {c : UInt8} {r : List UInt8} (hc : c.toNat = kd) (hk : kd < 14) (hn : roomOf deep parts < needs kd) : valD (f + 1) deep parts (c :: r) = .bad := by
  subst hc
  rw [valD, if_neg (by omega), if_pos hn]
theorem valD_parts {f deep parts kd u : Nat} {c : UInt8} {r : List UInt8} {o : Own} (hc : c.toNat = kd) (hk : kd < 14) (hn : ¬ roomOf deep parts < needs kd) (ho : ownD (roomOf deep parts) kd r = .done o u) :
    valD (f + 1) deep parts (c :: r) = (listD (valD f (deep + 1)) o.n (parts - o.n) (r.drop u)).bind fun ts u2 => .done (.mk kd o.di o.db o.ds ts.1, ts.2) (1 + u + u2) := by
  subst hc
  rw [valD, if_neg (by omega), if_neg hn, ho]
  rfl

theorem QAfter.err {l : List UInt8} {s s' s'' : Qs} {c : UInt8} {r : List UInt8} {x : Int} {y : ByteArray} {f deep parts : Nat} {P : Nat → Prop} {W : World} (hcr : l.drop (s.pos + 1) = r) (hc : c.toNat = 10) (he : s.ok = true) (hpt : s.parts = 4096 - (parts : Nat))
    (A2 : QAfter l { s with pos := s.pos + 1 } (sigD (l.drop (s.pos + 1))) 0 x s') (A3 : QAfter l s' (textD 65535 (l.drop s'.pos)) ⟨#[]⟩ y s'') :
    s''.pos ≤ l.length ∧ QAt (valD (f + 1) deep parts (c :: r)) P W (f + 1) [.int .i64 10, .int .i64 x, .int .u64 0, .string y, .slice none 0 0] s s'' := by
  obtain ⟨a1, a2, a3⟩ := A2
  obtain ⟨b1, b2, b3⟩ := A3
  refine ⟨b2, ?_⟩
  rcases a3 with ⟨q, -⟩ | ⟨-, a3⟩
  · exact absurd (show s.ok = false from q) (by rw [he]; decide)
  · rw [hcr] at a3
    cases hs : sigD r with
    | done z n =>
      rw [hs] at a3
      obtain ⟨rfl, z2, z3⟩ := a3
      have hx := (sigD_back hs).2.2
      have z2' : s'.pos = s.pos + 1 + n := z2
      have hd : l.drop s'.pos = r.drop n := by rw [z2', ← hcr, List.drop_drop]
      rw [hd] at b3
      rcases b3 with ⟨q, -⟩ | ⟨-, b3⟩
      · exact absurd q (by rw [z3]; decide)
      · cases ht : textD 65535 (r.drop n) with
        | done t m =>
          rw [ht] at b3
          obtain ⟨rfl, y2, y3⟩ := b3
          rw [valD_leaf (o := ⟨x, 0, y, 0⟩) (u := n + m) hc (by omega) (by decide) (by unfold ownD; simp [hs, ht]) rfl]
          refine ⟨by rw [y2, z2']; omega, y3, by rw [b1, a1]; exact hpt, DvIn.leaf _ _ _ (by unfold I64; omega) hx (by omega)⟩
        | short =>
          rw [ht] at b3
          rw [valD_short hc (by omega) (by decide) (by unfold ownD; simp [hs, ht])]
          exact b3.2
        | bad =>
          rw [ht] at b3
          rw [valD_badO hc (by omega) (by decide) (by unfold ownD; simp [hs, ht])]
          exact b3.2
    | short =>
      rw [hs] at a3
      rw [valD_short hc (by omega) (by decide) (by unfold ownD; simp [hs])]
      obtain ⟨-, q1, q2⟩ := a3
      rcases b3 with ⟨-, -, p1, p2⟩ | ⟨q, -⟩
      · exact ⟨p1.trans q1, p2.trans q2⟩
      · rw [Qs.not_ok (.inl q1)] at q; cases q
    | bad =>
      rw [hs] at a3
      rw [valD_badO hc (by omega) (by decide) (by unfold ownD; simp [hs])]
      obtain ⟨-, q1⟩ := a3
      rcases b3 with ⟨-, -, p1, p2⟩ | ⟨q, -⟩
      · exact p2.trans q1
      · rw [Qs.not_ok (.inr q1)] at q; cases q
set_option maxRecDepth 100000 in
set_option maxHeartbeats 8000000 in
theorem qvalue_err (l : List UInt8) (Br f deep parts kd : Nat) (v : Value) (c : UInt8) (r : List UInt8) (s : Qs) (W : World) (hr : QB W Br v s) (hv : Bs W v l) (hl : l.length ≤ 100000000) (he : s.ok = true) (hp : s.pos ≤ l.length) (hpt : s.parts = 4096 - (parts : Nat)) (hcr : l.drop s.pos = c :: r) (hc : c.toNat = kd) (hk : kd = 10) :
    Calls Tryd.prog 37 #[.pointer (some ⟨Br, 0, none⟩), .int .i64 (deep : Nat)] W (QVPost l Br v s (f + 1) deep parts W) := by
  have hpl2 : l.drop (s.pos + 1) = r := by rw [← List.drop_drop, hcr]; rfl
  obtain ⟨PP, hPP⟩ : ∃ PP, QVPost l Br v s (f + 1) deep parts W = PP := ⟨_, rfl⟩
  rw [hPP]
  have HPP := Lib.hid hPP
  have HR := Lib.hid hr
  have HV := Lib.hid hv
  have HVS := Lib.hid hv.slice
  have HE : Hid (s.ok = true) := he
  have hpl : s.pos < l.length := by
    have h := congrArg List.length hcr
    rw [List.length_drop, List.length_cons] at h
    omega
  have hcc : l.getD s.pos 0 = c := by
    have h := congrArg (fun x => x[0]?) hcr
    simp at h
    simp [List.getD, h]
  have HB : Hid (byteQ l s = (c, { s with pos := s.pos + 1 })) := by show _ = _; unfold byteQ; rw [if_neg (by rw [he]; decide), if_pos hpl, hcc]
  have HCR := Lib.hid hcr
  have HP2 := Lib.hid hpl2
  have HC := Lib.hid hc
  have hlt := hr.cells.2.2.2.2.2
  have HA0 : Hid (But Br W (W.alloc (.cells #[.int .i64 0, .int .i64 0, .int .u64 0, .string ⟨#[]⟩, .slice none 0 0] 25))) := (But.refl Br W).alloc _
  have HD0 : Hid (DB (W.alloc (.cells #[.int .i64 0, .int .i64 0, .int .u64 0, .string ⟨#[]⟩, .slice none 0 0] 25)) W.heap.size 0 0 0 ⟨#[]⟩ (.slice none 0 0)) := heap_alloc_new W _
  have HPT := Lib.hid hpt
  clear hPP hr hv he hcc hpt
  go_enter Tryd.func37, Tryd.ntmps37
  go_wp2_with fail
  refine (qbyte_any l Br v s _ (HR.out.alloc _) (HV.out.butQ HR.out HVS.out HA0.out) hl hp).mono ?_
  rintro e W1 ⟨rfl, h1, h2⟩
  rw [HB.out] at h1 ⊢
  simp only [hc]
  have hne0 : W.heap.size ≠ Br := by omega
  have D1 := Lib.hid (HD0.out.but h2 hne0)
  have B1 := Lib.hid (HA0.out.trans h2)
  have G1 := Lib.hid h1
  have hsz := h2.size
  rw [World.size_alloc] at hsz
  obtain ⟨e0, e1, e2, e3, e4, hlte⟩ := D1.out.cells
  have r0 := D1.out.free 0
  have r1 := D1.out.free 1
  have r2 := D1.out.free 2
  have r3 := D1.out.free 3
  have r4 := D1.out.free 4
  have HKD : Hid (I64 (kd : Nat)) := by show I64 _; unfold I64; omega
  have HPL := Lib.hid hpl
  clear h1 h2 hc hcr hpl2
  have HNE : Hid (W1.heap.size ≠ W.heap.size) := by show _ ≠ _; omega
  have HKK := Lib.hid hk
  have hn1 : ¬ W1.heap.size = W.heap.size := by omega
  have hn2 : ¬ W.heap.size = W1.heap.size := by omega
  have HO1 : Hid (∀ k : Int, DB (W1.alloc (.cells #[.int .i64 k, .int .i64 0, .int .u64 0, .string ⟨#[]⟩, .slice none 0 0] 25)) W1.heap.size k 0 0 ⟨#[]⟩ (.slice none 0 0)) := fun k => heap_alloc_new W1 _
  have HBd : Hid (W1.heap.size ≠ Br) := by show _ ≠ _; omega
  have HBs : Hid (∀ o, Bs (W1.alloc o) v l) := fun o => HV.out.butQ HR.out HVS.out (B1.out.alloc o)
  rcases hk with rfl
  all_goals
    go_wp2_with fail
    refine (qsigned_all l Br v _ _ (G1.out.alloc _) (HBs.out _) hl HPL.out).mono ?_
    rintro e W2 ⟨x, s', rfl, g1, g2, g3⟩
    have D2 := Lib.hid ((D1.out.alloc (.cells #[_, .int .i64 0, .int .u64 0, .string ⟨#[]⟩, .slice none 0 0] 25)).but g2 hne0)
    have O2 := Lib.hid ((HO1.out _).but g2 HBd.out)
    have B2 := Lib.hid ((B1.out.alloc _).trans g2)
    have R2 := Lib.hid g1
    have A2 := Lib.hid g3
    clear e0 e1 e2 e3 e4 hlte r0 r1 r2 r3 r4 g1 g2 g3
    obtain ⟨e0, e1, e2, e3, e4, hlte⟩ := D2.out.cells
    obtain ⟨d0, d1, d2, d3, d4, hltd⟩ := O2.out.cells
    have r0 := D2.out.free 0
    have r1 := D2.out.free 1
    have r2 := D2.out.free 2
    have r3 := D2.out.free 3
    have r4 := D2.out.free 4
    have q1 := O2.out.free 1
    have q3 := O2.out.free 3
    obtain ⟨E2, hE2⟩ : ∃ E2, W2.setCell ⟨W1.heap.size, 1, none⟩ (.int .i64 x) = E2 := ⟨_, rfl⟩
    have OE : Hid (DB E2 W1.heap.size (10 : Nat) x 0 ⟨#[]⟩ (.slice none 0 0)) := by show DB _ _ _ _ _ _ _; rw [← hE2]; exact O2.out.setDi x
    have DE : Hid (DB E2 W.heap.size 0 0 0 ⟨#[]⟩ (.slice none 0 0)) := by show DB _ _ _ _ _ _ _; rw [← hE2]; exact D2.out.setOther _ _ HNE.out
    have BE : Hid (But Br W E2) := by show But _ _ _; rw [← hE2]; exact B2.out.set ⟨W1.heap.size, 1, none⟩ _ (.inr (Nat.le_of_succ_le hsz))
    have RE : Hid (QB E2 Br v s') := by show QB _ _ _ _; rw [← hE2]; exact R2.out.setOther _ _ HBd.out
    have hp2 := A2.out.2.1
    have CT : Hid (Calls Tryd.prog 65 #[.pointer (some ⟨Br, 0, none⟩), .int .u64 (65535 : Nat)] E2 (QRPost l Br v s' (textD 65535 (l.drop s'.pos)) ⟨#[]⟩ (fun x => .string x) E2)) := qtext_all l Br v s' 65535 E2 RE.out (HV.out.butQ HR.out HVS.out BE.out) hl hp2 (by omega)
    have HE2 := Lib.hid hE2
    clear hE2 hp2
    go_wp2_with fail
    rw [HE2.out]
    refine CT.out.mono ?_
    rintro e W3 ⟨y, s'', rfl, g1, g2, g3⟩
    have D3 := Lib.hid (DE.out.but g2 hne0)
    have O3 := Lib.hid (OE.out.but g2 HBd.out)
    have B3 := Lib.hid (BE.out.trans g2)
    have R3 := Lib.hid g1
    have A3 := Lib.hid g3
    clear e0 e1 e2 e3 e4 hlte r0 r1 r2 r3 r4 d0 d1 d2 d3 d4 hltd q1 q3 g1 g2 g3
    obtain ⟨e0, e1, e2, e3, e4, hlte⟩ := D3.out.cells
    obtain ⟨d0, d1, d2, d3, d4, hltd⟩ := O3.out.cells
    have r0 := D3.out.free 0
    have r1 := D3.out.free 1
    have r2 := D3.out.free 2
    have r3 := D3.out.free 3
    have r4 := D3.out.free 4
    have q3 := O3.out.free 3
    go_wp2_with fail
    refine bodyPost_ret (res_value (B := W.heap.size) ((D3.out.setOther ⟨W1.heap.size, 3, none⟩ _ HNE.out).set5 _ x 0 y (.slice none 0 0)) rfl _ rfl) rfl ?_
    rw [← HPP.out]
    obtain ⟨z1, z2⟩ := QAfter.err (f := f) (deep := deep) (P := fun b => W.heap.size ≤ b ∧ b < ((((((W3.setCell ⟨W1.heap.size, 3, none⟩ (.string y)).setCell ⟨W.heap.size, 0, none⟩ (.int .i64 10)).setCell ⟨W.heap.size, 1, none⟩ (.int .i64 x)).setCell ⟨W.heap.size, 2, none⟩ (.int .u64 0)).setCell ⟨W.heap.size, 3, none⟩ (.string y)).setCell ⟨W.heap.size, 4, none⟩ (.slice none 0 0)).heap.size) (W := (((((W3.setCell ⟨W1.heap.size, 3, none⟩ (.string y)).setCell ⟨W.heap.size, 0, none⟩ (.int .i64 10)).setCell ⟨W.heap.size, 1, none⟩ (.int .i64 x)).setCell ⟨W.heap.size, 2, none⟩ (.int .u64 0)).setCell ⟨W.heap.size, 3, none⟩ (.string y)).setCell ⟨W.heap.size, 4, none⟩ (.slice none 0 0)) HP2.out HC.out HE.out HPT.out A2.out A3.out
    refine ⟨_, x, 0, y, none, 0, 0, s'', rfl, (R3.out.setOther ⟨W1.heap.size, 3, none⟩ _ HBd.out).set5 _ hne0 _ _ _ _ _, (B3.out.set ⟨W1.heap.size, 3, none⟩ _ (.inr (Nat.le_of_succ_le hsz))).set5 _ (Nat.le_refl _) _ _ _ _ _, z1, ?_⟩
    rw [HCR.out]
    exact z2

set_option maxRecDepth 100000 in
set_option maxHeartbeats 8000000 in
theorem qvalue_pair (l : List UInt8) (Br f deep parts kd : Nat) (v : Value) (c : UInt8) (r : List UInt8) (s : Qs) (W : World) (hr : QB W Br v s) (hv : Bs W v l) (hl : l.length ≤ 100000000) (he : s.ok = true) (hp : s.pos ≤ l.length) (hpt : s.parts = 4096 - (parts : Nat)) (hcr : l.drop s.pos = c :: r) (hc : c.toNat = kd) (hk : kd = 9) (IH : QVC l Br v f) (hp4 : parts ≤ 4096) (hdf : deep + f = 16) :
    Calls Tryd.prog 37 #[.pointer (some ⟨Br, 0, none⟩), .int .i64 (deep : Nat)] W (QVPost l Br v s (f + 1) deep parts W) := by
  have hpl2 : l.drop (s.pos + 1) = r := by rw [← List.drop_drop, hcr]; rfl
  obtain ⟨PP, hPP⟩ : ∃ PP, QVPost l Br v s (f + 1) deep parts W = PP := ⟨_, rfl⟩
  rw [hPP]
  have HPP := Lib.hid hPP
  have HR := Lib.hid hr
  have HV := Lib.hid hv
  have HVS := Lib.hid hv.slice
  have HE : Hid (s.ok = true) := he
  have hpl : s.pos < l.length := by
    have h := congrArg List.length hcr
    rw [List.length_drop, List.length_cons] at h
    omega
  have hcc : l.getD s.pos 0 = c := by
    have h := congrArg (fun x => x[0]?) hcr
    simp at h
    simp [List.getD, h]
  have HB : Hid (byteQ l s = (c, { s with pos := s.pos + 1 })) := by show _ = _; unfold byteQ; rw [if_neg (by rw [he]; decide), if_pos hpl, hcc]
  have HCR := Lib.hid hcr
  have HP2 := Lib.hid hpl2
  have HC := Lib.hid hc
  have HIH := Lib.hid IH
  have HP4 := Lib.hid hp4
  have HDF := Lib.hid hdf
  clear IH hp4 hdf
  have hlt := hr.cells.2.2.2.2.2
  have HA0 : Hid (But Br W (W.alloc (.cells #[.int .i64 0, .int .i64 0, .int .u64 0, .string ⟨#[]⟩, .slice none 0 0] 25))) := (But.refl Br W).alloc _
  have HD0 : Hid (DB (W.alloc (.cells #[.int .i64 0, .int .i64 0, .int .u64 0, .string ⟨#[]⟩, .slice none 0 0] 25)) W.heap.size 0 0 0 ⟨#[]⟩ (.slice none 0 0)) := heap_alloc_new W _
  have HPT := Lib.hid hpt
  clear hPP hr hv he hcc hpt
  go_enter Tryd.func37, Tryd.ntmps37
  go_wp2_with fail
  refine (qbyte_any l Br v s _ (HR.out.alloc _) (HV.out.butQ HR.out HVS.out HA0.out) hl hp).mono ?_
  rintro e W1 ⟨rfl, h1, h2⟩
  rw [HB.out] at h1 ⊢
  simp only [hc]
  have hne0 : W.heap.size ≠ Br := by omega
  have D1 := Lib.hid (HD0.out.but h2 hne0)
  have B1 := Lib.hid (HA0.out.trans h2)
  have G1 := Lib.hid h1
  have hsz := h2.size
  rw [World.size_alloc] at hsz
  obtain ⟨e0, e1, e2, e3, e4, hlte⟩ := D1.out.cells
  have r0 := D1.out.free 0
  have r1 := D1.out.free 1
  have r2 := D1.out.free 2
  have r3 := D1.out.free 3
  have r4 := D1.out.free 4
  have HKD : Hid (I64 (kd : Nat)) := by show I64 _; unfold I64; omega
  have HPL := Lib.hid hpl
  clear h1 h2 hc hcr hpl2
  have HNE : Hid (W1.heap.size ≠ W.heap.size) := by show _ ≠ _; omega
  have HKK := Lib.hid hk
  have hn1 : ¬ W1.heap.size = W.heap.size := by omega
  have hn2 : ¬ W.heap.size = W1.heap.size := by omega
  have HO1 : Hid (∀ k : Int, DB (W1.alloc (.cells #[.int .i64 k, .int .i64 0, .int .u64 0, .string ⟨#[]⟩, .slice none 0 0] 25)) W1.heap.size k 0 0 ⟨#[]⟩ (.slice none 0 0)) := fun k => heap_alloc_new W1 _
  have HBd : Hid (W1.heap.size ≠ Br) := by show _ ≠ _; omega
  have HBs : Hid (∀ o, Bs (W1.alloc o) v l) := fun o => HV.out.butQ HR.out HVS.out (B1.out.alloc o)
  subst hk
  have D1a := Lib.hid (D1.out.alloc (.cells #[.int .i64 9, .int .i64 0, .int .u64 0, .string ⟨#[]⟩, .slice none 0 0] 25))
  have O1a := Lib.hid (HO1.out 9)
  have B1a := Lib.hid (B1.out.alloc (.cells #[.int .i64 9, .int .i64 0, .int .u64 0, .string ⟨#[]⟩, .slice none 0 0] 25))
  by_cases hroom : 2 ≤ parts ∧ deep < 16
  · have HRM := Lib.hid hroom
    clear hroom
    go_wp2_with fail
    refine (qlist_any l Br f deep 2 parts v { s with pos := s.pos + 1 } _ HIH.out (G1.out.alloc _) (HBs.out _) HE.out HPL.out HPT.out HP4.out HRM.out.1 HDF.out (.inr HRM.out.2)).mono ?_
    rintro e W2 ⟨q, m, c', ts, s', rfl, g1, g2, g3, g4⟩
    have D9 := Lib.hid (D1a.out.but g2 hne0)
    have O9 := Lib.hid (O1a.out.but g2 HBd.out)
    have B9 := Lib.hid (B1a.out.trans g2)
    have R9 := Lib.hid g1
    have P9 := Lib.hid g3
    have L9 := Lib.hid g4
    have hsz9 := g2.size
    clear e0 e1 e2 e3 e4 hlte r0 r1 r2 r3 r4 g1 g2 g3 g4
    obtain ⟨e0, e1, e2, e3, e4, hlte⟩ := D9.out.cells
    obtain ⟨d0, d1, d2, d3, d4, hltd⟩ := O9.out.cells
    have r0 := D9.out.free 0
    have r1 := D9.out.free 1
    have r2 := D9.out.free 2
    have r3 := D9.out.free 3
    have r4 := D9.out.free 4
    have q4 := O9.out.free 4
    go_wp2_with fail
    refine bodyPost_ret (res_value (B := W.heap.size) ((D9.out.setOther ⟨W1.heap.size, 4, none⟩ _ HNE.out).set5 _ 0 0 ⟨#[]⟩ (.slice q m c')) rfl _ rfl) rfl ?_
    rw [← HPP.out]
    refine ⟨_, 0, 0, ⟨#[]⟩, q, m, c', _, rfl, (R9.out.setOther ⟨W1.heap.size, 4, none⟩ _ HBd.out).set5 _ hne0 _ _ _ _ _, (B9.out.set ⟨W1.heap.size, 4, none⟩ _ (.inr (Nat.le_of_succ_le hsz))).set5 _ (Nat.le_refl _) _ _ _ _ _, P9.out, ?_⟩
    rw [HCR.out]
    refine QAt.list (s1 := { s with pos := s.pos + 1 }) (u0 := 1) (kd := (9 : Nat)) (di := 0) (db := (0 : Nat)) (n := 2) (p0 := parts - 2) ?_ rfl L9.out (fun b hb hl => end_keeps (by rw [World.size_alloc]; omega) (by rw [World.size_alloc]; omega) b hb hl) HKD.out i64_zero (by omega)
    rw [valD_parts (o := ⟨0, 0, .empty, 2⟩) (u := 0) HC.out (by omega) (roomOf_ge HRM.out) rfl, List.drop_zero, ← HP2.out]
    rfl
  · have HRM := Lib.hid hroom
    clear hroom
    have hpar : 0 ≤ s.parts ∧ s.parts ≤ 4096 := by have h1 := HPT.out; have h2 := HP4.out; omega
    have HPA := Lib.hid hpar
    clear hpar
    go_wp2_with fail
    refine (qlist_bad Br deep 2 v { s with pos := s.pos + 1 } _ (G1.out.alloc _) HPA.out (by omega) (by omega) (by have h1 := HPT.out; have h2 := HRM.out; show 4096 < s.parts + ((2 : Nat) : Int) ∨ _; omega)).mono ?_
    rintro e W2 ⟨rfl, g1, g2⟩
    have g3 : s.pos + 1 ≤ l.length := HPL.out
    have g4 := trivial
    have D9 := Lib.hid (D1a.out.but g2 hne0)
    have O9 := Lib.hid (O1a.out.but g2 HBd.out)
    have B9 := Lib.hid (B1a.out.trans g2)
    have R9 := Lib.hid g1
    have P9 := Lib.hid g3
    have L9 := Lib.hid g4
    have hsz9 := g2.size
    clear e0 e1 e2 e3 e4 hlte r0 r1 r2 r3 r4 g1 g2 g3 g4
    obtain ⟨e0, e1, e2, e3, e4, hlte⟩ := D9.out.cells
    obtain ⟨d0, d1, d2, d3, d4, hltd⟩ := O9.out.cells
    have r0 := D9.out.free 0
    have r1 := D9.out.free 1
    have r2 := D9.out.free 2
    have r3 := D9.out.free 3
    have r4 := D9.out.free 4
    have q4 := O9.out.free 4
    go_wp2_with fail
    refine bodyPost_ret (res_value (B := W.heap.size) ((D9.out.setOther ⟨W1.heap.size, 4, none⟩ _ HNE.out).set5 _ 0 0 ⟨#[]⟩ (.slice none 0 0)) rfl _ rfl) rfl ?_
    rw [← HPP.out]
    refine ⟨_, 0, 0, ⟨#[]⟩, none, 0, 0, _, rfl, (R9.out.setOther ⟨W1.heap.size, 4, none⟩ _ HBd.out).set5 _ hne0 _ _ _ _ _, (B9.out.set ⟨W1.heap.size, 4, none⟩ _ (.inr (Nat.le_of_succ_le hsz))).set5 _ (Nat.le_refl _) _ _ _ _ _, P9.out, ?_⟩
    rw [HCR.out]
    rw [valD_badR HC.out (by omega) (roomOf_lt HDF.out HRM.out (by decide))]
    rfl

/-- a number's reading, where the reader went on before -/
theorem QAfter.num {l : List UInt8} {s s' : Qs} {lim x : Nat} {r : List UInt8} (hr : l.drop s.pos = r) (h : QAfter l s (numD lim 0 0 (l.drop s.pos)) 0 x s') (he : s.ok = true) : s'.parts = s.parts ∧ s'.pos ≤ l.length ∧ x ≤ lim ∧
    ((s'.ok = true ∧ ∃ u, numD lim 0 0 r = .done x u ∧ s'.pos = s.pos + u) ∨ (s'.ok = false ∧ x = 0 ∧ ((numD lim 0 0 r = .short ∧ s'.short = true ∧ s'.bad = false) ∨ (numD lim 0 0 r = .bad ∧ s'.bad = true)))) := by
  obtain ⟨a1, a2, a3⟩ := h
  rw [hr] at a3
  rcases a3 with ⟨q, -⟩ | ⟨-, a3⟩
  · rw [he] at q; cases q
  · cases hn : numD lim 0 0 r with
    | done y u =>
      rw [hn] at a3
      obtain ⟨rfl, b2, b3⟩ := a3
      exact ⟨a1, a2, (numD_len _ _ _ _ _ _ hn).2.2, .inl ⟨b3, u, rfl, b2⟩⟩
    | short =>
      rw [hn] at a3
      obtain ⟨rfl, b2, b3⟩ := a3
      exact ⟨a1, a2, Nat.zero_le _, .inr ⟨Qs.not_ok (.inl b2), rfl, .inl ⟨rfl, b2, b3⟩⟩⟩
    | bad =>
      rw [hn] at a3
      obtain ⟨rfl, b2⟩ := a3
      exact ⟨a1, a2, Nat.zero_le _, .inr ⟨Qs.not_ok (.inr b2), rfl, .inr ⟨rfl, b2⟩⟩⟩
set_option maxRecDepth 100000 in
set_option maxHeartbeats 8000000 in
theorem qvalue_list (l : List UInt8) (Br f deep parts kd : Nat) (v : Value) (c : UInt8) (r : List UInt8) (s : Qs) (W : World) (hr : QB W Br v s) (hv : Bs W v l) (hl : l.length ≤ 100000000) (he : s.ok = true) (hp : s.pos ≤ l.length) (hpt : s.parts = 4096 - (parts : Nat)) (hcr : l.drop s.pos = c :: r) (hc : c.toNat = kd) (hk : kd = 8) (IH : QVC l Br v f) (hp4 : parts ≤ 4096) (hdf : deep + f = 16) :
    Calls Tryd.prog 37 #[.pointer (some ⟨Br, 0, none⟩), .int .i64 (deep : Nat)] W (QVPost l Br v s (f + 1) deep parts W) := by
  have hpl2 : l.drop (s.pos + 1) = r := by rw [← List.drop_drop, hcr]; rfl
  obtain ⟨PP, hPP⟩ : ∃ PP, QVPost l Br v s (f + 1) deep parts W = PP := ⟨_, rfl⟩
  rw [hPP]
  have HPP := Lib.hid hPP
  have HR := Lib.hid hr
  have HV := Lib.hid hv
  have HVS := Lib.hid hv.slice
  have HE : Hid (s.ok = true) := he
  have hpl : s.pos < l.length := by
    have h := congrArg List.length hcr
    rw [List.length_drop, List.length_cons] at h
    omega
  have hcc : l.getD s.pos 0 = c := by
    have h := congrArg (fun x => x[0]?) hcr
    simp at h
    simp [List.getD, h]
  have HB : Hid (byteQ l s = (c, { s with pos := s.pos + 1 })) := by show _ = _; unfold byteQ; rw [if_neg (by rw [he]; decide), if_pos hpl, hcc]
  have HCR := Lib.hid hcr
  have HP2 := Lib.hid hpl2
  have HC := Lib.hid hc
  have HIH := Lib.hid IH
  have HP4 := Lib.hid hp4
  have HDF := Lib.hid hdf
  clear IH hp4 hdf
  have hlt := hr.cells.2.2.2.2.2
  have HA0 : Hid (But Br W (W.alloc (.cells #[.int .i64 0, .int .i64 0, .int .u64 0, .string ⟨#[]⟩, .slice none 0 0] 25))) := (But.refl Br W).alloc _
  have HD0 : Hid (DB (W.alloc (.cells #[.int .i64 0, .int .i64 0, .int .u64 0, .string ⟨#[]⟩, .slice none 0 0] 25)) W.heap.size 0 0 0 ⟨#[]⟩ (.slice none 0 0)) := heap_alloc_new W _
  have HPT := Lib.hid hpt
  clear hPP hr hv he hcc hpt
  go_enter Tryd.func37, Tryd.ntmps37
  go_wp2_with fail
  refine (qbyte_any l Br v s _ (HR.out.alloc _) (HV.out.butQ HR.out HVS.out HA0.out) hl hp).mono ?_
  rintro e W1 ⟨rfl, h1, h2⟩
  rw [HB.out] at h1 ⊢
  simp only [hc]
  have hne0 : W.heap.size ≠ Br := by omega
  have D1 := Lib.hid (HD0.out.but h2 hne0)
  have B1 := Lib.hid (HA0.out.trans h2)
  have G1 := Lib.hid h1
  have hsz := h2.size
  rw [World.size_alloc] at hsz
  obtain ⟨e0, e1, e2, e3, e4, hlte⟩ := D1.out.cells
  have r0 := D1.out.free 0
  have r1 := D1.out.free 1
  have r2 := D1.out.free 2
  have r3 := D1.out.free 3
  have r4 := D1.out.free 4
  have HKD : Hid (I64 (kd : Nat)) := by show I64 _; unfold I64; omega
  have HPL := Lib.hid hpl
  clear h1 h2 hc hcr hpl2
  have HNE : Hid (W1.heap.size ≠ W.heap.size) := by show _ ≠ _; omega
  have HKK := Lib.hid hk
  have hn1 : ¬ W1.heap.size = W.heap.size := by omega
  have hn2 : ¬ W.heap.size = W1.heap.size := by omega
  have HO1 : Hid (∀ k : Int, DB (W1.alloc (.cells #[.int .i64 k, .int .i64 0, .int .u64 0, .string ⟨#[]⟩, .slice none 0 0] 25)) W1.heap.size k 0 0 ⟨#[]⟩ (.slice none 0 0)) := fun k => heap_alloc_new W1 _
  have HBd : Hid (W1.heap.size ≠ Br) := by show _ ≠ _; omega
  have HBs : Hid (∀ o, Bs (W1.alloc o) v l) := fun o => HV.out.butQ HR.out HVS.out (B1.out.alloc o)
  subst hk
  obtain ⟨R, hR⟩ : ∃ R, roomOf deep parts = R := ⟨_, rfl⟩
  have hRp : R ≤ parts ∧ (R = 0 ∨ deep < 16) := by
    have h1 := HDF.out
    unfold roomOf at hR
    split at hR
    · omega
    · exact ⟨by omega, .inr (by omega)⟩
  have HRR := Lib.hid hR
  have HRP := Lib.hid hRp
  have CR : Hid (Calls Tryd.prog 67 #[.pointer (some ⟨Br, 0, none⟩), .int .i64 (deep : Nat)] (W1.alloc (.cells #[.int .i64 8, .int .i64 0, .int .u64 0, .string ⟨#[]⟩, .slice none 0 0] 25)) fun e w' => e = .returned (.int .u64 (R : Nat)) ∧ w' = W1.alloc (.cells #[.int .i64 8, .int .i64 0, .int .u64 0, .string ⟨#[]⟩, .slice none 0 0] 25)) := by
    have h1 := HPT.out
    have h2 := HP4.out
    have h3 := HDF.out
    have h := qroom_any Br deep v { s with pos := s.pos + 1 } (W1.alloc (.cells #[.int .i64 8, .int .i64 0, .int .u64 0, .string ⟨#[]⟩, .slice none 0 0] 25)) (G1.out.alloc _) (by show 0 ≤ s.parts ∧ s.parts ≤ 100000; omega) (by omega)
    have e : roomQ deep ({ s with pos := s.pos + 1 } : Qs).parts = R := by show roomQ deep s.parts = R; rw [h1, roomQ_of (by omega) h2, hR]
    rw [e] at h
    exact h
  clear hR hRp
  go_wp2_with fail
  refine CR.out.mono ?_
  rintro e w' ⟨rfl, rfl⟩
  go_wp2_with fail
  refine (qnumber_all l Br v { s with pos := s.pos + 1 } R _ (G1.out.alloc _) (HBs.out _) hl HPL.out (by have := HRP.out; have := HP4.out; omega)).mono ?_
  rintro e W2 ⟨x, s', rfl, g1, g2, g3⟩
  have D2 := Lib.hid ((D1.out.alloc (.cells #[.int .i64 8, .int .i64 0, .int .u64 0, .string ⟨#[]⟩, .slice none 0 0] 25)).but g2 hne0)
  have O2 := Lib.hid ((HO1.out _).but g2 HBd.out)
  have B2 := Lib.hid ((B1.out.alloc _).trans g2)
  have R2 := Lib.hid g1
  obtain ⟨a1, a2, a3, a4⟩ := QAfter.num HP2.out g3 HE.out
  have hx4 : x ≤ 4096 := by have := HRP.out; have := HP4.out; omega
  have hxw : IntKind.i64.wrap (x : Int) = (x : Int) := i64_wrap_nat (by omega)
  have HA := Lib.hid a1
  have HA2 := Lib.hid a2
  have HXR := Lib.hid a3
  clear g1 g2 g3 a1 a2 a3 e0 e1 e2 e3 e4 hlte r0 r1 r2 r3 r4 hx4
  have HLD := Lib.hid O2.out.cells.2.2.2.2.2
  have HV2 : Hid (Bs W2 v l) := HV.out.butQ HR.out HVS.out B2.out
  rcases a4 with ⟨ok, u, a5, a6⟩ | ⟨ok, rfl, a5⟩
  · have HOK := Lib.hid ok
    have A5 := Lib.hid a5
    have A6 := Lib.hid a6
    clear ok a5 a6
    go_wp2_with fail
    refine (qlist_any l Br f deep x parts v s' _ HIH.out R2.out HV2.out HOK.out HA2.out (HA.out.trans HPT.out) HP4.out (Nat.le_trans HXR.out HRP.out.1) HDF.out (by have h1 := HXR.out; have h2 := HRP.out.2; omega)).mono ?_
    rintro e W3 ⟨q, m, c', ts, s3, rfl, g1, g2, g3, g4⟩
    have D9 := Lib.hid (D2.out.but g2 hne0)
    have O9 := Lib.hid (O2.out.but g2 HBd.out)
    have B9 := Lib.hid (B2.out.trans g2)
    have R9 := Lib.hid g1
    have P9 := Lib.hid g3
    have L9 := Lib.hid g4
    have hsz9 := g2.size
    clear hxw g1 g2 g3 g4
    obtain ⟨e0, e1, e2, e3, e4, hlte⟩ := D9.out.cells
    obtain ⟨d0, d1, d2, d3, d4, hltd⟩ := O9.out.cells
    have r0 := D9.out.free 0
    have r1 := D9.out.free 1
    have r2 := D9.out.free 2
    have r3 := D9.out.free 3
    have r4 := D9.out.free 4
    have q4 := O9.out.free 4
    go_wp2_with fail
    refine bodyPost_ret (res_value (B := W.heap.size) ((D9.out.setOther ⟨W1.heap.size, 4, none⟩ _ HNE.out).set5 _ 0 0 ⟨#[]⟩ (.slice q m c')) rfl _ rfl) rfl ?_
    rw [← HPP.out]
    refine ⟨_, 0, 0, ⟨#[]⟩, q, m, c', _, rfl, (R9.out.setOther ⟨W1.heap.size, 4, none⟩ _ HBd.out).set5 _ hne0 _ _ _ _ _, (B9.out.set ⟨W1.heap.size, 4, none⟩ _ (.inr (Nat.le_of_succ_le hsz))).set5 _ (Nat.le_refl _) _ _ _ _ _, P9.out, ?_⟩
    rw [HCR.out]
    refine QAt.list (s1 := s') (u0 := 1 + u) (kd := (8 : Nat)) (di := 0) (db := (0 : Nat)) (n := x) (p0 := parts - x) ?_ (by have h := A6.out; show s'.pos = _; rw [h]; show s.pos + 1 + u = _; omega) L9.out (fun b hb hl => end_keeps (by have := HLD.out; omega) HLD.out b hb hl) HKD.out i64_zero (by omega)
    rw [valD_parts (o := ⟨0, 0, .empty, x⟩) (u := u) HC.out (by omega) (Nat.not_lt_zero _) (by rw [HRR.out]; unfold ownD; simp [A5.out])]
    have hd : l.drop s'.pos = r.drop u := by rw [A6.out, ← HP2.out, List.drop_drop]
    rw [hd]
    rfl
  · have A5 := Lib.hid a5
    have hpar : 0 ≤ s'.parts ∧ s'.parts ≤ 4096 := by have h0 := HA.out; have h1 := HPT.out; have h2 := HP4.out; simp only at h0; omega
    have HPA := Lib.hid hpar
    clear hpar ok a5
    go_wp2_with fail
    refine (qlist_stop Br deep v s' _ R2.out HPA.out).mono ?_
    rintro e W3 ⟨rfl, g1, g2⟩
    have g3 := HA2.out
    have g4 := trivial
    have D9 := Lib.hid (D2.out.but g2 hne0)
    have O9 := Lib.hid (O2.out.but g2 HBd.out)
    have B9 := Lib.hid (B2.out.trans g2)
    have R9 := Lib.hid g1
    have P9 := Lib.hid g3
    have L9 := Lib.hid g4
    have hsz9 := g2.size
    clear hxw g1 g2 g3 g4
    obtain ⟨e0, e1, e2, e3, e4, hlte⟩ := D9.out.cells
    obtain ⟨d0, d1, d2, d3, d4, hltd⟩ := O9.out.cells
    have r0 := D9.out.free 0
    have r1 := D9.out.free 1
    have r2 := D9.out.free 2
    have r3 := D9.out.free 3
    have r4 := D9.out.free 4
    have q4 := O9.out.free 4
    go_wp2_with fail
    refine bodyPost_ret (res_value (B := W.heap.size) ((D9.out.setOther ⟨W1.heap.size, 4, none⟩ _ HNE.out).set5 _ 0 0 ⟨#[]⟩ (.slice none 0 0)) rfl _ rfl) rfl ?_
    rw [← HPP.out]
    refine ⟨_, 0, 0, ⟨#[]⟩, none, 0, 0, _, rfl, (R9.out.setOther ⟨W1.heap.size, 4, none⟩ _ HBd.out).set5 _ hne0 _ _ _ _ _, (B9.out.set ⟨W1.heap.size, 4, none⟩ _ (.inr (Nat.le_of_succ_le hsz))).set5 _ (Nat.le_refl _) _ _ _ _ _, P9.out, ?_⟩
    rw [HCR.out]
    rcases A5.out with ⟨h1, h2, h3⟩ | ⟨h1, h2⟩
    · rw [valD_short HC.out (by omega) (by decide) (by rw [HRR.out]; unfold ownD; simp [h1])]
      exact ⟨h2, h3⟩
    · rw [valD_badO HC.out (by omega) (by decide) (by rw [HRR.out]; unfold ownD; simp [h1])]
      exact h2

/-- behind k of eight bytes -/
def FloQ (l : List UInt8) (s : Qs) (k : Nat) (s' : Qs) (B : Nat) : Prop :=
  s'.parts = s.parts ∧ s'.pos ≤ l.length ∧ B < 18446744073709551616 ∧
    ((s'.ok = true ∧ s'.pos = s.pos + k ∧ B = leN ((l.drop s.pos).take k)) ∨ ((s'.short = true ∧ s'.bad = false) ∧ l.length < s.pos + 8))
theorem FloQ.ok {l : List UInt8} {s s' : Qs} {k B : Nat} {c : UInt8} (h : FloQ l s k s' B) (he : s'.ok = true) (hk : k < 8) (hc : l[s'.pos]? = some c) :
    byteQ l s' = (c, { s' with pos := s'.pos + 1 }) ∧ FloQ l s (k + 1) { s' with pos := s'.pos + 1 } (B + c.toNat * 2 ^ (8 * k)) ∧ B + c.toNat * 2 ^ (8 * k) < 18446744073709551616 := by
  obtain ⟨h1, h3, h4, h5⟩ := h
  have hpl := (List.getElem?_eq_some_iff.1 hc).1
  rcases h5 with ⟨_, h6, h7⟩ | ⟨h6, _⟩
  · have hc' : (l.drop s.pos)[k]? = some c := by rw [List.getElem?_drop, ← h6]; exact hc
    obtain ⟨g1, g2⟩ := leN_take hc'
    have hlt : leN ((l.drop s.pos).take (k + 1)) < 18446744073709551616 := by
      have g3 := leN_lt ((l.drop s.pos).take (k + 1))
      have g4 : ((l.drop s.pos).take (k + 1)).length ≤ 8 := by rw [List.length_take]; omega
      have g5 : (256 : Nat) ^ ((l.drop s.pos).take (k + 1)).length ≤ 256 ^ 8 := Nat.pow_le_pow_right (by decide) g4
      have g6 : (256 : Nat) ^ 8 = 18446744073709551616 := by decide
      omega
    refine ⟨?_, ⟨h1, hpl, by rw [h7, ← g1]; exact hlt, .inl ⟨he, ?_, ?_⟩⟩, by rw [h7, ← g1]; exact hlt⟩
    · unfold byteQ; rw [if_neg (by rw [he]; decide), if_pos hpl]; simp [List.getD, hc]
    · show s'.pos + 1 = _; omega
    · rw [h7, ← g1]
  · rw [Qs.not_ok (.inl h6.1)] at he; cases he
theorem FloQ.no {l : List UInt8} {s s' : Qs} {k B : Nat} (h : FloQ l s k s' B) (hk : k < 8) (he : ¬ (s'.ok = true ∧ s'.pos < l.length)) :
    ∃ s2, byteQ l s' = (0, s2) ∧ FloQ l s (k + 1) s2 B := by
  obtain ⟨h1, h3, h4, h5⟩ := h
  rcases h5 with ⟨h6, h7, _⟩ | ⟨h6, h7⟩
  · have hpl : ¬ s'.pos < l.length := fun x => he ⟨h6, x⟩
    have hb : s'.bad = false := by unfold Qs.ok at h6; simp at h6; exact h6.2
    refine ⟨{ s' with short := true }, ?_, h1, h3, h4, .inr ⟨⟨rfl, hb⟩, by omega⟩⟩
    unfold byteQ; rw [if_neg (by simp [h6]), if_neg hpl]
  · refine ⟨s', ?_, h1, h3, h4, .inr ⟨h6, h7⟩⟩
    unfold byteQ; rw [if_pos (Qs.not_ok (.inl h6.1))]
set_option maxRecDepth 100000 in
set_option maxHeartbeats 8000000 in
theorem qvalue_float (l : List UInt8) (Br f deep parts kd : Nat) (v : Value) (c : UInt8) (r : List UInt8) (s : Qs) (W : World) (hr : QB W Br v s) (hv : Bs W v l) (hl : l.length ≤ 100000000) (he : s.ok = true) (hp : s.pos ≤ l.length) (hpt : s.parts = 4096 - (parts : Nat)) (hcr : l.drop s.pos = c :: r) (hc : c.toNat = kd) (hk : kd = 3) (IH : QVC l Br v f) (hp4 : parts ≤ 4096) (hdf : deep + f = 16) :
    Calls Tryd.prog 37 #[.pointer (some ⟨Br, 0, none⟩), .int .i64 (deep : Nat)] W (QVPost l Br v s (f + 1) deep parts W) := by
  have hpl2 : l.drop (s.pos + 1) = r := by rw [← List.drop_drop, hcr]; rfl
  obtain ⟨PP, hPP⟩ : ∃ PP, QVPost l Br v s (f + 1) deep parts W = PP := ⟨_, rfl⟩
  rw [hPP]
  have HPP := Lib.hid hPP
  have HR := Lib.hid hr
  have HV := Lib.hid hv
  have HVS := Lib.hid hv.slice
  have HE : Hid (s.ok = true) := he
  have hpl : s.pos < l.length := by
    have h := congrArg List.length hcr
    rw [List.length_drop, List.length_cons] at h
    omega
  have hcc : l.getD s.pos 0 = c := by
    have h := congrArg (fun x => x[0]?) hcr
    simp at h
    simp [List.getD, h]
  have HB : Hid (byteQ l s = (c, { s with pos := s.pos + 1 })) := by show _ = _; unfold byteQ; rw [if_neg (by rw [he]; decide), if_pos hpl, hcc]
  have HCR := Lib.hid hcr
  have HP2 := Lib.hid hpl2
  have HC := Lib.hid hc
  have HIH := Lib.hid IH
  have HP4 := Lib.hid hp4
  have HDF := Lib.hid hdf
  clear IH hp4 hdf
  have hlt := hr.cells.2.2.2.2.2
  have HA0 : Hid (But Br W (W.alloc (.cells #[.int .i64 0, .int .i64 0, .int .u64 0, .string ⟨#[]⟩, .slice none 0 0] 25))) := (But.refl Br W).alloc _
  have HD0 : Hid (DB (W.alloc (.cells #[.int .i64 0, .int .i64 0, .int .u64 0, .string ⟨#[]⟩, .slice none 0 0] 25)) W.heap.size 0 0 0 ⟨#[]⟩ (.slice none 0 0)) := heap_alloc_new W _
  have HPT := Lib.hid hpt
  clear hPP hr hv he hcc hpt
  go_enter Tryd.func37, Tryd.ntmps37
  go_wp2_with fail
  refine (qbyte_any l Br v s _ (HR.out.alloc _) (HV.out.butQ HR.out HVS.out HA0.out) hl hp).mono ?_
  rintro e W1 ⟨rfl, h1, h2⟩
  rw [HB.out] at h1 ⊢
  simp only [hc]
  have hne0 : W.heap.size ≠ Br := by omega
  have D1 := Lib.hid (HD0.out.but h2 hne0)
  have B1 := Lib.hid (HA0.out.trans h2)
  have G1 := Lib.hid h1
  have hsz := h2.size
  rw [World.size_alloc] at hsz
  obtain ⟨e0, e1, e2, e3, e4, hlte⟩ := D1.out.cells
  have r0 := D1.out.free 0
  have r1 := D1.out.free 1
  have r2 := D1.out.free 2
  have r3 := D1.out.free 3
  have r4 := D1.out.free 4
  have HKD : Hid (I64 (kd : Nat)) := by show I64 _; unfold I64; omega
  have HPL := Lib.hid hpl
  clear h1 h2 hc hcr hpl2
  have HNE : Hid (W1.heap.size ≠ W.heap.size) := by show _ ≠ _; omega
  have HKK := Lib.hid hk
  have hn1 : ¬ W1.heap.size = W.heap.size := by omega
  have hn2 : ¬ W.heap.size = W1.heap.size := by omega
  have HO1 : Hid (∀ k : Int, DB (W1.alloc (.cells #[.int .i64 k, .int .i64 0, .int .u64 0, .string ⟨#[]⟩, .slice none 0 0] 25)) W1.heap.size k 0 0 ⟨#[]⟩ (.slice none 0 0)) := fun k => heap_alloc_new W1 _
  have HBd : Hid (W1.heap.size ≠ Br) := by show _ ≠ _; omega
  have HBs : Hid (∀ o, Bs (W1.alloc o) v l) := fun o => HV.out.butQ HR.out HVS.out (B1.out.alloc o)
  subst hk
  have D1a := Lib.hid (D1.out.alloc (.cells #[.int .i64 3, .int .i64 0, .int .u64 0, .string ⟨#[]⟩, .slice none 0 0] 25))
  have O1a := Lib.hid (HO1.out 3)
  have B1a := Lib.hid (B1.out.alloc (.cells #[.int .i64 3, .int .i64 0, .int .u64 0, .string ⟨#[]⟩, .slice none 0 0] 25))
  have G1a := Lib.hid (G1.out.alloc (.cells #[.int .i64 3, .int .i64 0, .int .u64 0, .string ⟨#[]⟩, .slice none 0 0] 25))
  go_wp2_with fail
  go_loopw [6] (fun s6 wr => ∃ (k B : Nat) (s' : Qs), s6 = .int .i64 (k : Nat) ∧ k ≤ 8 ∧ Hid (QB wr Br v s') ∧ Hid (DB wr W1.heap.size (3 : Nat) 0 (B : Nat) ⟨#[]⟩ (.slice none 0 0)) ∧ Hid (DB wr W.heap.size 0 0 0 ⟨#[]⟩ (.slice none 0 0)) ∧ Hid (But Br W wr) ∧ Hid (FloQ l { s with pos := s.pos + 1 } k s' B)) (fun s6 _ => (8 - intOf s6).toNat)
  case atStart => exact ⟨0, 0, _, rfl, by omega, G1a.out, O1a.out, D1a.out, B1a.out, ⟨rfl, HPL.out, by omega, .inl ⟨HE.out, rfl, rfl⟩⟩⟩
  case round =>
    obtain ⟨k, B, s', rfl, hk, R1, O1, D3, B3, F1⟩ := hrel
    clear e0 e1 e2 e3 e4 hlte r0 r1 r2 r3 r4
    obtain ⟨d0, d1, d2, d3, d4, hltd⟩ := O1.out.cells
    have hf2 := O1.out.free 2
    have F1' := F1.out
    obtain ⟨f1, f3, f4, f5⟩ := F1'
    by_cases hk8 : k = 8
    · subst hk8
      obtain ⟨e0, e1, e2, e3, e4, hlte⟩ := D3.out.cells
      have r0 := D3.out.free 0
      have r1 := D3.out.free 1
      have r2 := D3.out.free 2
      have r3 := D3.out.free 3
      have r4 := D3.out.free 4
      have F5 := Lib.hid f5
      clear f5
      go_wp2_with fail
      refine bodyPost_ret (res_value (B := W.heap.size) (D3.out.set5 _ 0 (B : Nat) ⟨#[]⟩ (.slice none 0 0)) rfl _ rfl) rfl ?_
      rw [← HPP.out]
      refine ⟨_, 0, (B : Nat), ⟨#[]⟩, none, 0, 0, s', rfl, R1.out.set5 _ hne0 _ _ _ _ _, B3.out.set5 _ (Nat.le_refl _) _ _ _ _ _, f3, ?_⟩
      have hP2 := HP2.out
      have hlen : r.length = l.length - (s.pos + 1) := by rw [← hP2, List.length_drop]
      have hPL := HPL.out
      rw [HCR.out]
      rcases F5.out with ⟨g1, g2, g3⟩ | ⟨g1, g2⟩
      · have g2' : s'.pos = s.pos + 1 + 8 := g2
        have g3' : B = leN (r.take 8) := by rw [← hP2]; exact g3
        rw [valD_leaf (o := ⟨0, B, .empty, 0⟩) (u := 8) HC.out (by omega) (by decide) (by unfold ownD; simp [show ¬ r.length < 8 by omega, g3']) rfl]
        exact ⟨by rw [g2'], g1, f1.trans HPT.out, DvIn.leaf _ _ _ HKD.out i64_zero (by omega)⟩
      · have g2' : l.length < s.pos + 1 + 8 := g2
        rw [valD_short HC.out (by omega) (by decide) (by unfold ownD; simp [show r.length < 8 by omega])]
        exact g1
    · have hkI : (k : Int) < 8 := by omega
      have HVr := Lib.hid (HV.out.butQ HR.out HVS.out B3.out)
      have CB := Lib.hid (fun W2 (h1 : QB W2 Br v s') (h2 : Bs W2 v l) => qbyte_any l Br v s' W2 h1 h2 hl f3)
      by_cases hok : s'.ok = true ∧ s'.pos < l.length
      · obtain ⟨c, hc⟩ : ∃ c, l[s'.pos]? = some c := ⟨_, List.getElem?_eq_getElem hok.2⟩
        obtain ⟨q1, q2, q4⟩ := F1.out.ok hok.1 (by omega) hc
        have HB := Lib.hid q1
        have F2 := Lib.hid q2
        obtain ⟨C, hC⟩ : ∃ C, c.toNat = C := ⟨_, rfl⟩
        have HC9 := Lib.hid hC
        rw [hC] at F2 q4
        have hC256 : C < 256 := by rw [← hC]; exact c.toNat_lt
        obtain ⟨Y, hY⟩ : ∃ Y, B + C * 2 ^ (8 * k) = Y := ⟨_, rfl⟩
        obtain ⟨S, hS⟩ : ∃ S, C * 2 ^ (8 * k) = S := ⟨_, rfl⟩
        have e3 : IntKind.u64.wrap ((B : Int) + (S : Int)) = (Y : Int) := by rw [hS] at q4 hY; rw [wrap64u]; omega
        have hsh : ∀ w', (Op.shift .shl .u64 (C : Int) .i64 (IntKind.i64.wrap (8 * (k : Int)))).run Tryd.prog w' = .ok (.int .u64 (S : Int)) w' := fun w' => by rw [run_shl8 _ _ _ (by omega) (by omega), hS]
        have hwC : IntKind.u64.wrap (C : Int) = (C : Int) := by rw [wrap64u]; omega
        clear hS
        rw [hY] at F2
        clear hC hY q1 q2 q4 hc f1 f3 f4 f5 hok
        go_wp2_with fail
        go_region_with (first | (go_at_call 47; refine (CB.out _ R1.out.drew HVr.out.drew).mono ?_; rintro e W2 ⟨rfl, g1, g2⟩; rw [HB.out] at g1; rw [HB.out, HC9.out]; have G2 := Lib.hid g1; have B2 := Lib.hid (B3.out.drew.trans g2); have O2 := Lib.hid (O1.out.drew.but g2 HBd.out); have D2 := Lib.hid (D3.out.drew.but g2 hne0); have hf2' := O2.out.free 2; have hlt2 := O2.out.cells.2.2.2.2.2; have d2' := O2.out.cells.2.2.1; clear g1 g2))
        all_goals
          go_simp
          go_wp2_with fail
          go_roundw
          case rel => exact ⟨k + 1, Y, _, by go_num, by omega, G2.out.setOther _ _ HBd.out, O2.out.setDb Y, D2.out.setOther _ _ HNE.out, B2.out.set ⟨W1.heap.size, 2, none⟩ _ (.inr (Nat.le_of_succ_le hsz)), F2.out⟩
          case measure => simp [intOf]; omega
      · obtain ⟨s2, q1, q2⟩ := F1.out.no (by omega) hok
        have HB := Lib.hid q1
        have F2 := Lib.hid q2
        have e3 : IntKind.u64.wrap ((B : Int) + 0) = (B : Int) := by rw [wrap64u]; omega
        have e4 : IntKind.u64.wrap (B : Int) = (B : Int) := by rw [wrap64u]; omega
        have hw0 : IntKind.u64.wrap 0 = 0 := by rw [wrap64u]; rfl
        have hsh : ∀ w', (Op.shift .shl .u64 0 .i64 (IntKind.i64.wrap (8 * (k : Int)))).run Tryd.prog w' = .ok (.int .u64 0) w' := fun w' => by
          have h := run_shl8 Tryd.prog 0 k (by omega) (by omega) w'
          rw [Nat.zero_mul] at h
          exact h
        clear q1 q2 f1 f3 f4 f5 hok
        go_wp2_with fail
        go_region_with (first | (go_at_call 47; refine (CB.out _ R1.out.drew HVr.out.drew).mono ?_; rintro e W2 ⟨rfl, g1, g2⟩; rw [HB.out] at g1; rw [HB.out]; have G2 := Lib.hid g1; have B2 := Lib.hid (B3.out.drew.trans g2); have O2 := Lib.hid (O1.out.drew.but g2 HBd.out); have D2 := Lib.hid (D3.out.drew.but g2 hne0); have hf2' := O2.out.free 2; have hlt2 := O2.out.cells.2.2.2.2.2; have d2' := O2.out.cells.2.2.1; clear g1 g2))
        all_goals
          go_simp
          go_wp2_with fail
          go_roundw
          case rel => exact ⟨k + 1, B, _, by go_num, by omega, G2.out.setOther _ _ HBd.out, O2.out.setDb B, D2.out.setOther _ _ HNE.out, B2.out.set ⟨W1.heap.size, 2, none⟩ _ (.inr (Nat.le_of_succ_le hsz)), F2.out⟩
          case measure => simp [intOf]; omega

/-- a list, where nothing can come any more -/
def QLNo (Br : Nat) (v : Value) (l : List UInt8) (W : World) (r : Ending) (W' : World) : Prop := ∃ (q : Option Addr) (m c : Nat) (s' : Qs), r = .returned (.slice q m c) ∧ QB W' Br v s' ∧ But Br W W' ∧ s'.pos ≤ l.length ∧ s'.bad = true
theorem qlist_no (l : List UInt8) (Br deep n : Nat) (v : Value) (s : Qs) (W : World) (hr : QB W Br v s) (hp : s.pos ≤ l.length) (hpt : 0 ≤ s.parts ∧ s.parts ≤ 4096) (hn : 0 < n) (hn2 : n ≤ 4096) (hb : s.bad = true) :
    Calls Tryd.prog 66 #[.pointer (some ⟨Br, 0, none⟩), .int .i64 (n : Nat), .int .i64 (deep : Nat)] W (QLNo Br v l W) := by
  by_cases h : 4096 < s.parts + (n : Int) ∨ 16 ≤ deep
  · refine (qlist_bad Br deep n v s W hr hpt hn hn2 h).mono ?_
    rintro e w ⟨rfl, h1, h2⟩
    exact ⟨none, 0, 0, _, rfl, h1, h2, hp, rfl⟩
  · refine (qlist_halt Br deep n v s W hr hpt hn hn2 (Qs.not_ok (.inr hb)) (by omega)).mono ?_
    rintro e w ⟨rfl, h1, h2⟩
    exact ⟨none, 0, 0, _, rfl, h1, h2, hp, hb⟩
theorem valD_own {f deep parts kd : Nat} {c : UInt8} {r : List UInt8} (hc : c.toNat = kd) (hk : kd < 14) (hn : ¬ roomOf deep parts < needs kd) :
    valD (f + 1) deep parts (c :: r) = (ownD (roomOf deep parts) kd r).bind fun o u => (listD (valD f (deep + 1)) o.n (parts - o.n) (r.drop u)).bind fun ts u2 => .done (.mk kd o.di o.db o.ds ts.1, ts.2) (1 + u + u2) := by
  subst hc
  rw [valD, if_neg (by omega), if_neg hn]
/-- why nothing can come of a pointer -/
theorem ptr_bad {f deep parts x u : Nat} {c : UInt8} {r : List UInt8} (hc : c.toNat = 11) (hdf : deep + f = 16) (h : (¬ (1 ≤ parts ∧ deep < 16)) ∨ (x = 0 ∧ numD top63 0 0 r = .done x u)) : valD (f + 1) deep parts (c :: r) = .bad := by
  by_cases hr : 1 ≤ parts ∧ deep < 16
  · rcases h with h | ⟨rfl, h⟩
    · exact absurd hr h
    · rw [valD_own hc (by omega) (by have := roomOf_ge hr; show ¬ roomOf deep parts < 1; omega)]
      unfold ownD
      simp [h]
  · exact valD_badR hc (by omega) (roomOf_lt hdf hr (by decide))
theorem ptr_else {f deep parts : Nat} {c : UInt8} {r : List UInt8} (hc : c.toNat = 11) (hr : 1 ≤ parts ∧ deep < 16) : (numD top63 0 0 r = .short → valD (f + 1) deep parts (c :: r) = .short) ∧ (numD top63 0 0 r = .bad → valD (f + 1) deep parts (c :: r) = .bad) ∧
    (∀ x u, numD top63 0 0 r = .done x u → 0 < x → valD (f + 1) deep parts (c :: r) = (listD (valD f (deep + 1)) 1 (parts - 1) (r.drop u)).bind fun ts u2 => .done (.mk (11 : Nat) x (0 : Nat) ⟨#[]⟩ ts.1, ts.2) (1 + u + u2)) := by
  rw [valD_own hc (by omega) (by have := roomOf_ge hr; show ¬ roomOf deep parts < 1; omega)]
  refine ⟨fun h => ?_, fun h => ?_, fun x u h hx => ?_⟩
  · unfold ownD; simp [h]
  · unfold ownD; simp [h]
  · unfold ownD; simp [h, show x ≠ 0 by omega]; rfl
set_option maxRecDepth 100000 in
set_option maxHeartbeats 8000000 in
theorem qvalue_ptr (l : List UInt8) (Br f deep parts kd : Nat) (v : Value) (c : UInt8) (r : List UInt8) (s : Qs) (W : World) (hr : QB W Br v s) (hv : Bs W v l) (hl : l.length ≤ 100000000) (he : s.ok = true) (hp : s.pos ≤ l.length) (hpt : s.parts = 4096 - (parts : Nat)) (hcr : l.drop s.pos = c :: r) (hc : c.toNat = kd) (hk : kd = 11) (IH : QVC l Br v f) (hp4 : parts ≤ 4096) (hdf : deep + f = 16) :
    Calls Tryd.prog 37 #[.pointer (some ⟨Br, 0, none⟩), .int .i64 (deep : Nat)] W (QVPost l Br v s (f + 1) deep parts W) := by
  have hpl2 : l.drop (s.pos + 1) = r := by rw [← List.drop_drop, hcr]; rfl
  obtain ⟨PP, hPP⟩ : ∃ PP, QVPost l Br v s (f + 1) deep parts W = PP := ⟨_, rfl⟩
  rw [hPP]
  have HPP := Lib.hid hPP
  have HR := Lib.hid hr
  have HV := Lib.hid hv
  have HVS := Lib.hid hv.slice
  have HE : Hid (s.ok = true) := he
  have hpl : s.pos < l.length := by
    have h := congrArg List.length hcr
    rw [List.length_drop, List.length_cons] at h
    omega
  have hcc : l.getD s.pos 0 = c := by
    have h := congrArg (fun x => x[0]?) hcr
    simp at h
    simp [List.getD, h]
  have HB : Hid (byteQ l s = (c, { s with pos := s.pos + 1 })) := by show _ = _; unfold byteQ; rw [if_neg (by rw [he]; decide), if_pos hpl, hcc]
  have HCR := Lib.hid hcr
  have HP2 := Lib.hid hpl2
  have HC := Lib.hid hc
  have HIH := Lib.hid IH
  have HP4 := Lib.hid hp4
  have HDF := Lib.hid hdf
  clear IH hp4 hdf
  have hlt := hr.cells.2.2.2.2.2
  have HA0 : Hid (But Br W (W.alloc (.cells #[.int .i64 0, .int .i64 0, .int .u64 0, .string ⟨#[]⟩, .slice none 0 0] 25))) := (But.refl Br W).alloc _
  have HD0 : Hid (DB (W.alloc (.cells #[.int .i64 0, .int .i64 0, .int .u64 0, .string ⟨#[]⟩, .slice none 0 0] 25)) W.heap.size 0 0 0 ⟨#[]⟩ (.slice none 0 0)) := heap_alloc_new W _
  have HPT := Lib.hid hpt
  clear hPP hr hv he hcc hpt
  go_enter Tryd.func37, Tryd.ntmps37
  go_wp2_with fail
  refine (qbyte_any l Br v s _ (HR.out.alloc _) (HV.out.butQ HR.out HVS.out HA0.out) hl hp).mono ?_
  rintro e W1 ⟨rfl, h1, h2⟩
  rw [HB.out] at h1 ⊢
  simp only [hc]
  have hne0 : W.heap.size ≠ Br := by omega
  have D1 := Lib.hid (HD0.out.but h2 hne0)
  have B1 := Lib.hid (HA0.out.trans h2)
  have G1 := Lib.hid h1
  have hsz := h2.size
  rw [World.size_alloc] at hsz
  obtain ⟨e0, e1, e2, e3, e4, hlte⟩ := D1.out.cells
  have r0 := D1.out.free 0
  have r1 := D1.out.free 1
  have r2 := D1.out.free 2
  have r3 := D1.out.free 3
  have r4 := D1.out.free 4
  have HKD : Hid (I64 (kd : Nat)) := by show I64 _; unfold I64; omega
  have HPL := Lib.hid hpl
  clear h1 h2 hc hcr hpl2
  have HNE : Hid (W1.heap.size ≠ W.heap.size) := by show _ ≠ _; omega
  have HKK := Lib.hid hk
  have hn1 : ¬ W1.heap.size = W.heap.size := by omega
  have hn2 : ¬ W.heap.size = W1.heap.size := by omega
  have HO1 : Hid (∀ k : Int, DB (W1.alloc (.cells #[.int .i64 k, .int .i64 0, .int .u64 0, .string ⟨#[]⟩, .slice none 0 0] 25)) W1.heap.size k 0 0 ⟨#[]⟩ (.slice none 0 0)) := fun k => heap_alloc_new W1 _
  have HBd : Hid (W1.heap.size ≠ Br) := by show _ ≠ _; omega
  have HBs : Hid (∀ o, Bs (W1.alloc o) v l) := fun o => HV.out.butQ HR.out HVS.out (B1.out.alloc o)
  subst hk
  go_wp2_with fail
  refine (qnumber_all l Br v { s with pos := s.pos + 1 } 9223372036854775807 _ (G1.out.alloc _) (HBs.out _) hl HPL.out (by omega)).mono ?_
  rintro e W2 ⟨x, s', rfl, g1, g2, g3⟩
  have D2 := Lib.hid ((D1.out.alloc (.cells #[.int .i64 11, .int .i64 0, .int .u64 0, .string ⟨#[]⟩, .slice none 0 0] 25)).but g2 hne0)
  have O2 := Lib.hid ((HO1.out _).but g2 HBd.out)
  have B2 := Lib.hid ((B1.out.alloc _).trans g2)
  have R2 := Lib.hid g1
  obtain ⟨a1, a2, a3, a4⟩ := QAfter.num HP2.out g3 HE.out
  have hxw : IntKind.i64.wrap (x : Int) = (x : Int) := i64_wrap_nat (by omega)
  have HA : Hid (s'.parts = 4096 - (parts : Nat)) := a1.trans HPT.out
  have HA2 := Lib.hid a2
  have HXR : Hid (I64 (x : Nat)) := by show I64 _; unfold I64; omega
  have A4 : Hid ((s'.ok = true ∧ ∃ u, numD top63 0 0 r = .done x u ∧ s'.pos = s.pos + 1 + u) ∨ (s'.ok = false ∧ x = 0 ∧ ((numD top63 0 0 r = .short ∧ s'.short = true ∧ s'.bad = false) ∨ (numD top63 0 0 r = .bad ∧ s'.bad = true)))) := a4
  clear g1 g2 g3 a1 a2 a3 a4 e0 e1 e2 e3 e4 hlte r0 r1 r2 r3 r4
  obtain ⟨d0, d1, d2, d3, d4, hltd⟩ := O2.out.cells
  have q1 := O2.out.free 1
  obtain ⟨E2, hE2⟩ : ∃ E2, W2.setCell ⟨W1.heap.size, 1, none⟩ (.int .i64 (x : Nat)) = E2 := ⟨_, rfl⟩
  have OE : Hid (DB E2 W1.heap.size (11 : Nat) (x : Nat) 0 ⟨#[]⟩ (.slice none 0 0)) := by show DB _ _ _ _ _ _ _; rw [← hE2]; exact O2.out.setDi (x : Nat)
  have DE : Hid (DB E2 W.heap.size 0 0 0 ⟨#[]⟩ (.slice none 0 0)) := by show DB _ _ _ _ _ _ _; rw [← hE2]; exact D2.out.setOther _ _ HNE.out
  have BE : Hid (But Br W E2) := by show But _ _ _; rw [← hE2]; exact B2.out.set ⟨W1.heap.size, 1, none⟩ _ (.inr (Nat.le_of_succ_le hsz))
  have RE : Hid (QB E2 Br v s') := by show QB _ _ _ _; rw [← hE2]; exact R2.out.setOther _ _ HBd.out
  have CO : Hid (Calls Tryd.prog 48 #[.pointer (some ⟨Br, 0, none⟩)] E2 fun e w' => e = .returned (.bool s'.ok) ∧ w' = E2) := (qok_any Br _ s' E2 RE.out).mono fun _ _ ⟨h1, h2⟩ => ⟨h1, h2.symm⟩
  have HVE : Hid (Bs E2 v l) := HV.out.butQ HR.out HVS.out BE.out
  have HE2 := Lib.hid hE2
  clear hE2
  go_wp2_with fail
  rw [HE2.out]
  clear d0 d1 d2 d3 d4 hltd q1
  obtain ⟨d0, d1, d2, d3, d4, hltd⟩ := OE.out.cells
  obtain ⟨c0, c1, c2, c3, c4, hltc⟩ := RE.out.cells
  have hf4 := RE.out.free 4
  have HLD : Hid (W1.heap.size < E2.heap.size) := hltd
  have hpar := HA.out
  have hp4 := HP4.out
  rw [hpar] at c2
  have REB : Hid (QB (E2.setCell ⟨Br, 4, none⟩ (.bool true)) Br v { s' with bad := true }) := RE.out.setBad true
  have OEB : Hid (DB (E2.setCell ⟨Br, 4, none⟩ (.bool true)) W1.heap.size (11 : Nat) (x : Nat) 0 ⟨#[]⟩ (.slice none 0 0)) := OE.out.setOther _ _ (fun e => HBd.out e.symm)
  have DEB : Hid (DB (E2.setCell ⟨Br, 4, none⟩ (.bool true)) W.heap.size 0 0 0 ⟨#[]⟩ (.slice none 0 0)) := DE.out.setOther _ _ (fun e => hne0 e.symm)
  have BEB : Hid (But Br W (E2.setCell ⟨Br, 4, none⟩ (.bool true))) := BE.out.set ⟨Br, 4, none⟩ _ (.inl rfl)
  have CL : Hid (Calls Tryd.prog 66 #[.pointer (some ⟨Br, 0, none⟩), .int .i64 ((1 : Nat) : Int), .int .i64 (deep : Nat)] (E2.setCell ⟨Br, 4, none⟩ (.bool true)) (QLNo Br v l (E2.setCell ⟨Br, 4, none⟩ (.bool true)))) := qlist_no l Br deep 1 v _ _ REB.out HA2.out (by show 0 ≤ s'.parts ∧ s'.parts ≤ 4096; rw [hpar]; omega) (by decide) (by decide) rfl
  refine CO.out.mono ?_
  rintro e w' ⟨rfl, rfl⟩
  have h0 := A4.out
  cases hok : s'.ok with
  | true =>
    obtain ⟨u, hu, hpu⟩ : ∃ u, numD top63 0 0 r = .done x u ∧ s'.pos = s.pos + 1 + u := by
      rcases h0 with ⟨-, h⟩ | ⟨h, -⟩
      · exact h
      · rw [hok] at h; cases h
    have HU := Lib.hid hu
    have HPU := Lib.hid hpu
    have HOK : Hid (s'.ok = true) := hok
    clear h0 hu hpu hok
    by_cases hx0 : x = 0
    · have HBAD : Hid ((¬ (1 ≤ parts ∧ deep < 16)) ∨ (x = 0 ∧ numD top63 0 0 r = .done x u)) := .inr ⟨hx0, HU.out⟩
      have hxb : ((x : Int) == 0) = true := by simp [hx0]
      clear hx0
      go_wp2_with fail
      refine CL.out.mono ?_
      rintro e W3 ⟨q, m, c', s3, rfl, g1, g2, g3, g4⟩
      have D9 := Lib.hid (DEB.out.but g2 hne0)
      have O9 := Lib.hid (OEB.out.but g2 HBd.out)
      have B9 := Lib.hid (BEB.out.trans g2)
      have R9 := Lib.hid g1
      have P9 := Lib.hid g3
      have L9 := Lib.hid g4
      have hsz9 := g2.size
      clear hxw c0 c1 c2 c3 c4 hltc hf4 d0 d1 d2 d3 d4 hltd g1 g2 g3 g4
      obtain ⟨e0, e1, e2, e3, e4, hlte⟩ := D9.out.cells
      obtain ⟨d0, d1, d2, d3, d4, hltd⟩ := O9.out.cells
      have r0 := D9.out.free 0
      have r1 := D9.out.free 1
      have r2 := D9.out.free 2
      have r3 := D9.out.free 3
      have r4 := D9.out.free 4
      have q4 := O9.out.free 4
      go_wp2_with fail
      refine bodyPost_ret (res_value (B := W.heap.size) ((D9.out.setOther ⟨W1.heap.size, 4, none⟩ _ HNE.out).set5 _ (x : Nat) 0 ⟨#[]⟩ (.slice q m c')) rfl _ rfl) rfl ?_
      rw [← HPP.out]
      refine ⟨_, (x : Nat), 0, ⟨#[]⟩, q, m, c', _, rfl, (R9.out.setOther ⟨W1.heap.size, 4, none⟩ _ HBd.out).set5 _ hne0 _ _ _ _ _, (B9.out.set ⟨W1.heap.size, 4, none⟩ _ (.inr (Nat.le_of_succ_le hsz))).set5 _ (Nat.le_refl _) _ _ _ _ _, P9.out, ?_⟩
      rw [HCR.out]
      rw [ptr_bad HC.out HDF.out HBAD.out]
      exact L9.out
    · have hxb : ((x : Int) == 0) = false := by simp [hx0]
      have HX1 : Hid (0 < x) := by show 0 < x; omega
      clear hx0
      by_cases hd : 16 ≤ deep
      · have hdI : (16 : Int) ≤ (deep : Int) := by omega
        have HBAD : Hid ((¬ (1 ≤ parts ∧ deep < 16)) ∨ (x = 0 ∧ numD top63 0 0 r = .done x u)) := .inl (by omega)
        clear hd
        go_wp2_with fail
        refine CL.out.mono ?_
        rintro e W3 ⟨q, m, c', s3, rfl, g1, g2, g3, g4⟩
        have D9 := Lib.hid (DEB.out.but g2 hne0)
        have O9 := Lib.hid (OEB.out.but g2 HBd.out)
        have B9 := Lib.hid (BEB.out.trans g2)
        have R9 := Lib.hid g1
        have P9 := Lib.hid g3
        have L9 := Lib.hid g4
        have hsz9 := g2.size
        clear hxw c0 c1 c2 c3 c4 hltc hf4 d0 d1 d2 d3 d4 hltd g1 g2 g3 g4
        obtain ⟨e0, e1, e2, e3, e4, hlte⟩ := D9.out.cells
        obtain ⟨d0, d1, d2, d3, d4, hltd⟩ := O9.out.cells
        have r0 := D9.out.free 0
        have r1 := D9.out.free 1
        have r2 := D9.out.free 2
        have r3 := D9.out.free 3
        have r4 := D9.out.free 4
        have q4 := O9.out.free 4
        go_wp2_with fail
        refine bodyPost_ret (res_value (B := W.heap.size) ((D9.out.setOther ⟨W1.heap.size, 4, none⟩ _ HNE.out).set5 _ (x : Nat) 0 ⟨#[]⟩ (.slice q m c')) rfl _ rfl) rfl ?_
        rw [← HPP.out]
        refine ⟨_, (x : Nat), 0, ⟨#[]⟩, q, m, c', _, rfl, (R9.out.setOther ⟨W1.heap.size, 4, none⟩ _ HBd.out).set5 _ hne0 _ _ _ _ _, (B9.out.set ⟨W1.heap.size, 4, none⟩ _ (.inr (Nat.le_of_succ_le hsz))).set5 _ (Nat.le_refl _) _ _ _ _ _, P9.out, ?_⟩
        rw [HCR.out]
        rw [ptr_bad HC.out HDF.out HBAD.out]
        exact L9.out
      · have hdI : ¬ (16 : Int) ≤ (deep : Int) := by omega
        by_cases hp1 : parts = 0
        · have hpI : (4096 : Int) ≤ 4096 - (parts : Int) := by omega
          have HBAD : Hid ((¬ (1 ≤ parts ∧ deep < 16)) ∨ (x = 0 ∧ numD top63 0 0 r = .done x u)) := .inl (by omega)
          clear hp1 hd
          go_wp2_with fail
          refine CL.out.mono ?_
          rintro e W3 ⟨q, m, c', s3, rfl, g1, g2, g3, g4⟩
          have D9 := Lib.hid (DEB.out.but g2 hne0)
          have O9 := Lib.hid (OEB.out.but g2 HBd.out)
          have B9 := Lib.hid (BEB.out.trans g2)
          have R9 := Lib.hid g1
          have P9 := Lib.hid g3
          have L9 := Lib.hid g4
          have hsz9 := g2.size
          clear hxw c0 c1 c2 c3 c4 hltc hf4 d0 d1 d2 d3 d4 hltd g1 g2 g3 g4
          obtain ⟨e0, e1, e2, e3, e4, hlte⟩ := D9.out.cells
          obtain ⟨d0, d1, d2, d3, d4, hltd⟩ := O9.out.cells
          have r0 := D9.out.free 0
          have r1 := D9.out.free 1
          have r2 := D9.out.free 2
          have r3 := D9.out.free 3
          have r4 := D9.out.free 4
          have q4 := O9.out.free 4
          go_wp2_with fail
          refine bodyPost_ret (res_value (B := W.heap.size) ((D9.out.setOther ⟨W1.heap.size, 4, none⟩ _ HNE.out).set5 _ (x : Nat) 0 ⟨#[]⟩ (.slice q m c')) rfl _ rfl) rfl ?_
          rw [← HPP.out]
          refine ⟨_, (x : Nat), 0, ⟨#[]⟩, q, m, c', _, rfl, (R9.out.setOther ⟨W1.heap.size, 4, none⟩ _ HBd.out).set5 _ hne0 _ _ _ _ _, (B9.out.set ⟨W1.heap.size, 4, none⟩ _ (.inr (Nat.le_of_succ_le hsz))).set5 _ (Nat.le_refl _) _ _ _ _ _, P9.out, ?_⟩
          rw [HCR.out]
          rw [ptr_bad HC.out HDF.out HBAD.out]
          exact L9.out
        · have hpI : ¬ (4096 : Int) ≤ 4096 - (parts : Int) := by omega
          have HRM : Hid (1 ≤ parts ∧ deep < 16) := by show _ ∧ _; omega
          clear hp1 hd
          go_wp2_with fail
          refine (qlist_any l Br f deep 1 parts v s' _ HIH.out RE.out HVE.out HOK.out HA2.out HA.out HP4.out HRM.out.1 HDF.out (.inr HRM.out.2)).mono ?_
          rintro e W3 ⟨q, m, c', ts, s3, rfl, g1, g2, g3, g4⟩
          have D9 := Lib.hid (DE.out.but g2 hne0)
          have O9 := Lib.hid (OE.out.but g2 HBd.out)
          have B9 := Lib.hid (BE.out.trans g2)
          have R9 := Lib.hid g1
          have P9 := Lib.hid g3
          have L9 := Lib.hid g4
          have hsz9 := g2.size
          clear hxw c0 c1 c2 c3 c4 hltc hf4 d0 d1 d2 d3 d4 hltd g1 g2 g3 g4
          obtain ⟨e0, e1, e2, e3, e4, hlte⟩ := D9.out.cells
          obtain ⟨d0, d1, d2, d3, d4, hltd⟩ := O9.out.cells
          have r0 := D9.out.free 0
          have r1 := D9.out.free 1
          have r2 := D9.out.free 2
          have r3 := D9.out.free 3
          have r4 := D9.out.free 4
          have q4 := O9.out.free 4
          go_wp2_with fail
          refine bodyPost_ret (res_value (B := W.heap.size) ((D9.out.setOther ⟨W1.heap.size, 4, none⟩ _ HNE.out).set5 _ (x : Nat) 0 ⟨#[]⟩ (.slice q m c')) rfl _ rfl) rfl ?_
          rw [← HPP.out]
          refine ⟨_, (x : Nat), 0, ⟨#[]⟩, q, m, c', _, rfl, (R9.out.setOther ⟨W1.heap.size, 4, none⟩ _ HBd.out).set5 _ hne0 _ _ _ _ _, (B9.out.set ⟨W1.heap.size, 4, none⟩ _ (.inr (Nat.le_of_succ_le hsz))).set5 _ (Nat.le_refl _) _ _ _ _ _, P9.out, ?_⟩
          rw [HCR.out]
          refine QAt.list (s1 := s') (u0 := 1 + u) (kd := (11 : Nat)) (di := (x : Nat)) (db := (0 : Nat)) (n := 1) (p0 := parts - 1) ?_ (by have h := HPU.out; omega) L9.out (fun b hb hl => end_keeps (by have := HLD.out; omega) HLD.out b hb hl) HKD.out HXR.out (by omega)
          rw [(ptr_else HC.out HRM.out).2.2 x u HU.out HX1.out, HPU.out, ← HP2.out, List.drop_drop]
  | false =>
    obtain ⟨hx0, h5⟩ : x = 0 ∧ ((numD top63 0 0 r = .short ∧ s'.short = true ∧ s'.bad = false) ∨ (numD top63 0 0 r = .bad ∧ s'.bad = true)) := by
      rcases h0 with ⟨h, -⟩ | ⟨-, h⟩
      · rw [hok] at h; cases h
      · exact h
    have A5 := Lib.hid h5
    have HOK : Hid (s'.ok = false) := hok
    clear h0 h5 hx0 hok
    by_cases hd : 16 ≤ deep
    · have hdI : (16 : Int) ≤ (deep : Int) := by omega
      have HBAD : Hid ((¬ (1 ≤ parts ∧ deep < 16)) ∨ (x = 0 ∧ numD top63 0 0 r = .done x 0)) := .inl (by omega)
      clear hd
      go_wp2_with fail
      refine CL.out.mono ?_
      rintro e W3 ⟨q, m, c', s3, rfl, g1, g2, g3, g4⟩
      have D9 := Lib.hid (DEB.out.but g2 hne0)
      have O9 := Lib.hid (OEB.out.but g2 HBd.out)
      have B9 := Lib.hid (BEB.out.trans g2)
      have R9 := Lib.hid g1
      have P9 := Lib.hid g3
      have L9 := Lib.hid g4
      have hsz9 := g2.size
      clear hxw c0 c1 c2 c3 c4 hltc hf4 d0 d1 d2 d3 d4 hltd g1 g2 g3 g4
      obtain ⟨e0, e1, e2, e3, e4, hlte⟩ := D9.out.cells
      obtain ⟨d0, d1, d2, d3, d4, hltd⟩ := O9.out.cells
      have r0 := D9.out.free 0
      have r1 := D9.out.free 1
      have r2 := D9.out.free 2
      have r3 := D9.out.free 3
      have r4 := D9.out.free 4
      have q4 := O9.out.free 4
      go_wp2_with fail
      refine bodyPost_ret (res_value (B := W.heap.size) ((D9.out.setOther ⟨W1.heap.size, 4, none⟩ _ HNE.out).set5 _ (x : Nat) 0 ⟨#[]⟩ (.slice q m c')) rfl _ rfl) rfl ?_
      rw [← HPP.out]
      refine ⟨_, (x : Nat), 0, ⟨#[]⟩, q, m, c', _, rfl, (R9.out.setOther ⟨W1.heap.size, 4, none⟩ _ HBd.out).set5 _ hne0 _ _ _ _ _, (B9.out.set ⟨W1.heap.size, 4, none⟩ _ (.inr (Nat.le_of_succ_le hsz))).set5 _ (Nat.le_refl _) _ _ _ _ _, P9.out, ?_⟩
      rw [HCR.out]
      rw [ptr_bad HC.out HDF.out HBAD.out]
      exact L9.out
    · have hdI : ¬ (16 : Int) ≤ (deep : Int) := by omega
      by_cases hp1 : parts = 0
      · have hpI : (4096 : Int) ≤ 4096 - (parts : Int) := by omega
        have HBAD : Hid ((¬ (1 ≤ parts ∧ deep < 16)) ∨ (x = 0 ∧ numD top63 0 0 r = .done x 0)) := .inl (by omega)
        clear hp1 hd
        go_wp2_with fail
        refine CL.out.mono ?_
        rintro e W3 ⟨q, m, c', s3, rfl, g1, g2, g3, g4⟩
        have D9 := Lib.hid (DEB.out.but g2 hne0)
        have O9 := Lib.hid (OEB.out.but g2 HBd.out)
        have B9 := Lib.hid (BEB.out.trans g2)
        have R9 := Lib.hid g1
        have P9 := Lib.hid g3
        have L9 := Lib.hid g4
        have hsz9 := g2.size
        clear hxw c0 c1 c2 c3 c4 hltc hf4 d0 d1 d2 d3 d4 hltd g1 g2 g3 g4
        obtain ⟨e0, e1, e2, e3, e4, hlte⟩ := D9.out.cells
        obtain ⟨d0, d1, d2, d3, d4, hltd⟩ := O9.out.cells
        have r0 := D9.out.free 0
        have r1 := D9.out.free 1
        have r2 := D9.out.free 2
        have r3 := D9.out.free 3
        have r4 := D9.out.free 4
        have q4 := O9.out.free 4
        go_wp2_with fail
        refine bodyPost_ret (res_value (B := W.heap.size) ((D9.out.setOther ⟨W1.heap.size, 4, none⟩ _ HNE.out).set5 _ (x : Nat) 0 ⟨#[]⟩ (.slice q m c')) rfl _ rfl) rfl ?_
        rw [← HPP.out]
        refine ⟨_, (x : Nat), 0, ⟨#[]⟩, q, m, c', _, rfl, (R9.out.setOther ⟨W1.heap.size, 4, none⟩ _ HBd.out).set5 _ hne0 _ _ _ _ _, (B9.out.set ⟨W1.heap.size, 4, none⟩ _ (.inr (Nat.le_of_succ_le hsz))).set5 _ (Nat.le_refl _) _ _ _ _ _, P9.out, ?_⟩
        rw [HCR.out]
        rw [ptr_bad HC.out HDF.out HBAD.out]
        exact L9.out
      · have hpI : ¬ (4096 : Int) ≤ 4096 - (parts : Int) := by omega
        have HRM : Hid (1 ≤ parts ∧ deep < 16) := by show _ ∧ _; omega
        clear hp1 hd
        go_wp2_with fail
        refine (qlist_halt Br deep 1 v s' _ RE.out (by rw [HA.out]; have := HP4.out; omega) (by decide) (by decide) HOK.out (by have h := HA.out; have h2 := HRM.out; omega)).mono ?_
        rintro e W3 ⟨rfl, g1, g2⟩
        have g3 := HA2.out
        have g4 := trivial
        have D9 := Lib.hid (DE.out.but g2 hne0)
        have O9 := Lib.hid (OE.out.but g2 HBd.out)
        have B9 := Lib.hid (BE.out.trans g2)
        have R9 := Lib.hid g1
        have P9 := Lib.hid g3
        have L9 := Lib.hid g4
        have hsz9 := g2.size
        clear hxw c0 c1 c2 c3 c4 hltc hf4 d0 d1 d2 d3 d4 hltd g1 g2 g3 g4
        obtain ⟨e0, e1, e2, e3, e4, hlte⟩ := D9.out.cells
        obtain ⟨d0, d1, d2, d3, d4, hltd⟩ := O9.out.cells
        have r0 := D9.out.free 0
        have r1 := D9.out.free 1
        have r2 := D9.out.free 2
        have r3 := D9.out.free 3
        have r4 := D9.out.free 4
        have q4 := O9.out.free 4
        go_wp2_with fail
        refine bodyPost_ret (res_value (B := W.heap.size) ((D9.out.setOther ⟨W1.heap.size, 4, none⟩ _ HNE.out).set5 _ (x : Nat) 0 ⟨#[]⟩ (.slice none 0 0)) rfl _ rfl) rfl ?_
        rw [← HPP.out]
        refine ⟨_, (x : Nat), 0, ⟨#[]⟩, none, 0, 0, _, rfl, (R9.out.setOther ⟨W1.heap.size, 4, none⟩ _ HBd.out).set5 _ hne0 _ _ _ _ _, (B9.out.set ⟨W1.heap.size, 4, none⟩ _ (.inr (Nat.le_of_succ_le hsz))).set5 _ (Nat.le_refl _) _ _ _ _ _, P9.out, ?_⟩
        rw [HCR.out]
        rcases A5.out with ⟨h1, h2, h3⟩ | ⟨h1, h2⟩
        · rw [(ptr_else HC.out HRM.out).1 h1]
          exact ⟨h2, h3⟩
        · rw [(ptr_else HC.out HRM.out).2.1 h1]
          exact h2

theorem qvc_all (l : List UInt8) (Br : Nat) (v : Value) (hl : l.length ≤ 100000000) : ∀ f, QVC l Br v f := by
  intro f
  induction f with
  | zero => intro deep parts s W _ _ _ _ _ _ _ h; exact absurd h (Nat.lt_irrefl _)
  | succ f ih =>
    intro deep parts s W hr hv he hp hpt hp4 hdf _
    have hdf' : deep + f = 16 := by omega
    cases hd : l.drop s.pos with
    | nil => exact qvalue_short l Br f deep parts v s W hr hv hl hp he hd
    | cons c r =>
      by_cases h14 : 14 ≤ c.toNat
      · exact qvalue_over l Br f deep parts c.toNat v c r s W hr hv hl he hp hd rfl h14
      by_cases h0 : c.toNat = 0 ∨ c.toNat = 12 ∨ c.toNat = 13
      · exact qvalue_none l Br f deep parts c.toNat v c r s W hr hv hl he hp hpt hd rfl h0
      by_cases h1 : c.toNat = 1 ∨ c.toNat = 2
      · exact qvalue_signed l Br f deep parts c.toNat v c r s W hr hv hl he hp hpt hd rfl h1
      by_cases h4 : c.toNat = 4 ∨ c.toNat = 5 ∨ c.toNat = 7
      · exact qvalue_text l Br f deep parts c.toNat v c r s W hr hv hl he hp hpt hd rfl h4
      by_cases h6 : c.toNat = 6
      · exact qvalue_bool l Br f deep parts c.toNat v c r s W hr hv hl he hp hpt hd rfl h6
      by_cases h10 : c.toNat = 10
      · exact qvalue_err l Br f deep parts c.toNat v c r s W hr hv hl he hp hpt hd rfl h10
      by_cases h3 : c.toNat = 3
      · exact qvalue_float l Br f deep parts c.toNat v c r s W hr hv hl he hp hpt hd rfl h3 ih hp4 hdf'
      by_cases h8 : c.toNat = 8
      · exact qvalue_list l Br f deep parts c.toNat v c r s W hr hv hl he hp hpt hd rfl h8 ih hp4 hdf'
      by_cases h9 : c.toNat = 9
      · exact qvalue_pair l Br f deep parts c.toNat v c r s W hr hv hl he hp hpt hd rfl h9 ih hp4 hdf'
      · exact qvalue_ptr l Br f deep parts c.toNat v c r s W hr hv hl he hp hpt hd rfl (by omega) ih hp4 hdf'
theorem res_qread {W : World} {B : Nat} {cs : Array Value} (h : W.heap[B]? = some (.cells cs 25 (0, 0))) (hs : cs.size = 5) (tmps : Array Value) (h2 : tmps.getD 2 undef = .pointer (some ⟨B, 0, none⟩)) {k e : Int} (h3 : tmps.getD 3 undef = .int .i64 k) (h4 : tmps.getD 4 undef = .int .i64 e) :
    (results Tryd.f15 tmps).run Tryd.prog W = .ok (.tuple #[.agg cs, .int .i64 k, .int .i64 e]) W := by
  have h2' : tmps[2]?.getD undef = .pointer (some ⟨B, 0, none⟩) := by simpa using h2
  have h3' : tmps[3]?.getD undef = .int .i64 k := by simpa using h3
  have h4' : tmps[4]?.getD undef = .int .i64 e := by simpa using h4
  have hl := run_loadVar_row (P := Tryd.prog) W B 25 25 cs (0, 0) _ h Tryd.underlying25 rfl (by rw [hs]; kernel_rfl)
  simp [results, Tryd.results15, h2', h3', h4', asAddr, hl]
set_option maxRecDepth 100000 in
set_option maxHeartbeats 4000000 in
theorem refRead_any (l : List UInt8) (v : Value) (w : World) (hv : Bs w v l) (hl : l.length ≤ 100000000) :
    Calls Tryd.prog 15 #[v] w (RdPost (valD 16 1 4095 l) w) := by
  obtain ⟨PP, hPP⟩ : ∃ PP, RdPost (valD 16 1 4095 l) w = PP := ⟨_, rfl⟩
  rw [hPP]
  have HPP := Lib.hid hPP
  have HV := Lib.hid hv
  obtain ⟨p, cap, rfl, -⟩ := id hv
  clear hPP hv
  go_enter Tryd.func15, Tryd.ntmps15
  go_wp2_with fail
  have HW2 : Hid (QB ((w.alloc (.cells #[.int .i64 0, .int .i64 0, .int .u64 0, .string ⟨#[]⟩, .slice none 0 0] 25)).alloc (.cells #[.slice p l.length cap, .int .i64 0, .int .i64 1, .bool false, .bool false] 80)) (w.heap.size + 1) (.slice p l.length cap) ⟨0, 1, false, false⟩) := by
    have h := heap_alloc_new (w.alloc (.cells #[.int .i64 0, .int .i64 0, .int .u64 0, .string ⟨#[]⟩, .slice none 0 0] 25)) (.cells #[.slice p l.length cap, .int .i64 0, .int .i64 1, .bool false, .bool false] 80)
    rw [World.size_alloc] at h
    exact h
  have HB2 : Hid (Below w.heap.size w ((w.alloc (.cells #[.int .i64 0, .int .i64 0, .int .u64 0, .string ⟨#[]⟩, .slice none 0 0] 25)).alloc (.cells #[.slice p l.length cap, .int .i64 0, .int .i64 1, .bool false, .bool false] 80))) := ((Below.refl _ _).alloc (Nat.le_refl _) _).alloc (by simp) _
  have HD2 : Hid (DB ((w.alloc (.cells #[.int .i64 0, .int .i64 0, .int .u64 0, .string ⟨#[]⟩, .slice none 0 0] 25)).alloc (.cells #[.slice p l.length cap, .int .i64 0, .int .i64 1, .bool false, .bool false] 80)) w.heap.size 0 0 0 ⟨#[]⟩ (.slice none 0 0)) := (show DB (w.alloc _) w.heap.size 0 0 0 ⟨#[]⟩ (.slice none 0 0) from heap_alloc_new w _).alloc _
  refine (qvc_all l (w.heap.size + 1) (.slice p l.length cap) hl 16 1 4095 ⟨0, 1, false, false⟩ _ HW2.out (HV.out.below HB2.out) rfl (Nat.zero_le _) rfl (by omega) rfl (by omega)).mono ?_
  rintro e W3 ⟨kd, di, db, ds, q, n, c, s', rfl, g1, g2, g3, g4⟩
  rw [show l.drop (⟨0, 1, false, false⟩ : Qs).pos = l from List.drop_zero] at g4
  have hsz := g2.size
  simp only [World.size_alloc] at hsz
  have G3 := Lib.hid (HD2.out.but g2 (by omega))
  have G2 := Lib.hid (g2.below HB2.out (by omega) (by simp; omega))
  have G1 := Lib.hid g1
  have G4 := Lib.hid g4
  obtain ⟨c0, c1, c2, c3, c4, hltc⟩ := g1.cells
  obtain ⟨e0, e1, e2, e3, e4, hlte⟩ := G3.out.cells
  have r0 := G3.out.free 0
  have r1 := G3.out.free 1
  have r2 := G3.out.free 2
  have r3 := G3.out.free 3
  have r4 := G3.out.free 4
  have hn1 : ¬ W3.heap.size = w.heap.size := by omega
  have hn2 : ¬ W3.heap.size = w.heap.size + 1 := by omega
  have hn3 : ¬ w.heap.size = W3.heap.size := by omega
  have hn4 : ¬ w.heap.size + 1 = W3.heap.size := by omega
  clear g1 g2 g4 HW2 HB2 HD2
  cases hbad : s'.bad with
  | true =>
    rw [hbad] at c4
    have HBA : Hid (s'.bad = true) := hbad
    clear hbad
    go_wp2_with fail
    refine bodyPost_ret (res_qread (B := w.heap.size) (cs := #[.int .i64 0, .int .i64 0, .int .u64 0, .string ⟨#[]⟩, .slice none 0 0]) (k := 0) (e := 262) (by exact DB.alloc (G3.out.set5 0 0 0 ⟨#[]⟩ (.slice none 0 0)) _) rfl _ rfl rfl rfl) rfl ?_
    rw [← HPP.out]
    have hg := G4.out
    refine ⟨0, 0, 0, ⟨#[]⟩, none, 0, 0, 0, 262, rfl, (below_set5 G2.out (Nat.le_refl _) _ _ _ _ _).alloc (by simp [World.setCell]; omega) _, ?_⟩
    unfold QAt at hg
    cases hq : valD 16 1 4095 l with
    | done t u => rw [hq] at hg; have h := hg.2.1; rw [Qs.not_ok (.inr HBA.out)] at h; cases h
    | short => rw [hq] at hg; have h := hg.2; rw [HBA.out] at h; cases h
    | bad => exact ⟨rfl, rfl, rfl, rfl, rfl, rfl, rfl⟩
  | false =>
    rw [hbad] at c4
    have HBA : Hid (s'.bad = false) := hbad
    clear hbad
    cases hsh : s'.short with
    | true =>
      rw [hsh] at c3
      have HSH : Hid (s'.short = true) := hsh
      clear hsh
      go_wp2_with fail
      refine bodyPost_ret (res_qread (B := w.heap.size) (cs := #[.int .i64 0, .int .i64 0, .int .u64 0, .string ⟨#[]⟩, .slice none 0 0]) (k := 0) (e := 260) (by exact DB.alloc (G3.out.set5 0 0 0 ⟨#[]⟩ (.slice none 0 0)) _) rfl _ rfl rfl rfl) rfl ?_
      rw [← HPP.out]
      have hg := G4.out
      refine ⟨0, 0, 0, ⟨#[]⟩, none, 0, 0, 0, 260, rfl, (below_set5 G2.out (Nat.le_refl _) _ _ _ _ _).alloc (by simp [World.setCell]; omega) _, ?_⟩
      unfold QAt at hg
      cases hq : valD 16 1 4095 l with
      | done t u => rw [hq] at hg; have h := hg.2.1; rw [Qs.not_ok (.inl HSH.out)] at h; cases h
      | short => exact ⟨rfl, rfl, rfl, rfl, rfl, rfl, rfl⟩
      | bad => rw [hq] at hg; have h : s'.bad = true := hg; rw [HBA.out] at h; cases h
    | false =>
      rw [hsh] at c3
      have HSH : Hid (s'.short = false) := hsh
      clear hsh
      go_upto_region 7 with fail
      refine wp_world (fun Wx => QB Wx (w.heap.size + 1) (.slice p l.length cap) s' ∧ DB Wx w.heap.size 0 0 0 ⟨#[]⟩ (.slice none 0 0) ∧ DB Wx W3.heap.size kd di db ds (.slice q n c) ∧ Below W3.heap.size W3 Wx) (by exact ⟨G1.out.alloc _, G3.out.alloc _, heap_alloc_new W3 _, (Below.refl _ _).alloc (Nat.le_refl _) _⟩) (fun Wx hx => ?_)
      obtain ⟨k1, k2, k3, k4⟩ := hx
      have K1 := Lib.hid k1
      have K2 := Lib.hid k2
      have K4 := Lib.hid k4
      obtain ⟨D, hD⟩ : ∃ D, D = W3.heap.size := ⟨_, rfl⟩
      rw [← hD] at k3 hn1 hn2 hn3 hn4 ⊢
      clear c0 c1 c2 c3 c4 hltc e0 e1 e2 e3 e4 hlte r0 r1 r2 r3 r4
      obtain ⟨c0, c1, c2, c3, c4, hltc⟩ := k1.cells
      obtain ⟨e0, e1, e2, e3, e4, hlte⟩ := k2.cells
      obtain ⟨d0, d1, d2, d3, d4, hltd⟩ := k3.cells
      have r0 := k2.free 0
      have r1 := k2.free 1
      have r2 := k2.free 2
      have r3 := k2.free 3
      have r4 := k2.free 4
      have HD := Lib.hid hD
      clear k1 k2 k3 k4 hD
      go_region_held3 (fun w' => w'.cell? ⟨w.heap.size + 1, 1, none⟩ = some (.int .i64 (s'.pos : Nat)) ∧ w'.cell? ⟨D, 0, none⟩ = some (.int .i64 kd) ∧ w'.cell? ⟨D, 1, none⟩ = some (.int .i64 di) ∧ w'.cell? ⟨D, 2, none⟩ = some (.int .u64 db) ∧ w'.cell? ⟨D, 3, none⟩ = some (.string ds) ∧ w'.cell? ⟨D, 4, none⟩ = some (.slice q n c)) (go_keep) (fail)
      go_wp2_with fail
      refine bodyPost_ret (res_qread (B := w.heap.size) (cs := #[.int .i64 kd, .int .i64 di, .int .u64 db, .string ds, .slice q n c]) (k := (s'.pos : Nat)) (e := 0) (by exact DB.drew (K2.out.set5 kd di db ds (.slice q n c))) rfl _ rfl rfl rfl) rfl ?_
      rw [← HPP.out]
      have hg := G4.out
      unfold QAt at hg
      refine ⟨kd, di, db, ds, q, n, c, (s'.pos : Nat), 0, rfl, ?_, ?_⟩
      · exact below_drew (below_set5 (G2.out.trans (K4.out.mono (by omega))) (Nat.le_refl _) _ _ _ _ _)
      · cases hq : valD 16 1 4095 l with
        | done t u =>
          rw [hq] at hg
          obtain ⟨z1, z2, z3, z4⟩ := hg
          refine ⟨by rw [z1]; simp, rfl, z4.kept fun b hb hlt => ⟨?_, ?_⟩⟩
          · simp only [World.size_alloc] at hb
            exact (heap_set5_other (by omega) _ _ _ _ _).trans (K4.out.block b (by omega))
          · simp only [World.size_alloc] at hb
            omega
        | short => rw [hq] at hg; have h := hg.1; rw [HSH.out] at h; cases h
        | bad => rw [hq] at hg; have h : s'.bad = true := hg; rw [HBA.out] at h; cases h
end Go.Proofs.YtmncpbfghabamaaDoor
