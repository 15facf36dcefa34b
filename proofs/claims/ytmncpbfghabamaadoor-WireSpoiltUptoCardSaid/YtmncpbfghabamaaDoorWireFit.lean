/- WIRE: conduitref16.tick, FitMsg; conduitref26.Fit. -/
import Derived.Test.YtmncpbfghabamaaDoorWireWM
namespace Go.Proofs.YtmncpbfghabamaaDoor
open Go Go.RowKit

theorem tick16_any (x : Int) (W : World) : Calls Tryd.prog 69 #[.int .i64 x] W fun e w' => e = .returned (.bool (tickB x)) ∧ w' = W := by
  obtain ⟨PP, hPP⟩ : ∃ PP, (fun (e : Ending) (w' : World) => e = .returned (.bool (tickB x)) ∧ w' = W) = PP := ⟨_, rfl⟩
  rw [hPP]
  have HPP := Lib.hid hPP
  clear hPP
  by_cases h0 : 0 ≤ x
  · by_cases h1 : x ≤ 1099511627776
    · have HT : Hid (tickB x = true) := by show _ = _; unfold tickB; simp [h0, h1]
      go_enter Tryd.func69, Tryd.ntmps69
      go_wp2_with fail
      rw [← HPP.out]
      exact ⟨by first | (rw [HT.out]; done) | (rw [HT.out]; rfl), rfl⟩
    · have HT : Hid (tickB x = false) := by show _ = _; unfold tickB; simp [h1]
      have h1' : 1099511627776 < x := by omega
      go_enter Tryd.func69, Tryd.ntmps69
      go_wp2_with fail
      rw [← HPP.out]
      exact ⟨by first | (rw [HT.out]; done) | (rw [HT.out]; rfl), rfl⟩
  · have HT : Hid (tickB x = false) := by show _ = _; unfold tickB; simp [h0]
    have h1' : x < 0 := by omega
    go_enter Tryd.func69, Tryd.ntmps69
    go_wp2_with fail
    rw [← HPP.out]
    exact ⟨by first | (rw [HT.out]; done) | (rw [HT.out]; rfl), rfl⟩
def FmPost (X : Prop) (w : World) (r : Ending) (w' : World) : Prop := ∃ b : Bool, r = .returned (.bool b) ∧ (b = true ↔ X) ∧ Below w.heap.size w w'
set_option maxRecDepth 100000 in
set_option maxHeartbeats 4000000 in
theorem fitMsg_any (k : Nat) (w : World) (id at_ un co pr hp : Int) (tp rp : ByteArray) (kd di db : Int) (ds : ByteArray) (p : Option Addr) (n cap : Nat) (ps : List Dv) (hD : DvIs w k [.int .i64 kd, .int .i64 di, .int .u64 db, .string ds, .slice p n cap] (.mk kd di db ds ps)) (htp : tp.size ≤ 9223372036854775807) (hrp : rp.size ≤ 9223372036854775807) (hT : Tabs w) :
    Calls Tryd.prog 38 #[.agg #[.int .i64 id, .string tp, .int .i64 kd, .int .i64 di, .int .u64 db, .string ds, .slice p n cap, .int .i64 at_, .int .i64 un, .string rp, .int .i64 co, .int .i64 pr, .int .i64 hp]] w (FmPost (VB (.mk kd di db ds ps) ∧ nameB tp.data.toList = true ∧ (rp = ⟨#[]⟩ ∨ nameB rp.data.toList = true) ∧ tickB at_ = true ∧ tickB un = true ∧ 0 ≤ hp ∧ hp ≤ 8) w) := by
  obtain ⟨PP, hPP⟩ : ∃ PP, FmPost (VB (.mk kd di db ds ps) ∧ nameB tp.data.toList = true ∧ (rp = ⟨#[]⟩ ∨ nameB rp.data.toList = true) ∧ tickB at_ = true ∧ tickB un = true ∧ 0 ≤ hp ∧ hp ≤ 8) w = PP := ⟨_, rfl⟩
  rw [hPP]
  have HPP := Lib.hid hPP
  have HB0 : Hid (Below w.heap.size w (w.alloc (.cells #[.int .i64 id, .string tp, .int .i64 kd, .int .i64 di, .int .u64 db, .string ds, .slice p n cap, .int .i64 at_, .int .i64 un, .string rp, .int .i64 co, .int .i64 pr, .int .i64 hp] 39))) := (Below.refl _ _).alloc (Nat.le_refl _) _
  have HK : Hid (∀ W, Below (w.alloc (.cells #[.int .i64 id, .string tp, .int .i64 kd, .int .i64 di, .int .u64 db, .string ds, .slice p n cap, .int .i64 at_, .int .i64 un, .string rp, .int .i64 co, .int .i64 pr, .int .i64 hp] 39)).heap.size (w.alloc (.cells #[.int .i64 id, .string tp, .int .i64 kd, .int .i64 di, .int .u64 db, .string ds, .slice p n cap, .int .i64 at_, .int .i64 un, .string rp, .int .i64 co, .int .i64 pr, .int .i64 hp] 39)) W → W.heap[w.heap.size]? = some (.cells #[.int .i64 id, .string tp, .int .i64 kd, .int .i64 di, .int .u64 db, .string ds, .slice p n cap, .int .i64 at_, .int .i64 un, .string rp, .int .i64 co, .int .i64 pr, .int .i64 hp] 39 (0, 0))) := fun W hb => by
    rw [hb.block w.heap.size (by simp)]
    exact heap_alloc_new w _
  have HW1 : Hid (Below (w.alloc (.cells #[.int .i64 id, .string tp, .int .i64 kd, .int .i64 di, .int .u64 db, .string ds, .slice p n cap, .int .i64 at_, .int .i64 un, .string rp, .int .i64 co, .int .i64 pr, .int .i64 hp] 39)).heap.size (w.alloc (.cells #[.int .i64 id, .string tp, .int .i64 kd, .int .i64 di, .int .u64 db, .string ds, .slice p n cap, .int .i64 at_, .int .i64 un, .string rp, .int .i64 co, .int .i64 pr, .int .i64 hp] 39)) (w.alloc (.cells #[.int .i64 id, .string tp, .int .i64 kd, .int .i64 di, .int .u64 db, .string ds, .slice p n cap, .int .i64 at_, .int .i64 un, .string rp, .int .i64 co, .int .i64 pr, .int .i64 hp] 39))) := Below.refl _ _
  have CV : Hid (Calls Tryd.prog 10 #[.agg #[.int .i64 kd, .int .i64 di, .int .u64 db, .string ds, .slice p n cap]] (w.alloc (.cells #[.int .i64 id, .string tp, .int .i64 kd, .int .i64 di, .int .u64 db, .string ds, .slice p n cap, .int .i64 at_, .int .i64 un, .string rp, .int .i64 co, .int .i64 pr, .int .i64 hp] 39)) (ValPost (.mk kd di db ds ps) (w.alloc (.cells #[.int .i64 id, .string tp, .int .i64 kd, .int .i64 di, .int .u64 db, .string ds, .slice p n cap, .int .i64 at_, .int .i64 un, .string rp, .int .i64 co, .int .i64 pr, .int .i64 hp] 39)))) := valid_any k _ kd di db ds p n cap ps (hD.below HB0.out)
  have CN1 : Hid (∀ W, Below (w.alloc (.cells #[.int .i64 id, .string tp, .int .i64 kd, .int .i64 di, .int .u64 db, .string ds, .slice p n cap, .int .i64 at_, .int .i64 un, .string rp, .int .i64 co, .int .i64 pr, .int .i64 hp] 39)).heap.size (w.alloc (.cells #[.int .i64 id, .string tp, .int .i64 kd, .int .i64 di, .int .u64 db, .string ds, .slice p n cap, .int .i64 at_, .int .i64 un, .string rp, .int .i64 co, .int .i64 pr, .int .i64 hp] 39)) W → Calls Tryd.prog 68 #[.string tp] W fun e w' => e = .returned (.bool (nameB tp.data.toList)) ∧ Below W.heap.size W w') := fun W hb => refName_any valid_said tp W htp (hT.below (HB0.out.trans (hb.mono (by simp))))
  have CN2 : Hid (∀ W, Below (w.alloc (.cells #[.int .i64 id, .string tp, .int .i64 kd, .int .i64 di, .int .u64 db, .string ds, .slice p n cap, .int .i64 at_, .int .i64 un, .string rp, .int .i64 co, .int .i64 pr, .int .i64 hp] 39)).heap.size (w.alloc (.cells #[.int .i64 id, .string tp, .int .i64 kd, .int .i64 di, .int .u64 db, .string ds, .slice p n cap, .int .i64 at_, .int .i64 un, .string rp, .int .i64 co, .int .i64 pr, .int .i64 hp] 39)) W → Calls Tryd.prog 68 #[.string rp] W fun e w' => e = .returned (.bool (nameB rp.data.toList)) ∧ Below W.heap.size W w') := fun W hb => refName_any valid_said rp W hrp (hT.below (HB0.out.trans (hb.mono (by simp))))
  have CT : Hid (∀ x W, Calls Tryd.prog 69 #[.int .i64 x] W fun e w' => e = .returned (.bool (tickB x)) ∧ w' = W) := fun x W => tick16_any x W
  clear hPP hD hT htp hrp
  go_enter Tryd.func38, Tryd.ntmps38
  go_wp2_with fail
  refine CV.out.mono ?_
  rintro e W2 ⟨b, rfl, hiff, hb⟩
  have HW2 : Hid (Below (w.alloc (.cells #[.int .i64 id, .string tp, .int .i64 kd, .int .i64 di, .int .u64 db, .string ds, .slice p n cap, .int .i64 at_, .int .i64 un, .string rp, .int .i64 co, .int .i64 pr, .int .i64 hp] 39)).heap.size (w.alloc (.cells #[.int .i64 id, .string tp, .int .i64 kd, .int .i64 di, .int .u64 db, .string ds, .slice p n cap, .int .i64 at_, .int .i64 un, .string rp, .int .i64 co, .int .i64 pr, .int .i64 hp] 39)) W2) := hb
  have HI := Lib.hid hiff
  clear hb hiff
  obtain ⟨c0, c1, c2, c3, c4, c5, c6, c7, c8, c9, c10, c11, c12, hcl⟩ := cells13 (HK.out W2 HW2.out)
  cases b with
  | false =>
    have HNV : Hid (¬ VB (.mk kd di db ds ps)) := fun h => by have := HI.out.2 h; cases this
    go_wp2_with fail
    rw [← HPP.out]
    exact ⟨false, rfl, ⟨fun h => (by cases h), fun h => absurd h.1 HNV.out⟩, HB0.out.trans (HW2.out.mono (by simp))⟩
  | true =>
    have HVB := Lib.hid (HI.out.1 rfl)
    obtain ⟨nt, hnt⟩ : ∃ b, nameB tp.data.toList = b := ⟨_, rfl⟩
    have HNT := Lib.hid hnt
    have CNX := CN1.out W2 HW2.out
    rw [hnt] at CNX
    have CNX := Lib.hid CNX
    clear hnt
    go_wp2_with fail
    refine (CNX.out).mono ?_
    rintro e W3 ⟨rfl, hb⟩
    have HW3 : Hid (Below (w.alloc (.cells #[.int .i64 id, .string tp, .int .i64 kd, .int .i64 di, .int .u64 db, .string ds, .slice p n cap, .int .i64 at_, .int .i64 un, .string rp, .int .i64 co, .int .i64 pr, .int .i64 hp] 39)).heap.size (w.alloc (.cells #[.int .i64 id, .string tp, .int .i64 kd, .int .i64 di, .int .u64 db, .string ds, .slice p n cap, .int .i64 at_, .int .i64 un, .string rp, .int .i64 co, .int .i64 pr, .int .i64 hp] 39)) W3) := HW2.out.trans (hb.mono HW2.out.size)
    clear hb c0 c1 c2 c3 c4 c5 c6 c7 c8 c9 c10 c11 c12 hcl
    obtain ⟨c0, c1, c2, c3, c4, c5, c6, c7, c8, c9, c10, c11, c12, hcl⟩ := cells13 (HK.out W3 HW3.out)
    cases nt with
    | false =>
      go_wp2_with fail
      rw [← HPP.out]
      exact ⟨false, rfl, ⟨fun h => (by cases h), fun h => by have h4 := h.2.1; rw [HNT.out] at h4; cases h4⟩, HB0.out.trans (HW3.out.mono (by simp))⟩
    | true =>
      by_cases hr0 : rp = ⟨#[]⟩
      · have HR0 := Lib.hid hr0
        rw [hr0] at c9
        clear hr0
        have HRP : Hid (rp = ⟨#[]⟩ ∨ nameB rp.data.toList = true) := .inl HR0.out
        obtain ⟨ta, hta⟩ : ∃ b, tickB at_ = b := ⟨_, rfl⟩
        obtain ⟨tu, htu⟩ : ∃ b, tickB un = b := ⟨_, rfl⟩
        have CT1 : Hid (∀ W, Calls Tryd.prog 69 #[.int .i64 at_] W fun e w' => e = .returned (.bool ta) ∧ w' = W) := fun W => by have h := CT.out at_ W; rw [hta] at h; exact h
        have CT2 : Hid (∀ W, Calls Tryd.prog 69 #[.int .i64 un] W fun e w' => e = .returned (.bool tu) ∧ w' = W) := fun W => by have h := CT.out un W; rw [htu] at h; exact h
        have HTA := Lib.hid hta
        have HTU := Lib.hid htu
        clear hta htu
        go_wp2_with fail
        refine (CT1.out _).mono ?_
        rintro e w1 ⟨rfl, rfl⟩
        cases ta with
        | false =>
          go_wp2_with fail
          rw [← HPP.out]
          exact ⟨false, rfl, ⟨fun h => (by cases h), fun h => by have h4 := h.2.2.2.1; rw [HTA.out] at h4; cases h4⟩, HB0.out.trans (HW3.out.mono (by simp))⟩
        | true =>
          go_wp2_with fail
          refine (CT2.out _).mono ?_
          rintro e w2 ⟨rfl, rfl⟩
          cases tu with
          | false =>
            go_wp2_with fail
            rw [← HPP.out]
            exact ⟨false, rfl, ⟨fun h => (by cases h), fun h => by have h4 := h.2.2.2.2.1; rw [HTU.out] at h4; cases h4⟩, HB0.out.trans (HW3.out.mono (by simp))⟩
          | true =>
            by_cases h5 : 0 ≤ hp
            · by_cases h8 : hp ≤ 8
              · have HH : Hid (0 ≤ hp ∧ hp ≤ 8) := ⟨h5, h8⟩
                go_wp2_with fail
                rw [← HPP.out]
                exact ⟨true, rfl, ⟨fun _ => ⟨HVB.out, HNT.out, HRP.out, HTA.out, HTU.out, HH.out.1, HH.out.2⟩, fun _ => rfl⟩, HB0.out.trans (HW3.out.mono (by simp))⟩
              · have h8' : ¬ hp ≤ 8 := h8
                have HH := Lib.hid h8'
                have h8d : decide (hp ≤ 8) = false := by simpa using h8
                go_wp2_with fail
                rw [← HPP.out]
                exact ⟨false, by first | rfl | (rw [h8d]; done), ⟨fun h => (by cases h), fun h => by have h9 := HH.out; have h8 := h.2.2.2.2.2.2; omega⟩, HB0.out.trans (HW3.out.mono (by simp))⟩
            · have HH := Lib.hid h5
              have h5d : decide (0 ≤ hp) = false := by simpa using h5
              go_wp2_with fail
              rw [← HPP.out]
              exact ⟨false, by first | rfl | (rw [h5d]; done), ⟨fun h => (by cases h), fun h => by have h9 := HH.out; have h8 := h.2.2.2.2.2.1; omega⟩, HB0.out.trans (HW3.out.mono (by simp))⟩
      · obtain ⟨hb1, hb2, hb3⟩ := ds_ne hr0
        have HR0 : Hid (¬ rp = ⟨#[]⟩) := hr0
        have hb4 : rp.toList.isEmpty = false := by cases h : rp.toList with | nil => exact absurd h hb3 | cons a b => rfl
        obtain ⟨nr, hnr⟩ : ∃ b, nameB rp.data.toList = b := ⟨_, rfl⟩
        have HNR := Lib.hid hnr
        have CNY := CN2.out W3 HW3.out
        rw [hnr] at CNY
        have CNY := Lib.hid CNY
        clear hnr hr0
        go_wp2_with fail
        refine (CNY.out).mono ?_
        rintro e W4 ⟨rfl, hb⟩
        have HW4 : Hid (Below (w.alloc (.cells #[.int .i64 id, .string tp, .int .i64 kd, .int .i64 di, .int .u64 db, .string ds, .slice p n cap, .int .i64 at_, .int .i64 un, .string rp, .int .i64 co, .int .i64 pr, .int .i64 hp] 39)).heap.size (w.alloc (.cells #[.int .i64 id, .string tp, .int .i64 kd, .int .i64 di, .int .u64 db, .string ds, .slice p n cap, .int .i64 at_, .int .i64 un, .string rp, .int .i64 co, .int .i64 pr, .int .i64 hp] 39)) W4) := HW3.out.trans (hb.mono HW3.out.size)
        clear hb c0 c1 c2 c3 c4 c5 c6 c7 c8 c9 c10 c11 c12 hcl
        obtain ⟨c0, c1, c2, c3, c4, c5, c6, c7, c8, c9, c10, c11, c12, hcl⟩ := cells13 (HK.out W4 HW4.out)
        cases nr with
        | false =>
          go_wp2_with fail
          rw [← HPP.out]
          exact ⟨false, rfl, ⟨fun h => (by cases h), fun h => by rcases h.2.2.1 with h4 | h4; exact absurd h4 HR0.out; rw [HNR.out] at h4; cases h4⟩, HB0.out.trans (HW4.out.mono (by simp))⟩
        | true =>
          have HRP : Hid (rp = ⟨#[]⟩ ∨ nameB rp.data.toList = true) := .inr HNR.out
          obtain ⟨ta, hta⟩ : ∃ b, tickB at_ = b := ⟨_, rfl⟩
          obtain ⟨tu, htu⟩ : ∃ b, tickB un = b := ⟨_, rfl⟩
          have CT1 : Hid (∀ W, Calls Tryd.prog 69 #[.int .i64 at_] W fun e w' => e = .returned (.bool ta) ∧ w' = W) := fun W => by have h := CT.out at_ W; rw [hta] at h; exact h
          have CT2 : Hid (∀ W, Calls Tryd.prog 69 #[.int .i64 un] W fun e w' => e = .returned (.bool tu) ∧ w' = W) := fun W => by have h := CT.out un W; rw [htu] at h; exact h
          have HTA := Lib.hid hta
          have HTU := Lib.hid htu
          clear hta htu
          go_wp2_with fail
          refine (CT1.out _).mono ?_
          rintro e w1 ⟨rfl, rfl⟩
          cases ta with
          | false =>
            go_wp2_with fail
            rw [← HPP.out]
            exact ⟨false, rfl, ⟨fun h => (by cases h), fun h => by have h4 := h.2.2.2.1; rw [HTA.out] at h4; cases h4⟩, HB0.out.trans (HW4.out.mono (by simp))⟩
          | true =>
            go_wp2_with fail
            refine (CT2.out _).mono ?_
            rintro e w2 ⟨rfl, rfl⟩
            cases tu with
            | false =>
              go_wp2_with fail
              rw [← HPP.out]
              exact ⟨false, rfl, ⟨fun h => (by cases h), fun h => by have h4 := h.2.2.2.2.1; rw [HTU.out] at h4; cases h4⟩, HB0.out.trans (HW4.out.mono (by simp))⟩
            | true =>
              by_cases h5 : 0 ≤ hp
              · by_cases h8 : hp ≤ 8
                · have HH : Hid (0 ≤ hp ∧ hp ≤ 8) := ⟨h5, h8⟩
                  go_wp2_with fail
                  rw [← HPP.out]
                  exact ⟨true, rfl, ⟨fun _ => ⟨HVB.out, HNT.out, HRP.out, HTA.out, HTU.out, HH.out.1, HH.out.2⟩, fun _ => rfl⟩, HB0.out.trans (HW4.out.mono (by simp))⟩
                · have h8' : ¬ hp ≤ 8 := h8
                  have HH := Lib.hid h8'
                  have h8d : decide (hp ≤ 8) = false := by simpa using h8
                  go_wp2_with fail
                  rw [← HPP.out]
                  exact ⟨false, by first | rfl | (rw [h8d]; done), ⟨fun h => (by cases h), fun h => by have h9 := HH.out; have h8 := h.2.2.2.2.2.2; omega⟩, HB0.out.trans (HW4.out.mono (by simp))⟩
              · have HH := Lib.hid h5
                have h5d : decide (0 ≤ hp) = false := by simpa using h5
                go_wp2_with fail
                rw [← HPP.out]
                exact ⟨false, by first | rfl | (rw [h5d]; done), ⟨fun h => (by cases h), fun h => by have h9 := HH.out; have h8 := h.2.2.2.2.2.1; omega⟩, HB0.out.trans (HW4.out.mono (by simp))⟩
theorem fitB_iff {id at_ un co pr hp : Int} {tp rp : ByteArray} : fitB [id, at_, un, co, pr, hp] tp rp = true ↔ nameB tp.data.toList = true ∧ (rp = ⟨#[]⟩ ∨ nameB rp.data.toList = true) ∧ tickB at_ = true ∧ tickB un = true ∧ (0 ≤ hp ∧ hp ≤ 8) ∧ 0 ≤ id ∧ 0 ≤ co := by
  unfold fitB numsB
  simp only [Bool.and_eq_true, Bool.or_eq_true, decide_eq_true_eq]
  constructor
  · rintro ⟨⟨h1, h2⟩, ⟨⟨⟨⟨h3, h4⟩, h5⟩, h6⟩, h7⟩, h8⟩
    exact ⟨h1, h2, h5, h6, ⟨h7, h8⟩, h3, h4⟩
  · rintro ⟨h1, h2, h5, h6, ⟨h7, h8⟩, h3, h4⟩
    exact ⟨⟨h1, h2⟩, ⟨⟨⟨⟨h3, h4⟩, h5⟩, h6⟩, h7⟩, h8⟩
def FtX (t : Dv) (ns : List Int) (tp rp : ByteArray) : Prop := VB t ∧ fitB ns tp rp = true
set_option maxRecDepth 100000 in
set_option maxHeartbeats 4000000 in
theorem fit26_any (k : Nat) (w : World) (id at_ un co pr hp : Int) (tp rp : ByteArray) (kd di db : Int) (ds : ByteArray) (p : Option Addr) (n cap : Nat) (ps : List Dv) (hD : DvIs w k [.int .i64 kd, .int .i64 di, .int .u64 db, .string ds, .slice p n cap] (.mk kd di db ds ps)) (htp : tp.size ≤ 9223372036854775807) (hrp : rp.size ≤ 9223372036854775807) (hT : Tabs w) :
    Calls Tryd.prog 18 #[.agg #[.int .i64 id, .string tp, .int .i64 kd, .int .i64 di, .int .u64 db, .string ds, .slice p n cap, .int .i64 at_, .int .i64 un, .string rp, .int .i64 co, .int .i64 pr, .int .i64 hp]] w (FmPost (FtX (.mk kd di db ds ps) [id, at_, un, co, pr, hp] tp rp) w) := by
  obtain ⟨PP, hPP⟩ : ∃ PP, FmPost (FtX (.mk kd di db ds ps) [id, at_, un, co, pr, hp] tp rp) w = PP := ⟨_, rfl⟩
  rw [hPP]
  have HPP := Lib.hid hPP
  have HB0 : Hid (Below w.heap.size w (w.alloc (.cells #[.int .i64 id, .string tp, .int .i64 kd, .int .i64 di, .int .u64 db, .string ds, .slice p n cap, .int .i64 at_, .int .i64 un, .string rp, .int .i64 co, .int .i64 pr, .int .i64 hp] 39))) := (Below.refl _ _).alloc (Nat.le_refl _) _
  have HK : Hid (∀ W, Below (w.alloc (.cells #[.int .i64 id, .string tp, .int .i64 kd, .int .i64 di, .int .u64 db, .string ds, .slice p n cap, .int .i64 at_, .int .i64 un, .string rp, .int .i64 co, .int .i64 pr, .int .i64 hp] 39)).heap.size (w.alloc (.cells #[.int .i64 id, .string tp, .int .i64 kd, .int .i64 di, .int .u64 db, .string ds, .slice p n cap, .int .i64 at_, .int .i64 un, .string rp, .int .i64 co, .int .i64 pr, .int .i64 hp] 39)) W → W.heap[w.heap.size]? = some (.cells #[.int .i64 id, .string tp, .int .i64 kd, .int .i64 di, .int .u64 db, .string ds, .slice p n cap, .int .i64 at_, .int .i64 un, .string rp, .int .i64 co, .int .i64 pr, .int .i64 hp] 39 (0, 0))) := fun W hb => by
    rw [hb.block w.heap.size (by simp)]
    exact heap_alloc_new w _
  have CF : Hid (Calls Tryd.prog 38 #[.agg #[.int .i64 id, .string tp, .int .i64 kd, .int .i64 di, .int .u64 db, .string ds, .slice p n cap, .int .i64 at_, .int .i64 un, .string rp, .int .i64 co, .int .i64 pr, .int .i64 hp]] (w.alloc (.cells #[.int .i64 id, .string tp, .int .i64 kd, .int .i64 di, .int .u64 db, .string ds, .slice p n cap, .int .i64 at_, .int .i64 un, .string rp, .int .i64 co, .int .i64 pr, .int .i64 hp] 39)) (FmPost (VB (.mk kd di db ds ps) ∧ nameB tp.data.toList = true ∧ (rp = ⟨#[]⟩ ∨ nameB rp.data.toList = true) ∧ tickB at_ = true ∧ tickB un = true ∧ 0 ≤ hp ∧ hp ≤ 8) (w.alloc (.cells #[.int .i64 id, .string tp, .int .i64 kd, .int .i64 di, .int .u64 db, .string ds, .slice p n cap, .int .i64 at_, .int .i64 un, .string rp, .int .i64 co, .int .i64 pr, .int .i64 hp] 39)))) := fitMsg_any k _ id at_ un co pr hp tp rp kd di db ds p n cap ps (hD.below HB0.out) htp hrp (hT.below HB0.out)
  clear hPP hD hT htp hrp
  go_enter Tryd.func18, Tryd.ntmps18
  go_wp2_with fail
  refine CF.out.mono ?_
  rintro e W2 ⟨b, rfl, hiff, hb⟩
  have HW2 : Hid (Below (w.alloc (.cells #[.int .i64 id, .string tp, .int .i64 kd, .int .i64 di, .int .u64 db, .string ds, .slice p n cap, .int .i64 at_, .int .i64 un, .string rp, .int .i64 co, .int .i64 pr, .int .i64 hp] 39)).heap.size (w.alloc (.cells #[.int .i64 id, .string tp, .int .i64 kd, .int .i64 di, .int .u64 db, .string ds, .slice p n cap, .int .i64 at_, .int .i64 un, .string rp, .int .i64 co, .int .i64 pr, .int .i64 hp] 39)) W2) := hb
  have HI := Lib.hid hiff
  clear hb hiff
  obtain ⟨c0, c1, c2, c3, c4, c5, c6, c7, c8, c9, c10, c11, c12, hcl⟩ := cells13 (HK.out W2 HW2.out)
  cases b with
  | false =>
    go_wp2_with fail
    rw [← HPP.out]
    refine ⟨false, rfl, ⟨fun h => (by cases h), fun h => ?_⟩, HB0.out.trans (HW2.out.mono (by simp))⟩
    have h2 := fitB_iff.1 h.2
    exact HI.out.2 ⟨h.1, h2.1, h2.2.1, h2.2.2.1, h2.2.2.2.1, h2.2.2.2.2.1.1, h2.2.2.2.2.1.2⟩
  | true =>
    have HX := Lib.hid (HI.out.1 rfl)
    by_cases h0 : 0 ≤ id
    · by_cases h3 : 0 ≤ co
      · have HH : Hid (0 ≤ id ∧ 0 ≤ co) := ⟨h0, h3⟩
        go_wp2_with fail
        rw [← HPP.out]
        have hx := HX.out
        exact ⟨true, rfl, ⟨fun _ => ⟨hx.1, fitB_iff.2 ⟨hx.2.1, hx.2.2.1, hx.2.2.2.1, hx.2.2.2.2.1, ⟨hx.2.2.2.2.2.1, hx.2.2.2.2.2.2⟩, HH.out.1, HH.out.2⟩⟩, fun _ => rfl⟩, HB0.out.trans (HW2.out.mono (by simp))⟩
      · have HH := Lib.hid h3
        have h3d : decide (0 ≤ co) = false := by simpa using h3
        go_wp2_with fail
        rw [← HPP.out]
        exact ⟨false, by first | rfl | (rw [h3d]; done), ⟨fun h => (by cases h), fun h => by have h9 := HH.out; have h8 := (fitB_iff.1 h.2).2.2.2.2.2.2; omega⟩, HB0.out.trans (HW2.out.mono (by simp))⟩
    · have HH := Lib.hid h0
      have h0d : decide (0 ≤ id) = false := by simpa using h0
      go_wp2_with fail
      rw [← HPP.out]
      exact ⟨false, by first | rfl | (rw [h0d]; done), ⟨fun h => (by cases h), fun h => by have h9 := HH.out; have h8 := (fitB_iff.1 h.2).2.2.2.2.2.1; omega⟩, HB0.out.trans (HW2.out.mono (by simp))⟩
end Go.Proofs.YtmncpbfghabamaaDoor
