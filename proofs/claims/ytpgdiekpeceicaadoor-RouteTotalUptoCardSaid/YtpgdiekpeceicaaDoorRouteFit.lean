/- ROUTE: conduitref21.Fit. -/
import Derived.Test.YtpgdiekpeceicaaDoorRouteIter
namespace Go.Proofs.YtpgdiekpeceicaaDoor
open Go Go.RowKit

theorem WtIs.ofZero {w : World} {k : Nat} {op num : Int} {p : Option Addr} {n c : Nat} {t : Wt} (h : WtIs w k [.int .i64 op, .int .i64 num, .slice p n c] t) (hz : zeroB op num n = true) : t = .mk 0 0 [] := by
  cases k with
  | zero => exact h.elim
  | succ k =>
    obtain ⟨op', num', l⟩ := t
    obtain ⟨p', cap', e1, k1, k2, _⟩ := h
    injection e1 with e2 e1
    injection e1 with e3 e1
    injection e1 with e4
    injection e2 with _ e2
    injection e3 with _ e3
    injection e4 with e4 e5 e6
    subst e2; subst e3; subst e5
    unfold zeroB at hz
    simp at hz
    obtain ⟨⟨rfl, rfl⟩, hl⟩ := hz
    rw [hl]
theorem takeR_snoc {l : List Rt} {j : Nat} {x : Rt} (h : l[j]? = some x) {P : Rt → Prop} (hp : ∀ t ∈ l.take j, P t) (hx : P x) : ∀ t ∈ l.take (j + 1), P t := by
  rw [List.take_add_one, h]
  intro t ht
  rcases List.mem_append.1 ht with ht | ht
  · exact hp t ht
  · obtain rfl := List.mem_singleton.1 ht
    exact hx

set_option maxHeartbeats 8000000 in
theorem refFit21_any (k : Nat) (p : Option Addr) (cap : Nat) (l : List Rt) (w : World) (hl : Rts w k p l) (hsz : ∀ r ∈ l, r.fi.size ≤ 1048576) (hT : Tabs w) :
    Calls Tryd.prog 19 #[.slice p l.length cap] w (FitPost w (∀ r ∈ l, OkW k r.want)) := by
  obtain ⟨PP, hPP⟩ : ∃ PP, FitPost w (∀ r ∈ l, OkW k r.want) = PP := ⟨_, rfl⟩
  rw [hPP]
  have HPP := Lib.hid hPP
  have HR := Lib.hid hl
  have HT := Lib.hid hT
  have HSZ := Lib.hid hsz
  have hll := hl.1
  clear hPP hl hT hsz
  go_enter Tryd.func19, Tryd.ntmps19
  go_wp2_with fail
  go_loopw [4, 7] (fun _ i wr => ∃ (j : Nat), i = .int .i64 (j : Nat) ∧ j ≤ l.length ∧ Hid (∀ r ∈ l.take j, OkW k r.want) ∧ Below w.heap.size w wr) (fun _ i _ => l.length - (intOf i).toNat)
  case atStart => exact ⟨0, rfl, by omega, fun r hr => absurd hr (by simp), Below.refl _ _⟩
  case round =>
    obtain ⟨j, rfl, hj, HO, hb⟩ := hrel
    have HB := Lib.hid hb
    by_cases hlt : j < l.length
    · obtain ⟨r, hr⟩ : ∃ r, l[j]? = some r := ⟨_, List.getElem?_eq_getElem hlt⟩
      obtain ⟨b, o, rfl, hc⟩ := (HR.out.below hb).2 (by omega)
      obtain ⟨op, num, p', n', c', q0, q1, q2, q3, q4, q5, hW⟩ := hc j r hr
      have HX := Lib.hid hr
      have HW := Lib.hid hW
      have CF : Hid (∀ W, Below wr.heap.size wr W → Calls Tryd.prog 23 #[.string r.fi] W (HoldPost W (filterB r.fi))) := fun W hb' => refFilter_any valid_said r.fi W (HSZ.out r (List.mem_of_getElem? hr)) ((HT.out.below hb).below hb')
      have CZ : Hid (∀ W, Calls Tryd.prog 27 #[.agg #[.int .i64 op, .int .i64 num, .slice p' n' c']] W (HoldPost W (zeroB op num n'))) := fun W => zero_any W op num p' n' c'
      have CP : Hid (∀ W, Below wr.heap.size wr W → Calls Tryd.prog 33 #[.agg #[.int .i64 op, .int .i64 num, .slice p' n' c']] W (FitPost W (FitF k r.want))) := fun W hb' => refFit2_any k r.want W op num p' n' c' (hW.below hb')
      have hlt' : (j : Int) < (l.length : Int) := by omega
      have hs := hb.size
      have HA : Hid (Below w.heap.size w (wr.alloc (.cells #[.string r.fi, .int .i64 op, .int .i64 num, .slice p' n' c', .int .i64 r.hd, .bool r.el] 42))) := hb.alloc hs _
      have HC : Hid (∀ W, Below (wr.heap.size + 1) (wr.alloc (.cells #[.string r.fi, .int .i64 op, .int .i64 num, .slice p' n' c', .int .i64 r.hd, .bool r.el] 42)) W → W.cell? ⟨wr.heap.size, 1, none⟩ = some (.int .i64 op) ∧ W.cell? ⟨wr.heap.size, 2, none⟩ = some (.int .i64 num) ∧ W.cell? ⟨wr.heap.size, 3, none⟩ = some (.slice p' n' c') ∧ W.cell? ⟨wr.heap.size, 4, none⟩ = some (.int .i64 r.hd)) := fun W hb =>
        ⟨by rw [hb.cell (by simp)]; go_simp, by rw [hb.cell (by simp)]; go_simp, by rw [hb.cell (by simp)]; go_simp, by rw [hb.cell (by simp)]; go_simp⟩
      have hbl := World.block_lt_of_cell? wr _ q0
      clear hc hW hr hb
      go_wp2_with fail
      refine (CF.out _ (by exact (Below.refl _ _).alloc (Nat.le_refl _) _)).mono ?_
      rintro e W1 ⟨rfl, hb1⟩
      have H1 := Lib.hid hb1
      have HB1 := Lib.hid (HA.out.trans (hb1.mono (by simp; omega)))
      obtain ⟨f1, f2, f3, f4⟩ := HC.out W1 (by simpa using hb1)
      have hs1 : wr.heap.size + 1 ≤ W1.heap.size := by have := hb1.size; simpa using this
      clear hb1 q0 q1 q2 q3 q4 q5
      cases filterB r.fi with
      | false =>
        go_wp2_with fail
        rw [← HPP.out]; exact ⟨false, rfl, fun h => (by simp at h), HB1.out⟩
      | true =>
        by_cases hh : r.hd < 0
        · go_wp2_with fail
          rw [← HPP.out]; exact ⟨false, rfl, fun h => (by simp at h), HB1.out⟩
        · go_wp2_with fail
          refine (CZ.out _).mono ?_
          rintro e W2 ⟨rfl, hb2⟩
          have HB2 := Lib.hid (HB1.out.trans (hb2.mono (by omega)))
          have H2 := Lib.hid (H1.out.trans (hb2.mono H1.out.size))
          obtain ⟨d1, d2, d3, d4⟩ := HC.out W2 (by have h := H2.out; simpa using h)
          have hs2 : wr.heap.size + 1 ≤ W2.heap.size := by have := hb2.size; omega
          clear hb2 f1 f2 f3 f4
          cases hz : zeroB op num n' with
          | true =>
            have HZ := Lib.hid (HW.out.ofZero hz)
            clear hz
            go_wp2_with fail
            go_roundw
            case rel => exact ⟨j + 1, by go_num, by omega, takeR_snoc HX.out HO.out (.inl HZ.out), HB2.out⟩
            case measure => simp [intOf]; omega
          | false =>
            clear hz
            go_wp2_with fail
            refine (CP.out _ (((Below.refl _ wr).alloc (Nat.le_refl _) _).trans (H2.out.mono (by simp)))).mono ?_
            rintro e W3 ⟨bb, rfl, hbb, hb3⟩
            have HB3 := Lib.hid (HB2.out.trans (hb3.mono (by omega)))
            have HBB := Lib.hid hbb
            clear hb3 hbb
            cases bb with
            | false =>
              go_wp2_with fail
              rw [← HPP.out]; exact ⟨false, rfl, fun h => (by simp at h), HB3.out⟩
            | true =>
              go_wp2_with fail
              go_roundw
              case rel => exact ⟨j + 1, by go_num, by omega, takeR_snoc HX.out HO.out (.inr (by have h := HBB.out; simpa using h)), HB3.out⟩
              case measure => simp [intOf]; omega
    · obtain rfl : j = l.length := by omega
      clear hb
      go_wp2_with fail
      rw [← HPP.out]
      refine ⟨true, rfl, fun _ => ?_, HB.out⟩
      have h := HO.out
      rw [List.take_length] at h
      exact h
end Go.Proofs.YtpgdiekpeceicaaDoor
