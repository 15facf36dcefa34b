/- PARSE: isName, and the reference's name. PARSE: trees as arguments: their parts in memory, as a walk reads them; small ones. -/
import Derived.Test.YtbdllefnghddcaaGreatDoorPWri
import Derived.Test.YtbdllefnghddcaaGreatDoorScanScanB
import Derived.Test.YtbdllefnghddcaaGreatDoorPScan3
import Derived.Test.YtbdllefnghddcaaGreatDoorPRefO
namespace Go.Proofs.YtbdllefnghddcaaGreatDoor
section
set_option linter.unusedSimpArgs false
set_option maxHeartbeats 4000000
set_option maxRecDepth 100000
open Go Go.RowKit
attribute [local go_sem ↓] Go.wp_at_zero Go.wp_at_succ

theorem isname_any (s : ByteArray) (w : World) (hE : Env w) (hs : s.size ≤ 1048577) :
  Calls Tryz.prog 40 #[.string s] w (PatPost w (.bool (nameB s))) := by
 obtain ⟨PP, hPP⟩ : ∃ PP, PatPost w (.bool (nameB s)) = PP := ⟨_, rfl⟩
 rw [hPP]
 have HPP := Lib.hid hPP
 obtain ⟨v0, w1, hr, hV, hb1⟩ := conv_bytes s w (by omega)
 have CS := Lib.hid (scan_any v0 s.data.toList w1 (hE.below hb1) hV (by simp; omega))
 have HB1 := Lib.hid hb1
 have hsz : s.data.toList.length = s.size := by simp
 have HSZ := Lib.hid hsz
 clear hPP hV hb1 hsz
 cases hsc : scanS s.data.toList with
 | bad p k =>
  have hk := scanS_bad hsc
  have HF : Hid (nameB s = false) := by show _ = _; unfold nameB; rw [hsc]
  rw [hsc] at CS
  have hk0 : ¬ ((k : Nat) : Int) = 0 := by omega
  obtain ⟨k1, k2⟩ := neI hk0
  clear hsc hk
  go_enter Tryz.func40, Tryz.ntmps40
  go_wp2_with (go_at_call 28; refine CS.out.mono ?_)
  rintro e2 w2 ⟨hb2, hm⟩
  rw [hm]
  have HB2 := Lib.hid hb2
  clear hb2 hm
  go_wp2_with fail
  rw [← HPP.out]
  refine ⟨by rw [HF.out]; rfl, (HB1.out.trans (HB2.out.mono HB1.out.size)).trans ((Below.refl _ _).alloc (by have := HB1.out.size; have := HB2.out.size; omega) _)⟩
 | toks ts =>
  rw [hsc] at CS
  by_cases h1 : ts.length = 1
  ·obtain ⟨t, rfl⟩ : ∃ t, ts = [t] := by
    match ts, h1 with
    | [t], _ => exact ⟨t, rfl⟩
   have HF : Hid (nameB s = ((t.kind == 1) && ((t.pos == 0) && (t.stop == s.data.toList.length)))) := by show _ = _; unfold nameB; rw [hsc]
   have htok := (scanS_ok hsc).2.2 t (List.mem_singleton.2 rfl)
   obtain ⟨-, -, t3, t4⟩ := htok
   rw [HSZ.out] at t4
   have HT34 : Hid (t.pos ≤ t.stop ∧ t.stop ≤ s.size) := ⟨t3, t4⟩
   clear hsc h1 t3 t4
   by_cases e1 : t.kind = 1
   ·by_cases e2 : t.pos = 0
    ·by_cases e3 : t.stop = s.size
     ·have f1 : ((t.kind : Nat) : Int) = 1 := by omega
      have f2 : ((t.pos : Nat) : Int) = 0 := by omega
      have f3 : ((t.stop : Nat) : Int) = ((s.size : Nat) : Int) := by omega
      have HV : Hid (nameB s = true) := by show _ = _; rw [HF.out]; simp [e1, e2, e3, HSZ.out]
      clear e1 e2 e3
      go_enter Tryz.func40, Tryz.ntmps40
      go_wp2_with (go_at_call 28; refine CS.out.mono ?_)
      rintro e2 w2 ⟨hb2, hm⟩
      obtain ⟨v, rfl, hT⟩ := hm
      obtain ⟨b, o, cap, rfl, hbl, hcell⟩ := hT.tok (a := 0) rfl
      simp only [Nat.zero_mul, Nat.add_zero] at hcell
      obtain ⟨c0, c1, c2, -⟩ := hcell
      have HB2 := Lib.hid hb2
      clear hb2 hT
      rw [f1] at c0
      rw [f2] at c1
      rw [f3] at c2
      go_wp2_with fail
      rw [← HPP.out]
      refine ⟨by rw [HV.out]; rfl, (HB1.out.trans (HB2.out.mono HB1.out.size)).trans ((Below.refl _ _).alloc (by have := HB1.out.size; have := HB2.out.size; omega) _)⟩
     ·have f1 : ((t.kind : Nat) : Int) = 1 := by omega
      have f2 : ((t.pos : Nat) : Int) = 0 := by omega
      have f3 : ¬ ((t.stop : Nat) : Int) = ((s.size : Nat) : Int) := by omega
      obtain ⟨q5, q6⟩ := neI f3
      have HV : Hid (nameB s = false) := by show _ = _; rw [HF.out]; rw [HSZ.out]; simp [e3]
      clear e1 e2 e3
      go_enter Tryz.func40, Tryz.ntmps40
      go_wp2_with (go_at_call 28; refine CS.out.mono ?_)
      rintro e2 w2 ⟨hb2, hm⟩
      obtain ⟨v, rfl, hT⟩ := hm
      obtain ⟨b, o, cap, rfl, hbl, hcell⟩ := hT.tok (a := 0) rfl
      simp only [Nat.zero_mul, Nat.add_zero] at hcell
      obtain ⟨c0, c1, c2, -⟩ := hcell
      have HB2 := Lib.hid hb2
      clear hb2 hT
      rw [f1] at c0
      rw [f2] at c1
      go_wp2_with fail
      rw [← HPP.out]
      refine ⟨by rw [HV.out]; rfl, (HB1.out.trans (HB2.out.mono HB1.out.size)).trans ((Below.refl _ _).alloc (by have := HB1.out.size; have := HB2.out.size; omega) _)⟩
    ·by_cases e3 : t.stop - t.pos = s.size
     ·exact absurd e3 (by have := HT34.out; omega)
     ·have f1 : ((t.kind : Nat) : Int) = 1 := by omega
      have f2 : ¬ ((t.pos : Nat) : Int) = 0 := by omega
      obtain ⟨q3, q4⟩ := neI f2
      have HT5 := HT34.out
      have f3 : ¬ (((t.stop : Nat) : Int) - ((t.pos : Nat) : Int)) = ((s.size : Nat) : Int) := by omega
      obtain ⟨q5, q6⟩ := neI f3
      clear HT5
      have HV : Hid (nameB s = false) := by show _ = _; rw [HF.out]; simp [e2]
      clear e1 e2 e3
      go_enter Tryz.func40, Tryz.ntmps40
      go_wp2_with (go_at_call 28; refine CS.out.mono ?_)
      rintro e2 w2 ⟨hb2, hm⟩
      obtain ⟨v, rfl, hT⟩ := hm
      obtain ⟨b, o, cap, rfl, hbl, hcell⟩ := hT.tok (a := 0) rfl
      simp only [Nat.zero_mul, Nat.add_zero] at hcell
      obtain ⟨c0, c1, c2, -⟩ := hcell
      have HB2 := Lib.hid hb2
      clear hb2 hT
      rw [f1] at c0
      go_wp2_with fail
      rw [← HPP.out]
      refine ⟨by rw [HV.out]; rfl, (HB1.out.trans (HB2.out.mono HB1.out.size)).trans ((Below.refl _ _).alloc (by have := HB1.out.size; have := HB2.out.size; omega) _)⟩
   ·have f1 : ¬ ((t.kind : Nat) : Int) = 1 := by omega
    obtain ⟨q1, q2⟩ := neI f1
    have HV : Hid (nameB s = false) := by show _ = _; rw [HF.out]; simp [e1]
    clear e1
    go_enter Tryz.func40, Tryz.ntmps40
    go_wp2_with (go_at_call 28; refine CS.out.mono ?_)
    rintro e2 w2 ⟨hb2, hm⟩
    obtain ⟨v, rfl, hT⟩ := hm
    obtain ⟨b, o, cap, rfl, hbl, hcell⟩ := hT.tok (a := 0) rfl
    simp only [Nat.zero_mul, Nat.add_zero] at hcell
    obtain ⟨c0, c1, c2, -⟩ := hcell
    have HB2 := Lib.hid hb2
    clear hb2 hT
    go_wp2_with fail
    rw [← HPP.out]
    refine ⟨by rw [HV.out]; rfl, (HB1.out.trans (HB2.out.mono HB1.out.size)).trans ((Below.refl _ _).alloc (by have := HB1.out.size; have := HB2.out.size; omega) _)⟩
  ·have HF : Hid (nameB s = false) := by
    show _ = _
    unfold nameB
    rw [hsc]
    match ts, h1 with
    | [], _ => rfl
    | [t], h => exact absurd rfl h
    | _ :: _ :: _, _ => rfl
   have h1i : ¬ ((ts.length : Nat) : Int) = 1 := by omega
   obtain ⟨k1, k2⟩ := neI h1i
   clear hsc h1
   go_enter Tryz.func40, Tryz.ntmps40
   go_wp2_with (go_at_call 28; refine CS.out.mono ?_)
   rintro e2 w2 ⟨hb2, hm⟩
   obtain ⟨v, rfl, hT⟩ := hm
   obtain ⟨p, cap, rfl, -⟩ := hT
   have HB2 := Lib.hid hb2
   clear hb2
   go_wp2_with fail
   rw [← HPP.out]
   refine ⟨by rw [HF.out]; rfl, (HB1.out.trans (HB2.out.mono HB1.out.size)).trans ((Below.refl _ _).alloc (by have := HB1.out.size; have := HB2.out.size; omega) _)⟩
theorem rname_any (s : ByteArray) (w : World) (hs : s.size ≤ 1048577) :
  Calls Tryz.prog 43 #[.string s] w (PatPost w (.bool (nameB s))) := by
 obtain ⟨PP, hPP⟩ : ∃ PP, PatPost w (.bool (nameB s)) = PP := ⟨_, rfl⟩
 rw [hPP]
 have HPP := Lib.hid hPP
 obtain ⟨v0, w1, hr, hV, hb1⟩ := conv_bytes s w (by omega)
 have CS := Lib.hid (refScan_any v0 s.data.toList w1 hV (by simp; omega))
 have HB1 := Lib.hid hb1
 have hsz : s.data.toList.length = s.size := by simp
 have HSZ := Lib.hid hsz
 clear hPP hV hb1 hsz
 cases hsc : scanS s.data.toList with
 | bad p k =>
  have hk := scanS_bad hsc
  have HF : Hid (nameB s = false) := by show _ = _; unfold nameB; rw [hsc]
  rw [hsc] at CS
  have hk0 : ¬ ((k : Nat) : Int) = 0 := by omega
  obtain ⟨k1, k2⟩ := neI hk0
  clear hsc hk
  go_enter Tryz.func43, Tryz.ntmps43
  go_wp2_with (go_at_call 33; refine CS.out.mono ?_)
  rintro e2 w2 ⟨hb2, hm⟩
  rw [hm]
  have HB2 := Lib.hid hb2
  clear hb2 hm
  go_wp2_with fail
  go_quiet (fail)
  go_wp2_with fail
  rw [← HPP.out]
  refine ⟨by rw [HF.out]; rfl, by exact below_drewN (HB1.out.trans (HB2.out.mono HB1.out.size)) _⟩
 | toks ts =>
  rw [hsc] at CS
  by_cases h1 : ts.length = 1
  ·obtain ⟨t, rfl⟩ : ∃ t, ts = [t] := by
    match ts, h1 with
    | [t], _ => exact ⟨t, rfl⟩
   have HF : Hid (nameB s = ((t.kind == 1) && ((t.pos == 0) && (t.stop == s.data.toList.length)))) := by show _ = _; unfold nameB; rw [hsc]
   have htok := (scanS_ok hsc).2.2 t (List.mem_singleton.2 rfl)
   obtain ⟨-, -, t3, t4⟩ := htok
   rw [HSZ.out] at t4
   have HT34 : Hid (t.pos ≤ t.stop ∧ t.stop ≤ s.size) := ⟨t3, t4⟩
   clear hsc h1 t3 t4
   by_cases e1 : t.kind = 1
   ·by_cases e2 : t.pos = 0
    ·by_cases e3 : t.stop = s.size
     ·have f1 : ((t.kind : Nat) : Int) = 1 := by omega
      have f2 : ((t.pos : Nat) : Int) = 0 := by omega
      have f3 : ((t.stop : Nat) : Int) = ((s.size : Nat) : Int) := by omega
      have HV : Hid (nameB s = true) := by show _ = _; rw [HF.out]; simp [e1, e2, e3, HSZ.out]
      clear e1 e2 e3
      go_enter Tryz.func43, Tryz.ntmps43
      go_wp2_with (go_at_call 33; refine CS.out.mono ?_)
      rintro e2 w2 ⟨hb2, hm⟩
      obtain ⟨v, rfl, hT⟩ := hm
      obtain ⟨b, o, cap, rfl, hbl, hcell⟩ := hT.tok (a := 0) rfl
      simp only [Nat.zero_mul, Nat.add_zero] at hcell
      obtain ⟨c0, c1, c2, -⟩ := hcell
      have HB2 := Lib.hid hb2
      clear hb2 hT
      rw [f1] at c0
      rw [f2] at c1
      rw [f3] at c2
      go_wp2_with fail
      go_quiet (fail)
      go_wp2_with fail
      rw [← HPP.out]
      refine ⟨by rw [HV.out]; rfl, by exact below_drewN (HB1.out.trans (HB2.out.mono HB1.out.size)) _⟩
     ·have f1 : ((t.kind : Nat) : Int) = 1 := by omega
      have f2 : ((t.pos : Nat) : Int) = 0 := by omega
      have f3 : ¬ ((t.stop : Nat) : Int) = ((s.size : Nat) : Int) := by omega
      obtain ⟨q5, q6⟩ := neI f3
      have HV : Hid (nameB s = false) := by show _ = _; rw [HF.out]; rw [HSZ.out]; simp [e3]
      clear e1 e2 e3
      go_enter Tryz.func43, Tryz.ntmps43
      go_wp2_with (go_at_call 33; refine CS.out.mono ?_)
      rintro e2 w2 ⟨hb2, hm⟩
      obtain ⟨v, rfl, hT⟩ := hm
      obtain ⟨b, o, cap, rfl, hbl, hcell⟩ := hT.tok (a := 0) rfl
      simp only [Nat.zero_mul, Nat.add_zero] at hcell
      obtain ⟨c0, c1, c2, -⟩ := hcell
      have HB2 := Lib.hid hb2
      clear hb2 hT
      rw [f1] at c0
      rw [f2] at c1
      go_wp2_with fail
      go_quiet (fail)
      go_wp2_with fail
      rw [← HPP.out]
      have w3 : (wrap64 ((t.stop : Nat) : Int) == ((s.size : Nat) : Int)) = false := by
       have h1 := HT34.out
       rw [show wrap64 ((t.stop : Nat) : Int) = ((t.stop : Nat) : Int) from by unfold wrap64; omega]
       exact q5
      refine ⟨by rw [HV.out]; show Ending.returned (Value.bool _) = _; rw [w3], by exact below_drewN (HB1.out.trans (HB2.out.mono HB1.out.size)) _⟩
    ·by_cases e3 : t.stop - t.pos = s.size
     ·exact absurd e3 (by have := HT34.out; omega)
     ·have f1 : ((t.kind : Nat) : Int) = 1 := by omega
      have f2 : ¬ ((t.pos : Nat) : Int) = 0 := by omega
      obtain ⟨q3, q4⟩ := neI f2
      have HT5 := HT34.out
      have f3 : ¬ (((t.stop : Nat) : Int) - ((t.pos : Nat) : Int)) = ((s.size : Nat) : Int) := by omega
      obtain ⟨q5, q6⟩ := neI f3
      clear HT5
      have HV : Hid (nameB s = false) := by show _ = _; rw [HF.out]; simp [e2]
      clear e1 e2 e3
      go_enter Tryz.func43, Tryz.ntmps43
      go_wp2_with (go_at_call 33; refine CS.out.mono ?_)
      rintro e2 w2 ⟨hb2, hm⟩
      obtain ⟨v, rfl, hT⟩ := hm
      obtain ⟨b, o, cap, rfl, hbl, hcell⟩ := hT.tok (a := 0) rfl
      simp only [Nat.zero_mul, Nat.add_zero] at hcell
      obtain ⟨c0, c1, c2, -⟩ := hcell
      have HB2 := Lib.hid hb2
      clear hb2 hT
      rw [f1] at c0
      go_wp2_with fail
      go_quiet (fail)
      go_wp2_with fail
      rw [← HPP.out]
      have w3 : (wrap64 (((t.stop : Nat) : Int) - ((t.pos : Nat) : Int)) == ((s.size : Nat) : Int)) = false := by
       have h1 := HT34.out
       rw [show wrap64 (((t.stop : Nat) : Int) - ((t.pos : Nat) : Int)) = (((t.stop : Nat) : Int) - ((t.pos : Nat) : Int)) from by unfold wrap64; omega]
       exact q5
      refine ⟨by rw [HV.out]; show Ending.returned (Value.bool _) = _; rw [w3], by exact below_drewN (HB1.out.trans (HB2.out.mono HB1.out.size)) _⟩
   ·have f1 : ¬ ((t.kind : Nat) : Int) = 1 := by omega
    obtain ⟨q1, q2⟩ := neI f1
    have HV : Hid (nameB s = false) := by show _ = _; rw [HF.out]; simp [e1]
    clear e1
    go_enter Tryz.func43, Tryz.ntmps43
    go_wp2_with (go_at_call 33; refine CS.out.mono ?_)
    rintro e2 w2 ⟨hb2, hm⟩
    obtain ⟨v, rfl, hT⟩ := hm
    obtain ⟨b, o, cap, rfl, hbl, hcell⟩ := hT.tok (a := 0) rfl
    simp only [Nat.zero_mul, Nat.add_zero] at hcell
    obtain ⟨c0, c1, c2, -⟩ := hcell
    have HB2 := Lib.hid hb2
    clear hb2 hT
    go_wp2_with fail
    go_quiet (fail)
    go_wp2_with fail
    rw [← HPP.out]
    refine ⟨by rw [HV.out]; rfl, by exact below_drewN (HB1.out.trans (HB2.out.mono HB1.out.size)) _⟩
  ·have HF : Hid (nameB s = false) := by
    show _ = _
    unfold nameB
    rw [hsc]
    match ts, h1 with
    | [], _ => rfl
    | [t], h => exact absurd rfl h
    | _ :: _ :: _, _ => rfl
   have h1i : ¬ ((ts.length : Nat) : Int) = 1 := by omega
   obtain ⟨k1, k2⟩ := neI h1i
   clear hsc h1
   go_enter Tryz.func43, Tryz.ntmps43
   go_wp2_with (go_at_call 33; refine CS.out.mono ?_)
   rintro e2 w2 ⟨hb2, hm⟩
   obtain ⟨v, rfl, hT⟩ := hm
   obtain ⟨p, cap, rfl, -⟩ := hT
   have HB2 := Lib.hid hb2
   clear hb2
   go_wp2_with fail
   go_quiet (fail)
   go_wp2_with fail
   rw [← HPP.out]
   refine ⟨by rw [HF.out]; rfl, by exact below_drewN (HB1.out.trans (HB2.out.mono HB1.out.size)) _⟩
end
section
open Go Go.RowKit

def All : Nat → Prop := fun _ => True
theorem All.kept {W W' : World} (hb : Below W.heap.size W W') : ∀ c, All c → c < W.heap.size → W'.heap[c]? = W.heap[c]? ∧ All c := fun c _ hl => ⟨hb.block c hl, trivial⟩
theorem All.lo (W : World) : ∀ c, All c → c < W.heap.size → W.heap[c]? = W.heap[c]? ∧ Lo W.heap.size c := fun _ _ hl => ⟨rfl, hl⟩
theorem ListP.at {α : Type} {P : Nat → Prop} {w : World} {k : Nat} {R : List Value → α → Prop} {v : Value} {xs : List α} (h : ListP P w k R v xs) {j : Nat} {x : α} (hx : xs[j]? = some x) :
  ∃ b o cap cs, v = .slice (some ⟨b, o, none⟩) xs.length cap ∧ P b ∧ b < w.heap.size ∧ cs.length = k ∧ R cs x ∧ ∀ i u, cs[i]? = some u → w.cell? ⟨b, o + j * k + i, none⟩ = some u := by
 obtain ⟨css, h1, ⟨h2, p, cap, rfl, h3, h4, h5⟩, h6, h7⟩ := h
 have hj := (List.getElem?_eq_some_iff.1 hx).1
 obtain ⟨b, o, hP, hb, rfl, hc⟩ := h5 (by omega)
 obtain ⟨cs, hcs⟩ : ∃ cs, css[j]? = some cs := ⟨_, List.getElem?_eq_getElem (by omega)⟩
 have hl := h6 cs (List.mem_of_getElem? hcs)
 refine ⟨b, o, cap, cs, rfl, hP, hb, hl, h7 j cs x hcs hx, fun i u hu => ?_⟩
 have := hc (j * k + i) u (flat_at h6 hcs i u hu)
 rwa [← Nat.add_assoc] at this
theorem ListP.shape {α : Type} {P : Nat → Prop} {w : World} {k : Nat} {R : List Value → α → Prop} {v : Value} {xs : List α} (h : ListP P w k R v xs) : ∃ p cap, v = .slice p xs.length cap ∧ xs.length ≤ 9223372036854775807 := by
 obtain ⟨css, h1, ⟨h2, p, cap, rfl, h3, h4, h5⟩, h6, h7⟩ := h
 exact ⟨p, cap, rfl, by omega⟩
theorem UsP.shape {P : Nat → Prop} {w : World} {v : Value} {us : List Us} (h : UsP P w v us) : ∃ p cap, v = .slice p us.length cap ∧ us.length ≤ 9223372036854775807 := by
 obtain ⟨h2, p, cap, rfl, h3, h4, h5⟩ := h
 exact ⟨p, cap, rfl, by omega⟩
theorem UsP.at {P : Nat → Prop} {w : World} {v : Value} {us : List Us} (h : UsP P w v us) {j : Nat} {u : Us} (hu : us[j]? = some u) :
  ∃ b o cap, v = .slice (some ⟨b, o, none⟩) us.length cap ∧ P b ∧ b < w.heap.size ∧ w.cell? ⟨b, o + j * 2, none⟩ = some (.string u.name) ∧ w.cell? ⟨b, o + j * 2 + 1, none⟩ = some (.int .i64 u.pos) := by
 obtain ⟨h2, p, cap, rfl, h3, h4, h5⟩ := h
 have hj := (List.getElem?_eq_some_iff.1 hu).1
 obtain ⟨b, o, hP, hb, rfl, hc⟩ := h5 (by omega)
 obtain ⟨e1, e2⟩ := us_at hu
 refine ⟨b, o, cap, rfl, hP, hb, hc _ _ e1, ?_⟩
 have := hc _ _ e2
 rwa [← Nat.add_assoc] at this
def SmU (us : List Us) : Prop := ∀ u ∈ us, u.name.size ≤ 1048577
def SmW (w : WrapT) : Prop := w.word.size ≤ 1048577 ∧ w.sub.size ≤ 1048577 ∧ SmU w.caps
def SmH (d : HandT) : Prop := d.name.size ≤ 1048577 ∧ d.of_.name.size ≤ 1048577 ∧ d.core.word.size ≤ 1048577 ∧ SmU d.core.caps ∧ (∀ w ∈ d.wraps, SmW w) ∧ d.drop.name.size ≤ 1048577 ∧ SmU d.after
def SmR (r : RouteT) : Prop := r.to.name.size ≤ 1048577 ∧ r.filter.name.size ≤ 1048577
def SmT (t : TreeT) : Prop := (∀ d ∈ t.hands, SmH d) ∧ ∀ r ∈ t.routes, SmR r
theorem all_not {α : Type} {p : α → Bool} {l : List α} {j : Nat} {x : α} (h : l[j]? = some x) (hp : p x = false) : l.all p = false := by
 cases hc : l.all p with
 | false => rfl
 | true => rw [(List.all_eq_true.1 hc) x (List.mem_of_getElem? h)] at hp; cases hp
theorem all_step {α : Type} {p : α → Bool} {l : List α} {j : Nat} {x : α} (h : l[j]? = some x) (h1 : (l.take j).all p = true) (hp : p x = true) : (l.take (j + 1)).all p = true := by
 rw [take_snoc h, List.all_append, h1]
 simp [hp]
def IxPost (W : World) (b : Bool) (e : Ending) (w' : World) : Prop := ∃ i : Int, e = .returned (.int .i64 i) ∧ (0 ≤ i ↔ b = true) ∧ Below W.heap.size W w'
end
end Go.Proofs.YtbdllefnghddcaaGreatDoor
