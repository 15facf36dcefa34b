/- ROUTE: conduitref21.Explain. -/
import Derived.Test.YtpgdiekpeceicaaDoorRouteExplP
namespace Go.Proofs.YtpgdiekpeceicaaDoor
open Go Go.RowKit Go.Shelf

set_option maxRecDepth 100000 in
set_option maxHeartbeats 8000000 in
theorem refExplain_any (k : Nat) (p : Option Addr) (cap : Nat) (l : List Rt) (w : World) (hl : Rts w k p l) (hok : ∀ r ∈ l, OkR k r) (hT : Tabs w) (hT2 : Tab10 w)
    (dk : Nat) (hdk : dk < 14) (di : Int) (db : Int) (ds : ByteArray) (q : Option Addr) (m c : Nat) (id : Int) (tp : ByteArray) (at_ un : Int) (rp : ByteArray) (co pr hp : Int) (htp : tp.size ≤ 1048576) :
    Calls Tryd.prog 17 #[.slice p l.length cap, .agg #[.int .i64 id, .string tp, .int .i64 (dk : Nat), .int .i64 di, .int .u64 db, .string ds, .slice q m c, .int .i64 at_, .int .i64 un, .string rp, .int .i64 co, .int .i64 pr, .int .i64 hp]] w (StrPost w (explR k tp dk (findR (agFrom k tp dk 0 l)).2 0 l)) := by
  have CF : Hid (∀ W, Below w.heap.size w W → Calls Tryd.prog 10 #[.slice p l.length cap, .agg #[.int .i64 id, .string tp, .int .i64 (dk : Nat), .int .i64 di, .int .u64 db, .string ds, .slice q m c, .int .i64 at_, .int .i64 un, .string rp, .int .i64 co, .int .i64 pr, .int .i64 hp]] W (TakenPost W (findR (agFrom k tp dk 0 l)))) :=
    fun W hb => refFind21_any k p cap l W (hl.below hb) hok (hT.below hb) dk hdk di db ds q m c id tp at_ un rp co pr hp htp
  have hll := hl.1
  generalize findR (agFrom k tp dk 0 l) = T at *
  obtain ⟨is, el⟩ := T
  simp only at CF ⊢
  obtain ⟨PP, hPP⟩ : ∃ PP, StrPost w (explR k tp dk el 0 l) = PP := ⟨_, rfl⟩
  rw [hPP]
  have HPP := Lib.hid hPP
  have HR := Lib.hid hl
  have HT := Lib.hid hT
  have HT2 := Lib.hid hT2
  have HOK := Lib.hid hok
  clear hPP hl hT hok hT2
  go_enter Tryd.func17, Tryd.ntmps17
  go_wp2_with fail
  refine (CF.out _ (by exact (Below.refl _ _).alloc (Nat.le_refl _) _)).mono ?_
  rintro e W1 ⟨v, rfl, hv, hb1, -⟩
  obtain ⟨p2, cap2, rfl, -⟩ := hv
  have HB1 : Hid (Below w.heap.size w W1) := ((Below.refl _ _).alloc (Nat.le_refl _) _).trans (hb1.mono (by simp))
  have hs1 : w.heap.size + 1 ≤ W1.heap.size := by have := hb1.size; simpa using this
  have HM1 : Hid (W1.heap[w.heap.size]? = some (.cells #[.int .i64 id, .string tp, .int .i64 (dk : Nat), .int .i64 di, .int .u64 db, .string ds, .slice q m c, .int .i64 at_, .int .i64 un, .string rp, .int .i64 co, .int .i64 pr, .int .i64 hp] 28 (0, 0))) := (hb1.block _ (by simp)).trans (heap_alloc_new _ _)
  clear hb1 CF
  go_wp2_with fail
  go_loopw [6, 15] (fun s i wr => ∃ (j : Nat) (sb : ByteArray), i = .int .i64 (j : Nat) ∧ s = .string sb ∧ j ≤ l.length ∧ Hid (explR k tp dk el 0 l = sb.data.toList ++ explR k tp dk el j (l.drop j)) ∧ sb.size ≤ 64 * j ∧ Hid (wr.heap[w.heap.size]? = some (.cells #[.int .i64 id, .string tp, .int .i64 (dk : Nat), .int .i64 di, .int .u64 db, .string ds, .slice q m c, .int .i64 at_, .int .i64 un, .string rp, .int .i64 co, .int .i64 pr, .int .i64 hp] 28 (0, 0))) ∧ Hid (wr.heap[W1.heap.size]? = some (.cells #[.slice p2 is.length cap2, .bool el] 33 (0, 0))) ∧ Hid (Below w.heap.size w wr) ∧ W1.heap.size + 1 ≤ wr.heap.size) (fun s i _ => l.length - (intOf i).toNat)
  case atStart =>
    refine ⟨0, _, rfl, rfl, by omega, rfl, by decide, ?_, ?_, HB1.out.alloc (by omega) _, by simp⟩
    · exact (Below.heap_alloc _ _ _ (by omega)).trans HM1.out
    · exact heap_alloc_new _ _
  case round =>
    obtain ⟨j, sb, rfl, rfl, hj, HS, hsb, HM, HK, HB, hs2⟩ := hrel
    clear HM1
    by_cases hlt : j < l.length
    · obtain ⟨r, hr⟩ : ∃ r, l[j]? = some r := ⟨_, List.getElem?_eq_getElem hlt⟩
      obtain ⟨b, o, rfl, hc⟩ := (HR.out.below HB.out).2 (by omega)
      obtain ⟨op, num, p', n', c', q0, q1, q2, q3, q4, q5, hW⟩ := hc j r hr
      have hok1 := HOK.out r (List.mem_of_getElem? hr)
      have hbl := World.block_lt_of_cell? wr _ q0
      have hlt' : (j : Int) < (l.length : Int) := by omega
      have HRJ := Lib.hid hr
      have CI : Hid (∀ W, Below w.heap.size w W → Calls Tryd.prog 30 #[.int .i64 (j : Nat)] W (ItoaPost W (j : Nat))) := fun W hb => itoa_any _ (by omega) (by omega) W (HT2.out.below hb)
      have CM : Hid (∀ W, Below wr.heap.size wr W → Calls Tryd.prog 14 #[.string r.fi, .string tp] W (HoldPost W (matchB r.fi tp))) := fun W hb => refMatch_any valid_said r.fi tp W hok1.2 htp ((HT.out.below HB.out).below hb)
      have CT : Hid (∀ W, Below wr.heap.size wr W → Calls Tryd.prog 15 #[.agg #[.string r.fi, .int .i64 op, .int .i64 num, .slice p' n' c', .int .i64 r.hd, .bool r.el], .agg #[.int .i64 (dk : Nat), .int .i64 di, .int .u64 db, .string ds, .slice q m c]] W (HoldPost W (typedB k r.want dk))) := fun W hb => refTyped_any k r.want W op num p' n' c' (hW.below hb) hok1.1 r.fi r.hd r.el dk hdk di db ds q m c
      have hwl : w.heap.size < wr.heap.size := by omega
      have HKC : Hid (∀ W, Below wr.heap.size wr W → W.cell? ⟨W1.heap.size, 1, none⟩ = some (.bool el)) := fun W hb => (hb.cell (by show W1.heap.size < _; omega)).trans (cell_of_row wr _ 1 _ _ _ HK.out)
      have HMC : Hid (∀ W, Below wr.heap.size wr W → W.heap[w.heap.size]? = some (.cells #[.int .i64 id, .string tp, .int .i64 (dk : Nat), .int .i64 di, .int .u64 db, .string ds, .slice q m c, .int .i64 at_, .int .i64 un, .string rp, .int .i64 co, .int .i64 pr, .int .i64 hp] 28 (0, 0))) := fun W hb => (hb.block _ (by omega)).trans HM.out
      have HX : Hid (∀ W, Below (wr.heap.size + 1) (wr.alloc (.cells #[.string r.fi, .int .i64 op, .int .i64 num, .slice p' n' c', .int .i64 r.hd, .bool r.el] 42)) W → W.cell? ⟨wr.heap.size, 0, none⟩ = some (.string r.fi) ∧ W.cell? ⟨wr.heap.size, 1, none⟩ = some (.int .i64 op) ∧ W.cell? ⟨wr.heap.size, 2, none⟩ = some (.int .i64 num) ∧ W.cell? ⟨wr.heap.size, 3, none⟩ = some (.slice p' n' c') ∧ W.cell? ⟨wr.heap.size, 4, none⟩ = some (.int .i64 r.hd) ∧ W.cell? ⟨wr.heap.size, 5, none⟩ = some (.bool r.el)) := fun W hb =>
        ⟨by rw [hb.cell (by simp)]; go_simp, by rw [hb.cell (by simp)]; go_simp, by rw [hb.cell (by simp)]; go_simp, by rw [hb.cell (by simp)]; go_simp, by rw [hb.cell (by simp)]; go_simp, by rw [hb.cell (by simp)]; go_simp⟩
      obtain ⟨m0, m1, m2, m3, m4, m5, m6, m7, m8, m9, m10, m11, m12⟩ := msg_cells HM.out
      clear hc hW hok1 hr m0 m2 m3 m4 m5 m6 m7 m8 m9 m10 m11 m12
      go_wp2_with fail
      refine (CM.out _ (by exact (Below.refl _ _).alloc (Nat.le_refl _) _)).mono ?_
      rintro e W2 ⟨rfl, hb2⟩
      have H2 := Lib.hid hb2
      have HB2 : Hid (Below wr.heap.size wr W2) := ((Below.refl wr.heap.size wr).alloc (Nat.le_refl _) _).trans (hb2.mono (by simp))
      have hs3 : wr.heap.size + 1 ≤ W2.heap.size := by have := hb2.size; simpa using this
      clear hb2 m1 q0 q1 q2 q3 q4 q5 CM
      cases hM : matchB r.fi tp with
      | false =>
        have HWD : Hid ([116, 111, 112, 105, 99] = wordB k tp dk el r) := by show _ = _; unfold wordB; rw [hM]; rfl
        clear hM
        go_wp2_with fail
        refine (CI.out _ (by exact HB.out.trans (HB2.out.mono HB.out.size))).mono ?_
        rintro e' W3 ⟨it, rfl, hit, hil, hb3⟩
        have HIT := Lib.hid hit
        have HB3 : Hid (Below wr.heap.size wr W3) := HB2.out.trans (hb3.mono HB2.out.size)
        clear hit hb3
        go_wp2_with fail
        go_roundw
        case rel => exact ⟨j + 1, _, by go_num, rfl, by omega, (expl_step HRJ.out HS.out HIT.out HWD.out hsb hil (by simp)).1, (expl_step HRJ.out HS.out HIT.out HWD.out hsb hil (by simp)).2, (HB3.out.block _ (by omega)).trans HM.out, (HB3.out.block _ (by omega)).trans HK.out, HB.out.trans (HB3.out.mono HB.out.size), Nat.le_trans hs2 HB3.out.size⟩
        case measure => simp [intOf]; omega
      | true =>
        have hw2 : w.heap.size < W2.heap.size := by omega
        obtain ⟨a0, a1, a2, a3, a4, a5⟩ := HX.out W2 (by have h := H2.out; simpa using h)
        obtain ⟨m0, m1, m2, m3, m4, m5, m6, m7, m8, m9, m10, m11, m12⟩ := msg_cells (HMC.out W2 HB2.out)
        clear m0 m1 m7 m8 m9 m10 m11 m12
        go_wp2_with fail
        refine (CT.out _ HB2.out).mono ?_
        rintro e' W4 ⟨rfl, hb4⟩
        have HB4 : Hid (Below wr.heap.size wr W4) := HB2.out.trans (hb4.mono HB2.out.size)
        have H4 : Hid (Below (wr.heap.size + 1) (wr.alloc (.cells #[.string r.fi, .int .i64 op, .int .i64 num, .slice p' n' c', .int .i64 r.hd, .bool r.el] 42)) W4) := by have h := H2.out.trans (hb4.mono H2.out.size); show Below _ _ _; simpa using h
        have hs4 : wr.heap.size + 1 ≤ W4.heap.size := by have := hb4.size; omega
        clear hb4 a0 a1 a2 a3 a4 a5 m2 m3 m4 m5 m6 CT
        cases hTY : typedB k r.want dk with
        | false =>
          have HWD : Hid ([116, 121, 112, 101] = wordB k tp dk el r) := by show _ = _; unfold wordB; rw [hM, hTY]; rfl
          clear hM hTY
          go_wp2_with fail
          refine (CI.out _ (by exact HB.out.trans (HB4.out.mono HB.out.size))).mono ?_
          rintro e' W3 ⟨it, rfl, hit, hil, hb3⟩
          have HIT := Lib.hid hit
          have HB3 : Hid (Below wr.heap.size wr W3) := HB4.out.trans (hb3.mono HB4.out.size)
          clear hit hb3
          go_wp2_with fail
          go_roundw
          case rel => exact ⟨j + 1, _, by go_num, rfl, by omega, (expl_step HRJ.out HS.out HIT.out HWD.out hsb hil (by simp)).1, (expl_step HRJ.out HS.out HIT.out HWD.out hsb hil (by simp)).2, (HB3.out.block _ (by omega)).trans HM.out, (HB3.out.block _ (by omega)).trans HK.out, HB.out.trans (HB3.out.mono HB.out.size), Nat.le_trans hs2 HB3.out.size⟩
          case measure => simp [intOf]; omega
        | true =>
          obtain ⟨a0, a1, a2, a3, a4, a5⟩ := HX.out W4 H4.out
          have hkc := HKC.out _ HB4.out
          have hw1 : W1.heap.size < W4.heap.size := by omega
          clear a0 a1 a2 a3 a4
          cases hel : r.el with
          | false =>
            have HWD : Hid ([116, 97, 107, 101, 115] = wordB k tp dk el r) := by show _ = _; unfold wordB; rw [hM, hTY, hel]; rfl
            rw [hel] at a5
            clear hM hTY hel
            go_wp2_with fail
            refine (CI.out _ (by exact HB.out.trans (HB4.out.mono HB.out.size))).mono ?_
            rintro e' W3 ⟨it, rfl, hit, hil, hb3⟩
            have HIT := Lib.hid hit
            have HB3 : Hid (Below wr.heap.size wr W3) := HB4.out.trans (hb3.mono HB4.out.size)
            clear hit hb3
            go_wp2_with fail
            go_roundw
            case rel => exact ⟨j + 1, _, by go_num, rfl, by omega, (expl_step HRJ.out HS.out HIT.out HWD.out hsb hil (by simp)).1, (expl_step HRJ.out HS.out HIT.out HWD.out hsb hil (by simp)).2, (HB3.out.block _ (by omega)).trans HM.out, (HB3.out.block _ (by omega)).trans HK.out, HB.out.trans (HB3.out.mono HB.out.size), Nat.le_trans hs2 HB3.out.size⟩
            case measure => simp [intOf]; omega
          | true =>
            rw [hel] at a5
            cases el with
            | true =>
              have HWD : Hid ([101, 108, 115, 101] = wordB k tp dk true r) := by show _ = _; unfold wordB; rw [hM, hTY, hel]; rfl
              clear hM hTY hel
              go_wp2_with fail
              refine (CI.out _ (by exact HB.out.trans (HB4.out.mono HB.out.size))).mono ?_
              rintro e' W3 ⟨it, rfl, hit, hil, hb3⟩
              have HIT := Lib.hid hit
              have HB3 : Hid (Below wr.heap.size wr W3) := HB4.out.trans (hb3.mono HB4.out.size)
              clear hit hb3
              go_wp2_with fail
              go_roundw
              case rel => exact ⟨j + 1, _, by go_num, rfl, by omega, (expl_step HRJ.out HS.out HIT.out HWD.out hsb hil (by simp)).1, (expl_step HRJ.out HS.out HIT.out HWD.out hsb hil (by simp)).2, (HB3.out.block _ (by omega)).trans HM.out, (HB3.out.block _ (by omega)).trans HK.out, HB.out.trans (HB3.out.mono HB.out.size), Nat.le_trans hs2 HB3.out.size⟩
              case measure => simp [intOf]; omega
            | false =>
              have HWD : Hid ([115, 112, 97, 114, 101] = wordB k tp dk false r) := by show _ = _; unfold wordB; rw [hM, hTY, hel]; rfl
              clear hM hTY hel
              go_wp2_with fail
              refine (CI.out _ (by exact HB.out.trans (HB4.out.mono HB.out.size))).mono ?_
              rintro e' W3 ⟨it, rfl, hit, hil, hb3⟩
              have HIT := Lib.hid hit
              have HB3 : Hid (Below wr.heap.size wr W3) := HB4.out.trans (hb3.mono HB4.out.size)
              clear hit hb3
              go_wp2_with fail
              go_roundw
              case rel => exact ⟨j + 1, _, by go_num, rfl, by omega, (expl_step HRJ.out HS.out HIT.out HWD.out hsb hil (by simp)).1, (expl_step HRJ.out HS.out HIT.out HWD.out hsb hil (by simp)).2, (HB3.out.block _ (by omega)).trans HM.out, (HB3.out.block _ (by omega)).trans HK.out, HB.out.trans (HB3.out.mono HB.out.size), Nat.le_trans hs2 HB3.out.size⟩
              case measure => simp [intOf]; omega
    · obtain rfl : j = l.length := by omega
      have HX : Hid (explR k tp dk el 0 l = sb.data.toList) := by show _ = _; have h := HS.out; rw [List.drop_length] at h; exact h.trans (List.append_nil _)
      clear HS
      go_wp2_with fail
      rw [← HPP.out, HX.out]
      exact ⟨_, rfl, rfl, HB.out⟩
end Go.Proofs.YtpgdiekpeceicaaDoor
