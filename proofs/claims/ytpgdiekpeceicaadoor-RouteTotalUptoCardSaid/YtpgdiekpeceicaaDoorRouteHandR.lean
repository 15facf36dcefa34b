/- ROUTE: conduitref21.Handlers. -/
import Derived.Test.YtpgdiekpeceicaaDoorRouteHand
namespace Go.Proofs.YtpgdiekpeceicaaDoor
open Go Go.RowKit Go.Shelf

set_option maxRecDepth 100000 in
set_option maxHeartbeats 8000000 in
theorem refHandlers_any (k : Nat) (p : Option Addr) (cap : Nat) (l : List Rt) (w : World) (hl : Rts w k p l) (hok : ∀ r ∈ l, OkR k r) (hT : Tabs w)
    (dk : Nat) (hdk : dk < 14) (di : Int) (db : Int) (ds : ByteArray) (q : Option Addr) (m c : Nat) (id : Int) (tp : ByteArray) (at_ un : Int) (rp : ByteArray) (co pr hp : Int) (htp : tp.size ≤ 1048576) :
    Calls Tryd.prog 13 #[.slice p l.length cap, .agg #[.int .i64 id, .string tp, .int .i64 (dk : Nat), .int .i64 di, .int .u64 db, .string ds, .slice q m c, .int .i64 at_, .int .i64 un, .string rp, .int .i64 co, .int .i64 pr, .int .i64 hp]] w (ZsPost w (handsR l (findR (agFrom k tp dk 0 l)).1)) := by
  have CF : Hid (∀ W, Below w.heap.size w W → Calls Tryd.prog 10 #[.slice p l.length cap, .agg #[.int .i64 id, .string tp, .int .i64 (dk : Nat), .int .i64 di, .int .u64 db, .string ds, .slice q m c, .int .i64 at_, .int .i64 un, .string rp, .int .i64 co, .int .i64 pr, .int .i64 hp]] W (TakenPost W (findR (agFrom k tp dk 0 l)))) :=
    fun W hb => refFind21_any k p cap l W (hl.below hb) hok (hT.below hb) dk hdk di db ds q m c id tp at_ un rp co pr hp htp
  have HLT := Lib.hid (findR_lt (k := k) (tp := tp) (dk := dk) (l := l))
  have hll := hl.1
  have hfl := Nat.le_trans (findR_len (agFrom k tp dk 0 l)) (agFrom_len k tp dk l 0)
  generalize findR (agFrom k tp dk 0 l) = T at *
  obtain ⟨is, el⟩ := T
  simp only at HLT hfl ⊢
  obtain ⟨PP, hPP⟩ : ∃ PP, ZsPost w (handsR l is) = PP := ⟨_, rfl⟩
  rw [hPP]
  have HPP := Lib.hid hPP
  have HR := Lib.hid hl
  obtain ⟨i0, hi, hz0, hz1, hz2⟩ := info_parts info_int
  clear hPP hl hT hok
  go_enter Tryd.func13, Tryd.ntmps13
  go_wp2_with fail
  refine (CF.out _ (by exact (Below.refl _ _).alloc (Nat.le_refl _) _)).mono ?_
  rintro e W1 ⟨v, rfl, hv, hb1, -⟩
  obtain ⟨p2, cap2, rfl, k1, k2, k3⟩ := hv
  have hfd : ∀ w : World, (Instr.field 33 (.agg #[.slice p2 is.length cap2, .bool el]) 0).run Tryd.prog w = .ok (.slice p2 is.length cap2) w := fun _ => by kernel_rfl
  have HB1 : Hid (Below w.heap.size w W1) := ((Below.refl _ _).alloc (Nat.le_refl _) _).trans (hb1.mono (by simp))
  have HK := Lib.hid k3
  clear hb1 k3 CF
  go_wp2_with fail
  clear hfd
  go_loopw [5, 16] (fun o i wr => ∃ (j : Nat) (xs : List Int), i = .int .i64 (j : Nat) ∧ j ≤ is.length ∧ Hid (xs = handsR l (is.take j)) ∧ Hid (wr.ownsRow W1.heap.size 3 1 o xs.length (xs.map zv)) ∧ Hid (Below W1.heap.size W1 wr)) (fun _ i _ => is.length - (intOf i).toNat)
  case atStart => exact ⟨0, [], rfl, by omega, rfl, World.ownsRow_nil _ _ _ _, Below.refl _ _⟩
  case round =>
    obtain ⟨j, xs, rfl, hj, HX, HO, HB⟩ := hrel
    obtain ⟨p3, cap3, rfl, n1, n2, n3⟩ := zs_of_own HO.out
    by_cases hlt : j < is.length
    · obtain ⟨i, hij⟩ : ∃ i, is[j]? = some i := ⟨_, List.getElem?_eq_getElem hlt⟩
      have hil := HLT.out i (List.mem_of_getElem? hij)
      obtain ⟨r, hr⟩ : ∃ r, l[i]? = some r := ⟨_, List.getElem?_eq_getElem hil⟩
      have HS := Lib.hid (handsR_step hij hr)
      have hxl : xs.length ≤ 1048576 := by have h := handsR_len l (is.take j); rw [← HX.out, List.length_take] at h; omega
      obtain ⟨b2, o2, rfl, hc2⟩ := HK.out (by omega)
      have c2 := (HB.out.cell (World.block_lt_of_cell? _ _ (hc2 j i hij))).trans (hc2 j i hij)
      obtain ⟨b, o, rfl, hc⟩ := ((HR.out.below HB1.out).below HB.out).2 (by omega)
      obtain ⟨op, num, p', n', c', q0, q1, q2, q3, q4, q5, hW⟩ := hc i r hr
      have N3 := Lib.hid n3
      have hlt' : (j : Int) < (is.length : Int) := by omega
      have hil' : (i : Int) < (l.length : Int) := by omega
      have hsz := HB.out.size
      clear hc2 hc hW q0 q1 q2 q3 q5 hij hr n3
      go_wp2_with fail
      obtain ⟨wo, rfl⟩ : ∃ wo : World, wo = wr := ⟨_, rfl⟩
      go_loop [8, 22] (fun t i => ∃ (u : Nat), i = .int .i64 (u : Nat) ∧ u ≤ xs.length ∧ t = .bool ((xs.take u).contains r.hd)) (fun _ i => xs.length - (intOf i).toNat)
      case atStart => exact ⟨0, rfl, by omega, by simp⟩
      case round =>
        obtain ⟨u, rfl, hu, rfl⟩ := hrel
        by_cases hul : u < xs.length
        · obtain ⟨y, hy⟩ : ∃ y, xs[u]? = some y := ⟨_, List.getElem?_eq_getElem hul⟩
          obtain ⟨b3, o3, rfl, hc3⟩ := N3.out (by omega)
          have c3 := hc3 u y hy
          have HT := Lib.hid (take_contains (x := r.hd) hy)
          have hul' : (u : Int) < (xs.length : Int) := by omega
          clear hc3 hy
          cases hcon : (xs.take u).contains r.hd with
          | true =>
            have HV : Hid (Value.bool true = .bool ((xs.take (u + 1)).contains r.hd)) := by show _ = _; rw [HT.out, hcon]; rfl
            clear HT hcon
            go_wp2_with fail
            go_round
            case rel => exact ⟨u + 1, by go_num, by omega, HV.out⟩
            case measure => simp [intOf]; omega
          | false =>
            have HV : Hid (Value.bool (r.hd == y) = .bool ((xs.take (u + 1)).contains r.hd)) := by show _ = _; rw [HT.out, hcon]; rfl
            clear HT hcon
            cases hry : (y == r.hd) with
            | true =>
              have e : (r.hd == y) = true := by rw [Bool.beq_comm]; exact hry
              rw [e] at HV
              clear e
              go_wp2_with fail
              go_round
              case rel => exact ⟨u + 1, by go_num, by omega, HV.out⟩
              case measure => simp [intOf]; omega
            | false =>
              have e : (r.hd == y) = false := by rw [Bool.beq_comm]; exact hry
              rw [e] at HV
              clear e
              go_wp2_with fail
              go_round
              case rel => exact ⟨u + 1, by go_num, by omega, HV.out⟩
              case measure => simp [intOf]; omega
        · obtain rfl : u = xs.length := by omega
          have hct : (xs.take xs.length).contains r.hd = xs.contains r.hd := by rw [List.take_length]
          rw [hct]
          clear hct
          cases hcon : xs.contains r.hd with
          | true =>
            have HX1 : Hid (xs = handsR l (is.take (j + 1))) := by show _ = _; rw [HS.out, ← HX.out, hcon]; rfl
            clear hcon HS
            go_wp2_with fail
            go_roundw
            case rel => exact ⟨j + 1, xs, by go_num, by omega, HX1, HO, HB⟩
            case measure => simp [intOf]; omega
          | false =>
            have HX1 : Hid (xs ++ [r.hd] = handsR l (is.take (j + 1))) := by show _ = _; rw [HS.out, ← HX.out, hcon]; rfl
            clear hcon HS
            go_wp2_with (at_builtin; refine wpList_append_own _ rfl _ _ 31 rfl W1.heap.size 3 i0 (.int .i64 0) 1 8 Tryd.underlying31 hi hz0 hz1 hz2 rfl (by decide) _ _ _ rfl (HO.out.alloc _) ⟨wo.heap.size, 0, none⟩ 1 1 [zv r.hd] rfl rfl (news_cell _ _ _) (fun x hx => by simp at hx; subst hx; rfl) (by unfold maxLen; omega) (by omega) (by simp; omega) ?_; intro v2 W3 hown2 hg2 hnil2; have HB3 := Lib.hid ((HB.out.alloc hsz _).grown hg2 (by simp; omega) (fun k hk => (HO.out.lt k hk).1)); have ho3 : W3.ownsRow W1.heap.size 3 1 v2 (xs ++ [r.hd]).length ((xs ++ [r.hd]).map zv) := (by simpa using hown2); have HO3 := Lib.hid ho3; clear ho3 hown2 hg2 hnil2)
            go_roundw
            case rel => exact ⟨j + 1, xs ++ [r.hd], by go_num, by omega, HX1, HO3, HB3⟩
            case measure => simp [intOf]; omega
    · obtain rfl : j = is.length := by omega
      have HX1 : Hid (handsR l is = xs) := by show _ = _; have h := HX.out; rw [List.take_length] at h; exact h.symm
      clear HX n3
      go_wp2_with fail
      rw [← HPP.out, HX1.out]
      exact ⟨_, rfl, zs_of_own HO.out, HB1.out.trans (HB.out.mono HB1.out.size), fresh_of_own HO.out HB1.out.size⟩
end Go.Proofs.YtpgdiekpeceicaaDoor
