/- WIRE: conduitref26.Body, Encode. -/
import Derived.Test.YtmncpbfghabamaaDoorWireWM
namespace Go.Proofs.YtmncpbfghabamaaDoor
open Go Go.RowKit
attribute [local go_sem ↓] Go.wp_at_zero Go.wp_at_succ

theorem add_at (b o j : Nat) : (⟨b, o, none⟩ : Addr).add j = ⟨b, o + j, none⟩ := by unfold Addr.add; split <;> simp_all
theorem run_append_bytes (w : World) (base : Nat) (ty : TypeId) (v : Value) (m : List UInt8) (hown : Row w base v m) (p : Option Addr) (cap : Nat) (l : List UInt8) (hS : Bs w (.slice p l.length cap) l) (hn : m.length + l.length ≤ 1000000000) (hbase : base ≤ w.heap.size) :
    ∃ v' w', (Builtin.append_ #[26, 26] ty #[v, .slice p l.length cap]).run Tryd.prog w = .ok v' w' ∧ Row w' base v' (m ++ l) ∧ w.grownBy w' v.ownBlock := by
  obtain ⟨i, hi, hz0, hz1, hz2⟩ := info_parts info_u8
  by_cases hl : l = []
  · subst hl
    refine ⟨v, w, ?_, by simpa using hown, ⟨rfl, rfl, rfl, Nat.le_refl _, fun _ _ _ => rfl⟩⟩
    rcases hown.2 with ⟨rfl, hm0⟩ | ⟨g, cp, cur, rfl, hb, hg, hnc, hm, hs, ht⟩
    · cases p <;> simp [Builtin.append_, run_underlying Tryd.underlying26, sizeOf, typeInfo, hi, Builtin.lenOf, Builtin.firstCells, loadCells, loadCellsFrom]
    · cases p <;> simp [Builtin.append_, run_underlying Tryd.underlying26, sizeOf, typeInfo, hi, Builtin.lenOf, Builtin.firstCells, loadCells, loadCellsFrom, hnc, storeCells]
  · obtain ⟨b, o, rfl, hc⟩ := hS.addr (List.length_pos_iff.2 hl)
    obtain ⟨v', w', h1, h2, h3, _⟩ := run_append_own (P := Tryd.prog) w base 26 ty 5 i (.int .u8 0) 1 1 Tryd.underlying26 hi hz0 hz1 hz2 rfl (by decide) v m.length (m.map bv) hown ⟨b, o, none⟩ l.length cap (l.map bv) (by rw [List.length_map, Nat.mul_one]) (fun j u hj => by
      rw [List.getElem?_map] at hj
      obtain ⟨x, hx, rfl⟩ := Option.map_eq_some_iff.1 hj
      rw [add_at]
      exact hc j x hx) (fun x hx => by obtain ⟨y, -, rfl⟩ := List.mem_map.1 hx; rfl) (by unfold maxLen; omega) (by omega) hbase
    exact ⟨v', w', h1, row_app h2 rfl, h3⟩
theorem wpList_append_bytes {ops : Array Oper} {rest : List Oper} {o : Oper} {a : Act} {Q : Exit → Act → World → Prop} (w : World) (hgd : o.guard = none) (s x : Operand)
    (ho : o.op = .call { callee := .builtin .append, args := #[s, x], argTypes := #[26, 26] })
    (base : Nat) (v : Value) (m : List UInt8) (hs : a.eval s = v) (hown : Row w base v m) (p : Option Addr) (cap : Nat) (l : List UInt8) (hx : a.eval x = .slice p l.length cap) (hS : Bs w (.slice p l.length cap) l)
    (hn : m.length + l.length ≤ 1000000000) (hbase : base ≤ w.heap.size)
    (h : ∀ v' w', Row w' base v' (m ++ l) → w.grownBy w' v.ownBlock → wpList Tryd.prog ops Q rest (a.put o.dst v') w') : wpList Tryd.prog ops Q (o :: rest) a w := by
  refine wpList_plain hgd fun K hK => ?_
  obtain ⟨v', w', hr, h2, h3⟩ := run_append_bytes w base o.type v m hown p cap l hS hn hbase
  unfold Oper.wp execOp
  simp only [ho, resolve, invoke, builtin, Sem.run_bind, Sem.run_pure, Result.andThen_ok, List.map_toArray, List.map_cons, List.map_nil, hs, hx, hr]
  exact hK _ _ (h v' w' h2 h3)
structure RSt (w : World) (cs : Array Value) (l : List UInt8) (v : Value) (wx : World) : Prop where
  row : Row wx w.heap.size v l
  below : Below w.heap.size w wx
  msg : wx.heap[w.heap.size]? = some (.cells cs 39 (0, 0))
theorem RSt.post {w wx w2 : World} {cs : Array Value} {l l2 : List UInt8} {v v2 : Value} (h : RSt w cs l v wx) (hr : Row w2 w.heap.size v2 l2) (hg : Grow none v wx v2 w2) : RSt w cs l2 v2 w2 :=
  ⟨hr, hg.below h.below h.below.size (fun k e => by cases e) (row_base h.row), hg.boxed h.msg (by simp) (not_row h.msg (by decide) h.row)⟩
set_option maxRecDepth 100000 in
set_option maxHeartbeats 4000000 in
theorem refBody_any (k : Nat) (w : World) (id at_ un co pr hp : Int) (tp rp : ByteArray) (kd di db : Int) (ds : ByteArray) (p : Option Addr) (n cap : Nat) (ps : List Dv) (hD : DvIs w k [.int .i64 kd, .int .i64 di, .int .u64 db, .string ds, .slice p n cap] (.mk kd di db ds ps)) (hR : (Dv.mk kd di db ds ps).Right) (hi : ∀ x ∈ [id, at_, un, co, pr, hp], I64 x) (htp : tp.size ≤ 2000000) (hrp : rp.size ≤ 2000000) (hl : (enc (.mk kd di db ds ps)).length ≤ 90000000) :
    Calls Tryd.prog 27 #[.agg #[.int .i64 id, .string tp, .int .i64 kd, .int .i64 di, .int .u64 db, .string ds, .slice p n cap, .int .i64 at_, .int .i64 un, .string rp, .int .i64 co, .int .i64 pr, .int .i64 hp]] w (BPost (bodyB [id, at_, un, co, pr, hp] tp rp (.mk kd di db ds ps)) w) := by
  obtain ⟨PP, hPP⟩ : ∃ PP, BPost (bodyB [id, at_, un, co, pr, hp] tp rp (.mk kd di db ds ps)) w = PP := ⟨_, rfl⟩
  rw [hPP]
  have HPP := Lib.hid hPP
  have HD := Lib.hid hD
  have HR := Lib.hid hR
  have HI := Lib.hid hi
  have HT1 := Lib.hid htp
  have HT2 := Lib.hid hrp
  have HL := Lib.hid hl
  have S0 : Hid (RSt w #[.int .i64 id, .string tp, .int .i64 kd, .int .i64 di, .int .u64 db, .string ds, .slice p n cap, .int .i64 at_, .int .i64 un, .string rp, .int .i64 co, .int .i64 pr, .int .i64 hp] [] (.slice none 0 0) (w.alloc (.cells #[.int .i64 id, .string tp, .int .i64 kd, .int .i64 di, .int .u64 db, .string ds, .slice p n cap, .int .i64 at_, .int .i64 un, .string rp, .int .i64 co, .int .i64 pr, .int .i64 hp] 39))) := ⟨World.ownsRow_nil _ _ _ _, (Below.refl _ _).alloc (Nat.le_refl _) _, heap_alloc_new w _⟩
  have N0 : Hid (([] : List UInt8).length ≤ 0) := Nat.le_refl _
  clear hPP hD hR hi htp hrp hl
  go_enter Tryd.func27, Tryd.ntmps27
  obtain ⟨c0, c1, c2, c3, c4, c5, c6, c7, c8, c9, c10, c11, c12, hcl⟩ := cells13 S0.out.msg
  go_wp2_with fail
  refine (refSigned_any w.heap.size (.slice none 0 0) _ id _ S0.out.row S0.out.below.size (HI.out id (by simp)) (Nat.le_trans N0.out (by decide))).mono ?_
  rintro e W1 ⟨v1, rfl, g1, g2⟩
  have S1 := Lib.hid (S0.out.post g1 g2)
  have N1 : Hid (([] ++ numB (zig id)).length ≤ 10) := by show _ ≤ _; rw [List.length_append]; have h1 := N0.out; have h2 := HI.out id (by simp); have h3 := numB_ten (zig_lt h2.1 h2.2); omega
  clear g1 g2 c0 c1 c2 c3 c4 c5 c6 c7 c8 c9 c10 c11 c12 hcl
  obtain ⟨c0, c1, c2, c3, c4, c5, c6, c7, c8, c9, c10, c11, c12, hcl⟩ := cells13 S1.out.msg
  go_wp2_with fail
  refine (refSigned_any w.heap.size v1 _ at_ _ S1.out.row S1.out.below.size (HI.out at_ (by simp)) (Nat.le_trans N1.out (by decide))).mono ?_
  rintro e W2 ⟨v2, rfl, g1, g2⟩
  have S2 := Lib.hid (S1.out.post g1 g2)
  have N2 : Hid ((([] ++ numB (zig id)) ++ numB (zig at_)).length ≤ 20) := by show _ ≤ _; rw [List.length_append]; have h1 := N1.out; have h2 := HI.out at_ (by simp); have h3 := numB_ten (zig_lt h2.1 h2.2); omega
  clear g1 g2 c0 c1 c2 c3 c4 c5 c6 c7 c8 c9 c10 c11 c12 hcl
  obtain ⟨c0, c1, c2, c3, c4, c5, c6, c7, c8, c9, c10, c11, c12, hcl⟩ := cells13 S2.out.msg
  go_wp2_with fail
  refine (refSigned_any w.heap.size v2 _ un _ S2.out.row S2.out.below.size (HI.out un (by simp)) (Nat.le_trans N2.out (by decide))).mono ?_
  rintro e W3 ⟨v3, rfl, g1, g2⟩
  have S3 := Lib.hid (S2.out.post g1 g2)
  have N3 : Hid (((([] ++ numB (zig id)) ++ numB (zig at_)) ++ numB (zig un)).length ≤ 30) := by show _ ≤ _; rw [List.length_append]; have h1 := N2.out; have h2 := HI.out un (by simp); have h3 := numB_ten (zig_lt h2.1 h2.2); omega
  clear g1 g2 c0 c1 c2 c3 c4 c5 c6 c7 c8 c9 c10 c11 c12 hcl
  obtain ⟨c0, c1, c2, c3, c4, c5, c6, c7, c8, c9, c10, c11, c12, hcl⟩ := cells13 S3.out.msg
  go_wp2_with fail
  refine (refSigned_any w.heap.size v3 _ co _ S3.out.row S3.out.below.size (HI.out co (by simp)) (Nat.le_trans N3.out (by decide))).mono ?_
  rintro e W4 ⟨v4, rfl, g1, g2⟩
  have S4 := Lib.hid (S3.out.post g1 g2)
  have N4 : Hid ((((([] ++ numB (zig id)) ++ numB (zig at_)) ++ numB (zig un)) ++ numB (zig co)).length ≤ 40) := by show _ ≤ _; rw [List.length_append]; have h1 := N3.out; have h2 := HI.out co (by simp); have h3 := numB_ten (zig_lt h2.1 h2.2); omega
  clear g1 g2 c0 c1 c2 c3 c4 c5 c6 c7 c8 c9 c10 c11 c12 hcl
  obtain ⟨c0, c1, c2, c3, c4, c5, c6, c7, c8, c9, c10, c11, c12, hcl⟩ := cells13 S4.out.msg
  go_wp2_with fail
  refine (refSigned_any w.heap.size v4 _ pr _ S4.out.row S4.out.below.size (HI.out pr (by simp)) (Nat.le_trans N4.out (by decide))).mono ?_
  rintro e W5 ⟨v5, rfl, g1, g2⟩
  have S5 := Lib.hid (S4.out.post g1 g2)
  have N5 : Hid (((((([] ++ numB (zig id)) ++ numB (zig at_)) ++ numB (zig un)) ++ numB (zig co)) ++ numB (zig pr)).length ≤ 50) := by show _ ≤ _; rw [List.length_append]; have h1 := N4.out; have h2 := HI.out pr (by simp); have h3 := numB_ten (zig_lt h2.1 h2.2); omega
  clear g1 g2 c0 c1 c2 c3 c4 c5 c6 c7 c8 c9 c10 c11 c12 hcl
  obtain ⟨c0, c1, c2, c3, c4, c5, c6, c7, c8, c9, c10, c11, c12, hcl⟩ := cells13 S5.out.msg
  go_wp2_with fail
  refine (refSigned_any w.heap.size v5 _ hp _ S5.out.row S5.out.below.size (HI.out hp (by simp)) (Nat.le_trans N5.out (by decide))).mono ?_
  rintro e W6 ⟨v6, rfl, g1, g2⟩
  have S6 := Lib.hid (S5.out.post g1 g2)
  have N6 : Hid ((((((([] ++ numB (zig id)) ++ numB (zig at_)) ++ numB (zig un)) ++ numB (zig co)) ++ numB (zig pr)) ++ numB (zig hp)).length ≤ 60) := by show _ ≤ _; rw [List.length_append]; have h1 := N5.out; have h2 := HI.out hp (by simp); have h3 := numB_ten (zig_lt h2.1 h2.2); omega
  clear g1 g2 c0 c1 c2 c3 c4 c5 c6 c7 c8 c9 c10 c11 c12 hcl
  obtain ⟨c0, c1, c2, c3, c4, c5, c6, c7, c8, c9, c10, c11, c12, hcl⟩ := cells13 S6.out.msg
  go_wp2_with fail
  refine (refText_any w.heap.size v6 _ tp _ S6.out.row S6.out.below.size (Nat.le_trans HT1.out (by decide)) (Nat.le_trans N6.out (by decide))).mono ?_
  rintro e W7 ⟨v7, rfl, g1, g2⟩
  have S7 := Lib.hid (S6.out.post g1 g2)
  have N7 : Hid (((((((([] ++ numB (zig id)) ++ numB (zig at_)) ++ numB (zig un)) ++ numB (zig co)) ++ numB (zig pr)) ++ numB (zig hp)) ++ (numB tp.size ++ tp.data.toList)).length ≤ 2000070) := by show _ ≤ _; have h0 : (numB tp.size ++ tp.data.toList).length ≤ 2000010 := (by have h2 := HT1.out; have h3 := numB_ten (show tp.size < 18446744073709551616 by omega); have h4 : tp.data.toList.length = tp.size := (by simp); rw [List.length_append]; omega); have h1 := N6.out; rw [List.length_append]; omega
  clear g1 g2 c0 c1 c2 c3 c4 c5 c6 c7 c8 c9 c10 c11 c12 hcl
  obtain ⟨c0, c1, c2, c3, c4, c5, c6, c7, c8, c9, c10, c11, c12, hcl⟩ := cells13 S7.out.msg
  go_wp2_with fail
  refine (refText_any w.heap.size v7 _ rp _ S7.out.row S7.out.below.size (Nat.le_trans HT2.out (by decide)) (Nat.le_trans N7.out (by decide))).mono ?_
  rintro e W8 ⟨v8, rfl, g1, g2⟩
  have S8 := Lib.hid (S7.out.post g1 g2)
  have N8 : Hid ((((((((([] ++ numB (zig id)) ++ numB (zig at_)) ++ numB (zig un)) ++ numB (zig co)) ++ numB (zig pr)) ++ numB (zig hp)) ++ (numB tp.size ++ tp.data.toList)) ++ (numB rp.size ++ rp.data.toList)).length ≤ 4000080) := by show _ ≤ _; have h0 : (numB rp.size ++ rp.data.toList).length ≤ 2000010 := (by have h2 := HT2.out; have h3 := numB_ten (show rp.size < 18446744073709551616 by omega); have h4 : rp.data.toList.length = rp.size := (by simp); rw [List.length_append]; omega); have h1 := N7.out; rw [List.length_append]; omega
  clear g1 g2 c0 c1 c2 c3 c4 c5 c6 c7 c8 c9 c10 c11 c12 hcl
  obtain ⟨c0, c1, c2, c3, c4, c5, c6, c7, c8, c9, c10, c11, c12, hcl⟩ := cells13 S8.out.msg
  go_wp2_with fail
  refine (put_any k w _ v8 _ kd di db ds p n cap ps HD.out S8.out.below S8.out.row HR.out (by have h1 := N8.out; have h2 := HL.out; omega)).mono ?_
  rintro e W9 ⟨v9, rfl, g1, g2⟩
  have S9 := Lib.hid (S8.out.post g1 g2)
  clear g1 g2 c0 c1 c2 c3 c4 c5 c6 c7 c8 c9 c10 c11 c12 hcl
  go_wp2_with fail
  rw [← HPP.out]
  refine ⟨_, rfl, ?_, S9.out.below⟩
  have e : (bodyB [id, at_, un, co, pr, hp] tp rp (.mk kd di db ds ps)) = (((((((([] ++ numB (zig id)) ++ numB (zig at_)) ++ numB (zig un)) ++ numB (zig co)) ++ numB (zig pr)) ++ numB (zig hp)) ++ (numB tp.size ++ tp.data.toList)) ++ (numB rp.size ++ rp.data.toList)) ++ enc (.mk kd di db ds ps) := by unfold bodyB sigsB txtB; simp only [List.flatMap_cons, List.flatMap_nil, List.append_nil, List.nil_append, List.append_assoc]
  rw [e]
  exact S9.out.row
set_option maxRecDepth 100000 in
set_option maxHeartbeats 4000000 in
theorem refEncode_any (k : Nat) (w : World) (id at_ un co pr hp : Int) (tp rp : ByteArray) (kd di db : Int) (ds : ByteArray) (p : Option Addr) (n cap : Nat) (ps : List Dv) (hD : DvIs w k [.int .i64 kd, .int .i64 di, .int .u64 db, .string ds, .slice p n cap] (.mk kd di db ds ps)) (hR : (Dv.mk kd di db ds ps).Right) (hi : ∀ x ∈ [id, at_, un, co, pr, hp], I64 x) (htp : tp.size ≤ 2000000) (hrp : rp.size ≤ 2000000) (hl : (enc (.mk kd di db ds ps)).length ≤ 90000000) :
    Calls Tryd.prog 20 #[.agg #[.int .i64 id, .string tp, .int .i64 kd, .int .i64 di, .int .u64 db, .string ds, .slice p n cap, .int .i64 at_, .int .i64 un, .string rp, .int .i64 co, .int .i64 pr, .int .i64 hp]] w (BPost (frameB (bodyB [id, at_, un, co, pr, hp] tp rp (.mk kd di db ds ps))) w) := by
  have HB0 : Hid (Below w.heap.size w (w.alloc (.cells #[.int .i64 id, .string tp, .int .i64 kd, .int .i64 di, .int .u64 db, .string ds, .slice p n cap, .int .i64 at_, .int .i64 un, .string rp, .int .i64 co, .int .i64 pr, .int .i64 hp] 39))) := (Below.refl _ _).alloc (Nat.le_refl _) _
  have CB0 := refBody_any k (w.alloc (.cells #[.int .i64 id, .string tp, .int .i64 kd, .int .i64 di, .int .u64 db, .string ds, .slice p n cap, .int .i64 at_, .int .i64 un, .string rp, .int .i64 co, .int .i64 pr, .int .i64 hp] 39)) id at_ un co pr hp tp rp kd di db ds p n cap ps (hD.below HB0.out) hR hi htp hrp hl
  obtain ⟨BB, hBB⟩ : ∃ BB, (bodyB [id, at_, un, co, pr, hp] tp rp (.mk kd di db ds ps)) = BB := ⟨_, rfl⟩
  have hlen : BB.length ≤ 95000000 ∧ 0 < BB.length := by
    rw [← hBB]
    have h1 := sigsB_len [id, at_, un, co, pr, hp] hi
    have h3 := numB_ten (show tp.size < 18446744073709551616 by omega); have h5 := numB_ten (show rp.size < 18446744073709551616 by omega)
    have h6 := enc_pos (.mk kd di db ds ps)
    unfold bodyB txtB
    simp only [List.length_append, Array.length_toList]
    show (sigsB _).length + (_ + tp.size) + (_ + rp.size) + _ ≤ _ ∧ _
    simp only [List.length_cons, List.length_nil] at h1
    omega
  rw [hBB] at CB0 ⊢
  obtain ⟨PP, hPP⟩ : ∃ PP, BPost (frameB BB) w = PP := ⟨_, rfl⟩
  rw [hPP]
  have HPP := Lib.hid hPP
  have CB := Lib.hid CB0
  have HLEN := Lib.hid hlen
  have HSA : Hid ((w.alloc (.cells #[.int .i64 id, .string tp, .int .i64 kd, .int .i64 di, .int .u64 db, .string ds, .slice p n cap, .int .i64 at_, .int .i64 un, .string rp, .int .i64 co, .int .i64 pr, .int .i64 hp] 39)).heap.size = w.heap.size + 1) := World.size_alloc _ _
  clear hPP CB0 hD hR hi htp hrp hl hBB hlen
  go_enter Tryd.func20, Tryd.ntmps20
  go_wp2_with fail
  refine CB.out.mono ?_
  rintro e W3 ⟨v4, rfl, hr4, hb4⟩
  obtain ⟨q, m, c, rfl⟩ := row_val hr4
  obtain rfl : m = BB.length := ((bs_of_own hr4).len).1
  have HW3 : Hid (Below w.heap.size w W3) := HB0.out.trans (hb4.mono (by have := HSA.out; omega))
  have HBS := Lib.hid (bs_of_own hr4)
  have hB3 := HW3.out.size
  have GBK : Hid (∀ g, (Value.slice q BB.length c).ownBlock = some g → g < W3.heap.size) := fun g hg => (hr4.lt g hg).2
  clear hr4 hb4
  obtain ⟨N, hN⟩ : ∃ N, BB.length = N := ⟨_, rfl⟩
  have HN := Lib.hid hN
  have hl1 := HLEN.out.1
  have hl2 := HLEN.out.2
  rw [hN] at HBS GBK hl1 hl2 ⊢
  by_cases hbig : 16777216 < N
  · have hbI : (16777216 : Int) < (N : Int) := by omega
    clear hN
    go_wp2_with fail
    rw [← HPP.out]
    refine ⟨_, rfl, ?_, HW3.out⟩
    unfold frameB
    rw [if_pos (by rw [HN.out]; exact hbig)]
    exact World.ownsRow_nil _ _ _ _
  · have hbI : ¬ (16777216 : Int) < (N : Int) := by omega
    have hwN : IntKind.u64.wrap (N : Int) = (N : Int) := by rw [wrap64u]; omega
    have RP : Hid (Row (W3.alloc (.cells #[.int .u8 167, .int .u8 1] 5)) w.heap.size (.slice (some ⟨W3.heap.size, 0, none⟩) 2 2) [167, 1]) := row_two (x := 167) (y := 1) hB3 rfl rfl
    have BP : Hid (Below W3.heap.size W3 (W3.alloc (.cells #[.int .u8 167, .int .u8 1] 5))) := (Below.refl _ _).alloc (Nat.le_refl _) _
    clear hN
    go_wp2_with fail
    refine (refNumber_any w.heap.size (.slice (some ⟨W3.heap.size, 0, none⟩) 2 2) [167, 1] N _ RP.out (by simp; omega) (by omega) (by simp)).mono ?_
    rintro e W4 ⟨v5, rfl, g1, g2⟩
    have b4 : Below W3.heap.size W3 W4 := g2.below BP.out (by simp) (fun k e => by cases e) (fun k e => by simp [Value.ownBlock] at e; omega)
    have V5 : Hid (∀ k, v5.ownBlock = some k → W3.heap.size ≤ k) := fun k hk => by
      rcases g2.at_ with h | h
      · rw [hk] at h; simp [Value.ownBlock] at h; omega
      · have := h k hk; simp at this; omega
    obtain ⟨LL, hLL⟩ : ∃ LL, ([167, 1] : List UInt8) ++ numB N = LL := ⟨_, rfl⟩
    have hn10 := numB_ten (show N < 18446744073709551616 by omega)
    have hl12 : LL.length ≤ 12 := by rw [← hLL, List.length_append]; simp; omega
    rw [hLL] at g1
    have HLL := Lib.hid hLL
    have R5 := Lib.hid g1
    have B4 := Lib.hid b4
    have HB4 : Hid (Bs W4 (.slice q N c) BB) := HBS.out.below b4
    have hs4 : w.heap.size ≤ W4.heap.size := Nat.le_trans hB3 b4.size
    clear g1 g2 b4 hLL hn10
    have hx1 : BB.length = N := HN.out
    have HB4' : Hid (Bs W4 (.slice q BB.length c) BB) := by have h := HB4.out; rw [← hx1] at h; exact h
    have HNX : Hid (BB.length = N) := hx1
    clear hx1
    go_wp2_with (at_builtin; refine wpList_append_bytes _ rfl (.tmp 16) (.tmp 17) rfl w.heap.size v5 LL rfl R5.out q c BB (by rw [HNX.out]; rfl) HB4'.out (by rw [HNX.out]; omega) hs4 ?_; intro v6 W6 hrow6 hg6; obtain ⟨q6, m6, c6, rfl⟩ := row_val hrow6; have HM6 := Lib.hid ((bs_of_own hrow6).len).1; have T6 : Hid (W6.ownsRow w.heap.size 5 1 (.slice q6 m6 c6) m6 ((LL ++ BB).map bv)) := (by have h := hrow6; unfold Row at h; rw [← HM6.out] at h; exact h); have B6 : Hid (Below W3.heap.size W3 W6) := B4.out.trans ⟨hg6.os, hg6.tape, hg6.output, hg6.size, fun i hi => hg6.block i (Nat.lt_of_lt_of_le hi B4.out.size) (fun e => by have := V5.out i e.symm; omega)⟩; clear hrow6 hg6)
    have B6w : Hid (Below w.heap.size w W6) := HW3.out.trans (B6.out.mono hB3)
    have CS : Hid (Calls Tryd.prog 26 #[.slice q N c] W6 fun e w' => e = .returned (.int .u16 ((crc BB).toNat : Nat)) ∧ w' = W6) := by
      have h := refSum_any q c BB W6 (by have h := HBS.out.below B6.out; rw [← HNX.out] at h; exact h)
      rw [HNX.out] at h
      exact h
    have hbs : w.heap.size ≤ W6.heap.size := B6w.out.size
    go_wp2_with fail
    refine CS.out.mono ?_
    rintro e w7 ⟨rfl, rfl⟩
    obtain ⟨C, hC⟩ : ∃ C, (crc BB).toNat = C := ⟨_, rfl⟩
    have hC6 : C < 65536 := by rw [← hC]; exact (crc BB).isLt
    have HC := Lib.hid hC
    rw [hC]
    clear hC
    obtain ⟨i0, hi, hz0, hz1, hz2⟩ := info_parts info_u8
    have hll : m6 ≤ 100000000 := by rw [HM6.out, List.length_append, HNX.out]; omega
    go_wp2_with (at_builtin; refine wpList_append_own_at _ rfl _ _ 26 rfl w.heap.size 5 i0 (.int .u8 0) 1 1 Tryd.underlying26 hi hz0 hz1 hz2 rfl (by decide) (.slice q6 m6 c6) m6 ((LL ++ BB).map bv) rfl (World.ownsRow.alloc T6.out _) ⟨w7.heap.size, 0, none⟩ 2 2 [.int .u8 ((C : Int) / 256), .int .u8 ((C : Int) % 256)] rfl rfl (World.news_of_block (heap_alloc_new w7 (.cells #[.int .u8 ((C : Int) / 256), .int .u8 ((C : Int) % 256)] 5))) (fun x hx => by simp at hx; rcases hx with rfl | rfl <;> rfl) (by unfold maxLen; omega) (by omega) (by simp; omega) ?_; intro v9 w9 hown9 hgrow9 _ hat9; obtain ⟨q9, n9, c9, rfl⟩ : ∃ q n c, v9 = .slice q n c := (by rcases hown9.2 with ⟨h, -⟩ | ⟨g, cap, cur, h, -⟩ <;> exact ⟨_, _, _, h⟩))
    rw [← HPP.out]
    have hrow9 : Row w9 w.heap.size (.slice q9 n9 c9) (LL ++ BB ++ crcB BB) := by
      refine row_app (m := crcB BB) (n := 2) ?_ rfl
      have e : (crcB BB).map bv = [.int .u8 ((C : Int) / 256), .int .u8 ((C : Int) % 256)] := by
        unfold crcB bv
        rw [HC.out]
        simp only [List.map_cons, List.map_nil]
        rw [byte_nat (by omega), byte_nat (by omega)]
        rfl
      rw [e, ← HM6.out]
      exact hown9
    refine ⟨_, rfl, ?_, ?_⟩
    · unfold frameB
      rw [if_neg (by rw [HN.out]; exact hbig), HN.out, HLL.out]
      exact hrow9
    · exact (B6w.out.alloc hbs _).trans ⟨hgrow9.os, hgrow9.tape, hgrow9.output, hgrow9.size, fun k hk => hgrow9.block k (by simp; omega) (fun e => by have := (T6.out.lt k e.symm).1; omega)⟩
end Go.Proofs.YtmncpbfghabamaaDoor
