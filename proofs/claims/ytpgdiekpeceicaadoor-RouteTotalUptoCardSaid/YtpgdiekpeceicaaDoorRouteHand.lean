/- ROUTE: where a message goes: slices.Contains, route.Handlers, conduitref21.Handlers. -/
import Derived.Test.YtpgdiekpeceicaaDoorRouteFind
namespace Go.Proofs.YtpgdiekpeceicaaDoor
open Go Go.RowKit Go.Shelf

def zv (x : Int) : Value := .int .i64 x
/-- v reads as the numbers l -/
def Zs (w : World) (v : Value) (l : List Int) : Prop := ∃ p cap, v = .slice p l.length cap ∧ l.length ≤ cap ∧ cap ≤ 9223372036854775807 ∧ (0 < l.length → ∃ b o, p = some ⟨b, o, none⟩ ∧ ∀ j x, l[j]? = some x → w.cell? ⟨b, o + j, none⟩ = some (.int .i64 x))
theorem zs_of_own {w : World} {base : Nat} {v : Value} {l : List Int} (h : w.ownsRow base 3 1 v l.length (l.map zv)) : Zs w v l := by
  rcases h.2 with ⟨rfl, h0⟩ | ⟨g, cap, cur, rfl, hb, hg, h1, h2, h3, h4⟩
  · exact ⟨none, 0, by rw [h0], by omega, by omega, fun h => by omega⟩
  · refine ⟨_, cap, rfl, h1, by unfold maxLen at h2; omega, fun _ => ⟨g, 0, rfl, fun j x hj => ?_⟩⟩
    have hj' : j < l.length := (List.getElem?_eq_some_iff.1 hj).1
    have := h.cellAt j (by omega)
    rw [Nat.zero_add, this, List.getElem?_map, hj]; rfl
theorem Zs.below {w w' : World} {v : Value} {l : List Int} (h : Zs w v l) (hb : Below w.heap.size w w') : Zs w' v l := by
  obtain ⟨p, cap, hv, h1, h2, h3⟩ := h
  refine ⟨p, cap, hv, h1, h2, fun hn => ?_⟩
  obtain ⟨b, o, hp, hc⟩ := h3 hn
  exact ⟨b, o, hp, fun j x hj => (hb.cell (World.block_lt_of_cell? w _ (hc j x hj))).trans (hc j x hj)⟩
theorem Ints.zs {w : World} {v : Value} {l : List Nat} (h : Ints w v l) : Zs w v (l.map fun x => ((x : Nat) : Int)) := by
  obtain ⟨p, cap, hv, h1, h2, h3⟩ := h
  refine ⟨p, cap, by rw [List.length_map]; exact hv, by rw [List.length_map]; exact h1, h2, fun hn => ?_⟩
  rw [List.length_map] at hn
  obtain ⟨b, o, hp, hc⟩ := h3 hn
  refine ⟨b, o, hp, fun j x hj => ?_⟩
  rw [List.getElem?_map] at hj
  cases hx : l[j]? with
  | none => rw [hx] at hj; cases hj
  | some y => rw [hx] at hj; cases hj; exact hc j y hx

def HasPost (w : World) (b : Bool) (r : Ending) (w' : World) : Prop := r = .returned (.bool b) ∧ w' = w
def IdxPost (w : World) (b : Bool) (r : Ending) (w' : World) : Prop := ∃ i : Int, r = .returned (.int .i64 i) ∧ decide (0 ≤ i) = b ∧ w' = w
theorem take_contains {l : List Int} {j : Nat} {x y : Int} (h : l[j]? = some y) : (l.take (j + 1)).contains x = ((l.take j).contains x || x == y) := by
  rw [List.take_add_one, h, Bool.eq_iff_iff]; simp

set_option maxHeartbeats 4000000 in
theorem index_any (p : Option Addr) (cap : Nat) (l : List Int) (x : Int) (w : World) (hz : Zs w (.slice p l.length cap) l) :
    Calls Tryd.prog 37 #[.slice p l.length cap, .int .i64 x] w (IdxPost w (l.contains x)) := by
  obtain ⟨PP, hPP⟩ : ∃ PP, IdxPost w (l.contains x) = PP := ⟨_, rfl⟩
  rw [hPP]
  have HPP := Lib.hid hPP
  obtain ⟨p', cap', he, h1, h2, h3⟩ := hz
  injection he with e1 e2 e3
  subst e1; subst e3
  have H3 := Lib.hid h3
  clear hPP h3
  go_enter Tryd.func37, Tryd.ntmps37
  go_wp2_with fail
  go_loop [8] (fun i => ∃ (j : Nat), i = .int .i64 (j : Nat) ∧ j ≤ l.length ∧ Hid ((l.take j).contains x = false)) (fun i => l.length - (intOf i).toNat)
  case atStart => exact ⟨0, rfl, by omega, by show _ = _; simp⟩
  case round =>
    obtain ⟨j, rfl, hj, HN⟩ := hrel
    by_cases hlt : j < l.length
    · obtain ⟨y, hy⟩ : ∃ y, l[j]? = some y := ⟨_, List.getElem?_eq_getElem hlt⟩
      obtain ⟨b, o, rfl, hc⟩ := H3.out (by omega)
      have hcy := hc j y hy
      have HT := Lib.hid (take_contains (x := x) hy)
      have HY := Lib.hid hy
      have hlt' : (j : Int) < (l.length : Int) := by omega
      clear hc hy
      cases hxy : x == y with
      | true =>
        have HM : Hid (l.contains x = true) := by
          show _ = _
          have e := eq_of_beq hxy
          subst e
          exact List.contains_iff_mem.2 (List.mem_of_getElem? HY.out)
        go_wp2_with fail
        rw [← HPP.out, HM.out]; exact ⟨_, rfl, by simp, rfl⟩
      | false =>
        have HM : Hid ((l.take (j + 1)).contains x = false) := by show _ = _; rw [HT.out, HN.out, hxy]; rfl
        clear HT
        go_wp2_with fail
        go_round
        case rel => exact ⟨j + 1, by go_num, by omega, HM⟩
        case measure => simp [intOf]; omega
    · obtain rfl : j = l.length := by omega
      have HM : Hid (l.contains x = false) := by show _ = _; have h := HN.out; rw [List.take_length] at h; exact h
      clear HN
      go_wp2_with fail
      rw [← HPP.out, HM.out]; exact ⟨_, rfl, by decide, rfl⟩

set_option maxHeartbeats 4000000 in
theorem contains_any (p : Option Addr) (cap : Nat) (l : List Int) (x : Int) (w : World) (hz : Zs w (.slice p l.length cap) l) :
    Calls Tryd.prog 22 #[.slice p l.length cap, .int .i64 x] w (HasPost w (l.contains x)) := by
  have C := Lib.hid (index_any p cap l x w hz)
  clear hz
  generalize l.contains x = B at *
  go_enter Tryd.func22, Tryd.ntmps22
  go_wp2_with fail
  refine C.out.mono ?_
  rintro e w' ⟨i, rfl, hi, rfl⟩
  have HI := Lib.hid hi
  clear hi C
  go_wp2_with fail
  go_ret
  exact ⟨ret_bool HI.out, rfl⟩

/-- the handlers of some routes, each once -/
def handsR (l : List Rt) (is : List Nat) : List Int := is.foldl (fun out i => match l[i]? with | some r => if out.contains r.hd then out else out ++ [r.hd] | none => out) []
theorem handsR_step {l : List Rt} {is : List Nat} {j i : Nat} {r : Rt} (hj : is[j]? = some i) (hr : l[i]? = some r) :
    handsR l (is.take (j + 1)) = if (handsR l (is.take j)).contains r.hd then handsR l (is.take j) else handsR l (is.take j) ++ [r.hd] := by
  unfold handsR
  rw [List.take_add_one, hj]
  simp only [Option.toList, List.foldl_append, List.foldl_cons, List.foldl_nil, hr]
theorem handsR_len (l : List Rt) : ∀ (is : List Nat), (handsR l is).length ≤ is.length := by
  intro is
  have h : ∀ (is : List Nat) (a : List Int), (is.foldl (fun out i => match l[i]? with | some r => if out.contains r.hd then out else out ++ [r.hd] | none => out) a).length ≤ a.length + is.length := by
    intro is
    induction is with
    | nil => intro a; simp
    | cons i is ih =>
      intro a
      rw [List.foldl_cons]
      refine Nat.le_trans (ih _) ?_
      cases l[i]? with
      | none => simp only [List.length_cons]; omega
      | some r =>
        simp only
        split
        · simp only [List.length_cons]; omega
        · simp only [List.length_append, List.length_cons, List.length_nil]; omega
  have := h is []
  simpa [handsR] using this
theorem agFrom_lt (k : Nat) (tp : ByteArray) (dk : Nat) : ∀ (l : List Rt) (i : Nat), ∀ x ∈ agFrom k tp dk i l, x.1 < i + l.length := by
  intro l
  induction l with
  | nil => intro i x hx; cases hx
  | cons r l ih =>
    intro i x hx
    unfold agFrom at hx
    split at hx
    · rcases List.mem_cons.1 hx with rfl | hx
      · simp
      · have := ih _ _ hx; simp only [List.length_cons]; omega
    · have := ih _ _ hx; simp only [List.length_cons]; omega
theorem pl_mem {b : Bool} {L : List (Nat × Bool)} {i : Nat} (h : i ∈ pl b L) : ∃ x ∈ L, x.1 = i := by
  unfold pl at h
  obtain ⟨x, hx, e⟩ := List.mem_map.1 h
  exact ⟨x, (List.mem_filter.1 hx).1, e⟩
theorem findR_mem {L : List (Nat × Bool)} {i : Nat} (h : i ∈ (findR L).1) : ∃ x ∈ L, x.1 = i := by
  unfold findR at h
  split at h
  · exact pl_mem h
  · exact pl_mem h
theorem findR_len (L : List (Nat × Bool)) : (findR L).1.length ≤ L.length := by
  unfold findR
  split
  · exact pl_len _ _
  · exact pl_len _ _
theorem findR_lt {k : Nat} {tp : ByteArray} {dk : Nat} {l : List Rt} : ∀ i ∈ (findR (agFrom k tp dk 0 l)).1, i < l.length := fun i h => by
  obtain ⟨x, hx, rfl⟩ := findR_mem h
  have := agFrom_lt k tp dk l 0 x hx
  omega
def ZsPost (w : World) (l : List Int) (r : Ending) (w' : World) : Prop := ∃ v, r = .returned v ∧ Zs w' v l ∧ Below w.heap.size w w' ∧ Fresh w.heap.size v

set_option maxRecDepth 100000 in
set_option maxHeartbeats 8000000 in
theorem handlers_any (k : Nat) (p : Option Addr) (cap : Nat) (l : List Rt) (w : World) (hl : Rts w k p l) (hok : ∀ r ∈ l, OkR k r) (hT : Tabs w)
    (dk : Nat) (hdk : dk < 14) (di : Int) (db : Int) (ds : ByteArray) (q : Option Addr) (m c : Nat) (id : Int) (tp : ByteArray) (at_ un : Int) (rp : ByteArray) (co pr hp : Int) (htp : tp.size ≤ 1048576) :
    Calls Tryd.prog 12 #[.slice p l.length cap, .agg #[.int .i64 id, .string tp, .int .i64 (dk : Nat), .int .i64 di, .int .u64 db, .string ds, .slice q m c, .int .i64 at_, .int .i64 un, .string rp, .int .i64 co, .int .i64 pr, .int .i64 hp]] w (ZsPost w (handsR l (findR (agFrom k tp dk 0 l)).1)) := by
  have CF : Hid (∀ W, Below w.heap.size w W → Calls Tryd.prog 9 #[.slice p l.length cap, .agg #[.int .i64 id, .string tp, .int .i64 (dk : Nat), .int .i64 di, .int .u64 db, .string ds, .slice q m c, .int .i64 at_, .int .i64 un, .string rp, .int .i64 co, .int .i64 pr, .int .i64 hp]] W (TakenPost W (findR (agFrom k tp dk 0 l)))) :=
    fun W hb => find_any k p cap l W (hl.below hb) hok (hT.below hb) dk hdk di db ds q m c id tp at_ un rp co pr hp htp
  have HLT := Lib.hid (findR_lt (k := k) (tp := tp) (dk := dk) (l := l))
  have hll := hl.1
  have hfl := Nat.le_trans (findR_len (agFrom k tp dk 0 l)) (agFrom_len k tp dk l 0)
  generalize findR (agFrom k tp dk 0 l) = T at *
  obtain ⟨is, el⟩ := T
  simp only at HLT hfl ⊢
  obtain ⟨PP, hPP⟩ : ∃ PP, ZsPost w (handsR l is) = PP := ⟨_, rfl⟩
  rw [hPP]
  have HPP := Lib.hid hPP
  have HR := Lib.hid hl
  obtain ⟨i0, hi, hz0, hz1, hz2⟩ := info_parts info_int
  clear hPP hl hT hok
  go_enter Tryd.func12, Tryd.ntmps12
  go_wp2_with fail
  refine (CF.out _ (by exact (Below.refl _ _).alloc (Nat.le_refl _) _)).mono ?_
  rintro e W1 ⟨v, rfl, hv, hb1, -⟩
  obtain ⟨p2, cap2, rfl, k1, k2, k3⟩ := hv
  have hfd : ∀ w : World, (Instr.field 33 (.agg #[.slice p2 is.length cap2, .bool el]) 0).run Tryd.prog w = .ok (.slice p2 is.length cap2) w := fun _ => by kernel_rfl
  have HB1 : Hid (Below w.heap.size w W1) := ((Below.refl _ _).alloc (Nat.le_refl _) _).trans (hb1.mono (by simp))
  have HK := Lib.hid k3
  clear hb1 k3 CF
  go_wp2_with fail
  clear hfd
  go_loopw [5, 14] (fun o i wr => ∃ (j : Nat) (xs : List Int), i = .int .i64 (j : Nat) ∧ j ≤ is.length ∧ Hid (xs = handsR l (is.take j)) ∧ Hid (wr.ownsRow W1.heap.size 3 1 o xs.length (xs.map zv)) ∧ Hid (Below W1.heap.size W1 wr)) (fun _ i _ => is.length - (intOf i).toNat)
  case atStart => exact ⟨0, [], rfl, by omega, rfl, World.ownsRow_nil _ _ _ _, Below.refl _ _⟩
  case round =>
    obtain ⟨j, xs, rfl, hj, HX, HO, HB⟩ := hrel
    obtain ⟨p3, cap3, rfl, n1, n2, n3⟩ := zs_of_own HO.out
    by_cases hlt : j < is.length
    · obtain ⟨i, hij⟩ : ∃ i, is[j]? = some i := ⟨_, List.getElem?_eq_getElem hlt⟩
      have hil := HLT.out i (List.mem_of_getElem? hij)
      obtain ⟨r, hr⟩ : ∃ r, l[i]? = some r := ⟨_, List.getElem?_eq_getElem hil⟩
      have HS := Lib.hid (handsR_step hij hr)
      have hxl : xs.length ≤ 1048576 := by have h := handsR_len l (is.take j); rw [← HX.out, List.length_take] at h; omega
      obtain ⟨b2, o2, rfl, hc2⟩ := HK.out (by omega)
      have c2 := (HB.out.cell (World.block_lt_of_cell? _ _ (hc2 j i hij))).trans (hc2 j i hij)
      obtain ⟨b, o, rfl, hc⟩ := ((HR.out.below HB1.out).below HB.out).2 (by omega)
      obtain ⟨op, num, p', n', c', q0, q1, q2, q3, q4, q5, hW⟩ := hc i r hr
      have CC := Lib.hid (contains_any p3 cap3 xs r.hd wr (zs_of_own HO.out))
      have hlt' : (j : Int) < (is.length : Int) := by omega
      have hil' : (i : Int) < (l.length : Int) := by omega
      have hsz := HB.out.size
      clear hc2 hc hW q0 q1 q2 q3 q5 hij hr n3
      go_wp2_with fail
      refine CC.out.mono ?_
      rintro e w' ⟨rfl, rfl⟩
      clear CC
      cases hcon : xs.contains r.hd with
      | true =>
        have HX1 : Hid (xs = handsR l (is.take (j + 1))) := by show _ = _; rw [HS.out, ← HX.out, hcon]; rfl
        clear hcon HS
        go_wp2_with fail
        go_roundw
        case rel => exact ⟨j + 1, xs, by go_num, by omega, HX1, HO, HB⟩
        case measure => simp [intOf]; omega
      | false =>
        have HX1 : Hid (xs ++ [r.hd] = handsR l (is.take (j + 1))) := by show _ = _; rw [HS.out, ← HX.out, hcon]; rfl
        clear hcon HS
        go_wp2_with (at_builtin; refine wpList_append_own _ rfl _ _ 31 rfl W1.heap.size 3 i0 (.int .i64 0) 1 8 Tryd.underlying31 hi hz0 hz1 hz2 rfl (by decide) _ _ _ rfl (HO.out.alloc _) ⟨w'.heap.size, 0, none⟩ 1 1 [zv r.hd] rfl rfl (news_cell _ _ _) (fun x hx => by simp at hx; subst hx; rfl) (by unfold maxLen; omega) (by omega) (by simp; omega) ?_; intro v2 W3 hown2 hg2 hnil2; have HB3 := Lib.hid ((HB.out.alloc hsz _).grown hg2 (by simp; omega) (fun k hk => (HO.out.lt k hk).1)); have ho3 : W3.ownsRow W1.heap.size 3 1 v2 (xs ++ [r.hd]).length ((xs ++ [r.hd]).map zv) := (by simpa using hown2); have HO3 := Lib.hid ho3; clear ho3 hown2 hg2 hnil2)
        go_roundw
        case rel => exact ⟨j + 1, xs ++ [r.hd], by go_num, by omega, HX1, HO3, HB3⟩
        case measure => simp [intOf]; omega
    · obtain rfl : j = is.length := by omega
      have HX1 : Hid (handsR l is = xs) := by show _ = _; have h := HX.out; rw [List.take_length] at h; exact h.symm
      clear HX n3
      go_wp2_with fail
      rw [← HPP.out, HX1.out]
      exact ⟨_, rfl, zs_of_own HO.out, HB1.out.trans (HB.out.mono HB1.out.size), fresh_of_own HO.out HB1.out.size⟩
end Go.Proofs.YtpgdiekpeceicaaDoor
