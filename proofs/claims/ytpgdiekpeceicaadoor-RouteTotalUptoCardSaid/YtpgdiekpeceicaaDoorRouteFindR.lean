/- ROUTE: conduitref21.Find. -/
import Derived.Test.YtpgdiekpeceicaaDoorRouteInts
namespace Go.Proofs.YtpgdiekpeceicaaDoor
open Go Go.RowKit Go.Shelf

theorem news_cell (w : World) (u : Value) (t : TypeId) : ∀ j x, [u][j]? = some x → (w.alloc (.cells #[u] t)).cell? ((⟨w.heap.size, 0, none⟩ : Addr).add j) = some x := by
  intro j x hj
  match j, hj with
  | 0, hj =>
    simp at hj; subst hj
    show (w.alloc (.cells #[u] t)).cell? ⟨w.heap.size, 0, none⟩ = some u
    go_simp
  | j + 1, hj => simp at hj

/-- what the rounds leave: the message's box, the result's box, the struct's box and its row -/
def FndI (w : World) (mv : Array Value) (xs : List Nat) (e : Bool) (W : World) : Prop :=
  (∃ v, W.heap[w.heap.size + 2]? = some (.cells #[v, .bool e] 33 (0, 0)) ∧ W.ownsRow (w.heap.size + 3) 3 1 v xs.length (xs.map nv)) ∧ W.heap[w.heap.size]? = some (.cells mv 28 (0, 0)) ∧
    W.heap[w.heap.size + 1]? = some (.cells #[.slice none 0 0, .bool false] 33 (0, 0)) ∧ Below w.heap.size w W ∧ w.heap.size + 3 ≤ W.heap.size
theorem FndI.below {w : World} {mv : Array Value} {xs : List Nat} {e : Bool} {W W' : World} (h : FndI w mv xs e W) (hb : Below W.heap.size W W') : FndI w mv xs e W' := by
  obtain ⟨⟨v, h1, h2⟩, h3, h4, h5, h6⟩ := h
  exact ⟨⟨v, (hb.block _ (by omega)).trans h1, own_below h2 hb⟩, (hb.block _ (by omega)).trans h3, (hb.block _ (by omega)).trans h4, h5.trans (hb.mono h5.size), Nat.le_trans h6 hb.size⟩

theorem frz {W : World} {B : Nat} {cs : Array Value} {t : TypeId} (h : W.heap[B]? = some (.cells cs t (0, 0))) (i : Nat) : W.frozen? ⟨B, i, none⟩ = false := by
  unfold World.frozen?; simp only [h]; rfl

theorem resTk {W : World} {B : Nat} {cs : Array Value} (h : W.heap[B]? = some (.cells cs 33 (0, 0))) (hs : cs.size = 2) (tmps : Array Value) (h4 : tmps.getD 4 undef = .pointer (some ⟨B, 0, none⟩)) :
    (results Tryd.f10 tmps).run Tryd.prog W = .ok (.agg cs) W := by
  have h4' : tmps[4]?.getD undef = .pointer (some ⟨B, 0, none⟩) := by simpa using h4
  have hl := run_loadVar_row (P := Tryd.prog) W B 33 33 cs (0, 0) _ h Tryd.underlying33 rfl (by rw [hs]; kernel_rfl)
  simp [results, Tryd.results10, h4', asAddr, hl]
theorem FndI.start (w : World) (mv : Array Value) : FndI w mv [] false (((w.alloc (.cells mv 28)).alloc (.cells #[.slice none 0 0, .bool false] 33)).alloc (.cells #[.slice none 0 0, .bool false] 33)) := by
  refine ⟨⟨_, ?_, World.ownsRow_nil _ _ _ _⟩, ?_, ?_, (((Below.refl _ _).alloc (Nat.le_refl _) _).alloc (by simp) _).alloc (by simp; omega) _, by simp⟩
  · have h := heap_alloc_new ((w.alloc (.cells mv 28)).alloc (.cells #[.slice none 0 0, .bool false] 33)) (.cells #[.slice none 0 0, .bool false] 33)
    simpa using h
  · rw [Below.heap_alloc _ _ _ (by simp; omega), Below.heap_alloc _ _ _ (by simp)]; exact heap_alloc_new _ _
  · rw [Below.heap_alloc _ _ _ (by simp)]
    have h := heap_alloc_new (w.alloc (.cells mv 28)) (.cells #[.slice none 0 0, .bool false] 33)
    simpa using h
theorem FndI.done {w : World} {xs : List Nat} {e : Bool} {W : World} {v : Value} (f2 : W.ownsRow (w.heap.size + 3) 3 1 v xs.length (xs.map nv)) (f5 : Below w.heap.size w W) :
    TakenPost w (xs, e) (.returned (.agg #[v, .bool e])) ((W.setCell ⟨w.heap.size + 1, 0, none⟩ v).setCell ⟨w.heap.size + 1, 1, none⟩ (.bool e)) :=
  ⟨v, rfl, ints_of_own (ownsRow_setCell_below (ownsRow_setCell_below f2 (by simp) _) (by simp) _), (f5.setCell (by simp) _).setCell (by simp) _, fresh_of_own f2 (by omega)⟩
theorem FndI.set {w : World} {mv : Array Value} {W W3 : World} {ys : List Nat} {e : Bool} {v v2 : Value} (u : Bool) (f1 : W.heap[w.heap.size + 2]? = some (.cells #[v, .bool e] 33 (0, 0))) (f3 : W.heap[w.heap.size]? = some (.cells mv 28 (0, 0)))
    (f4 : W.heap[w.heap.size + 1]? = some (.cells #[.slice none 0 0, .bool false] 33 (0, 0))) (f6 : w.heap.size + 3 ≤ W.heap.size) (hb : Below (w.heap.size + 3) W W3) (h5 : Below w.heap.size w W3) (hown : W3.ownsRow (w.heap.size + 3) 3 1 v2 ys.length (ys.map nv)) :
    FndI w mv ys u ((W3.setCell ⟨w.heap.size + 2, 0, none⟩ v2).setCell ⟨w.heap.size + 2, 1, none⟩ (.bool u)) := by
  refine ⟨⟨v2, heap_set2 ((hb.block _ (by omega)).trans f1) _ _, ownsRow_setCell_below (ownsRow_setCell_below hown (by simp) _) (by simp) _⟩, ?_, ?_, (h5.setCell (by simp) _).setCell (by simp) _, by have := hb.size; simp [World.setCell]; omega⟩
  · rw [Below.heap_setCell _ _ _ _ (by simp), Below.heap_setCell _ _ _ _ (by simp)]; exact (hb.block _ (by omega)).trans f3
  · rw [Below.heap_setCell _ _ _ _ (by simp), Below.heap_setCell _ _ _ _ (by simp)]; exact (hb.block _ (by omega)).trans f4

set_option maxRecDepth 100000 in
set_option maxHeartbeats 8000000 in
theorem refFind21_any (k : Nat) (p : Option Addr) (cap : Nat) (l : List Rt) (w : World) (hl : Rts w k p l) (hok : ∀ r ∈ l, OkR k r) (hT : Tabs w)
    (dk : Nat) (hdk : dk < 14) (di : Int) (db : Int) (ds : ByteArray) (q : Option Addr) (m c : Nat) (id : Int) (tp : ByteArray) (at_ un : Int) (rp : ByteArray) (co pr hp : Int) (htp : tp.size ≤ 1048576) :
    Calls Tryd.prog 10 #[.slice p l.length cap, .agg #[.int .i64 id, .string tp, .int .i64 (dk : Nat), .int .i64 di, .int .u64 db, .string ds, .slice q m c, .int .i64 at_, .int .i64 un, .string rp, .int .i64 co, .int .i64 pr, .int .i64 hp]] w (TakenPost w (findR (agFrom k tp dk 0 l))) := by
  obtain ⟨PP, hPP⟩ : ∃ PP, TakenPost w (findR (agFrom k tp dk 0 l)) = PP := ⟨_, rfl⟩
  rw [hPP]
  have HPP := Lib.hid hPP
  have HR := Lib.hid hl
  have HT := Lib.hid hT
  have HOK := Lib.hid hok
  have hll := hl.1
  obtain ⟨i0, hi, hz0, hz1, hz2⟩ := info_parts info_int
  clear hPP hl hT hok
  go_enter Tryd.func10, Tryd.ntmps10
  go_wp2_with fail
  go_loopw [6, 7, 8] (fun ro _ _ wr => ∃ (n : Nat) (xs : List Nat) (e : Bool), ro = .int .i64 (n : Nat) ∧ Hid ((n = 0 ∧ xs = [] ∧ e = false) ∨ (n = 1 ∧ xs = pl false (agFrom k tp dk 0 l) ∧ e = false) ∨ (n = 2 ∧ pl false (agFrom k tp dk 0 l) = [] ∧ xs = pl true (agFrom k tp dk 0 l) ∧ e = !xs.isEmpty)) ∧ Hid (FndI w #[.int .i64 id, .string tp, .int .i64 (dk : Nat), .int .i64 di, .int .u64 db, .string ds, .slice q m c, .int .i64 at_, .int .i64 un, .string rp, .int .i64 co, .int .i64 pr, .int .i64 hp] xs e wr)) (fun ro _ _ _ => 2 - (intOf ro).toNat)
  case atStart => exact ⟨0, [], false, rfl, .inl ⟨rfl, rfl, rfl⟩, FndI.start w _⟩
  case round =>
    obtain ⟨n, xs, e, rfl, HN, HF⟩ := hrel
    obtain ⟨⟨v, f1, f2⟩, f3, f4, f5, f6⟩ := HF.out
    obtain ⟨p2, cap2, rfl, -⟩ := ints_of_own f2
    have c0 : wr.cell? ⟨w.heap.size + 2, 0, none⟩ = some (.slice p2 xs.length cap2) := cell_of_row wr _ 0 _ _ _ f1
    have c1 : wr.cell? ⟨w.heap.size + 2, 1, none⟩ = some (.bool e) := cell_of_row wr _ 1 _ _ _ f1
    have r0 : wr.cell? ⟨w.heap.size + 1, 0, none⟩ = some (.slice none 0 0) := cell_of_row wr _ 0 _ _ _ f4
    have r1 : wr.cell? ⟨w.heap.size + 1, 1, none⟩ = some (.bool false) := cell_of_row wr _ 1 _ _ _ f4
    have z0 := frz f1 0
    have z1 := frz f1 1
    have z2 := frz f4 0
    have z3 := frz f4 1
    have hs2 : w.heap.size + 2 < wr.heap.size := by omega
    rcases HN.out with ⟨rfl, rfl, rfl⟩ | ⟨rfl, hx, rfl⟩ | ⟨rfl, h0, hx, he⟩
    · clear HN
      go_wp2_with fail
      clear c0 c1 r0 r1 z0 z1 z2 z3 f1 f2 f3 f4 f5 f6 hs2
      go_loopw [7, 8, 21] (fun _ _ i W => ∃ (j : Nat) (ys : List Nat) (e2 : Bool), i = .int .i64 (j : Nat) ∧ j ≤ l.length ∧ Hid (pl false (agFrom k tp dk 0 l) = ys ++ pl false (agFrom k tp dk j (l.drop j))) ∧ Hid (e2 = (false && !ys.isEmpty)) ∧ Hid (FndI w #[.int .i64 id, .string tp, .int .i64 (dk : Nat), .int .i64 di, .int .u64 db, .string ds, .slice q m c, .int .i64 at_, .int .i64 un, .string rp, .int .i64 co, .int .i64 pr, .int .i64 hp] ys e2 W)) (fun _ _ i _ => l.length - (intOf i).toNat)
      case atStart => exact ⟨0, [], false, rfl, by omega, rfl, rfl, HF.out⟩
      case round =>
        obtain ⟨j, ys, e2, rfl, hj, HS, HE2, HG⟩ := hrel
        clear HF
        by_cases hlt : j < l.length
        · obtain ⟨⟨v, g1, g2⟩, g3, g4, g5, g6⟩ := HG.out
          obtain ⟨p3, cap3, rfl, -⟩ := ints_of_own g2
          have hys : ys.length ≤ 1048576 := by have h1 := congrArg List.length HS.out; have h2 := pl_len false (agFrom k tp dk 0 l); have h3 := agFrom_len k tp dk l 0; rw [List.length_append] at h1; omega
          obtain ⟨r, hr⟩ : ∃ r, l[j]? = some r := ⟨_, List.getElem?_eq_getElem hlt⟩
          obtain ⟨b, o, rfl, hc⟩ := (HR.out.below g5).2 (by omega)
          obtain ⟨op, num, p', n', c', q0, q1, q2, q3, q4, q5, hW⟩ := hc j r hr
          have hok1 := HOK.out r (List.mem_of_getElem? hr)
          have CM : Hid (∀ W, Below wr.heap.size wr W → Calls Tryd.prog 14 #[.string r.fi, .string tp] W (HoldPost W (matchB r.fi tp))) := fun W hb => refMatch_any valid_said r.fi tp W hok1.2 htp ((HT.out.below g5).below hb)
          have CT : Hid (∀ W, Below wr.heap.size wr W → Calls Tryd.prog 15 #[.agg #[.string r.fi, .int .i64 op, .int .i64 num, .slice p' n' c', .int .i64 r.hd, .bool r.el], .agg #[.int .i64 (dk : Nat), .int .i64 di, .int .u64 db, .string ds, .slice q m c]] W (HoldPost W (typedB k r.want dk))) := fun W hb => refTyped_any k r.want W op num p' n' c' (hW.below hb) hok1.1 r.fi r.hd r.el dk hdk di db ds q m c
          have m1 : wr.cell? ⟨w.heap.size, 1, none⟩ = some (.string tp) := cell_of_row wr _ 1 _ _ _ g3
          have m2 : wr.cell? ⟨w.heap.size, 2, none⟩ = some (.int .i64 (dk : Nat)) := cell_of_row wr _ 2 _ _ _ g3
          have m3 : wr.cell? ⟨w.heap.size, 3, none⟩ = some (.int .i64 di) := cell_of_row wr _ 3 _ _ _ g3
          have m4 : wr.cell? ⟨w.heap.size, 4, none⟩ = some (.int .u64 db) := cell_of_row wr _ 4 _ _ _ g3
          have m5 : wr.cell? ⟨w.heap.size, 5, none⟩ = some (.string ds) := cell_of_row wr _ 5 _ _ _ g3
          have m6 : wr.cell? ⟨w.heap.size, 6, none⟩ = some (.slice q m c) := cell_of_row wr _ 6 _ _ _ g3
          have HSN := Lib.hid (HS.out.trans (congrArg (fun z => ys ++ z) (pl_drop (k := k) (tp := tp) (dk := dk) hr false j)))
          have hlt' : (j : Int) < (l.length : Int) := by omega
          have hbl := World.block_lt_of_cell? wr _ q0
          have hw : w.heap.size < wr.heap.size := by omega
          have hwr : w.heap.size + 3 ≤ wr.heap.size := g6
          have G1 := Lib.hid g1
          have G2 := Lib.hid g2
          have G3 := Lib.hid g3
          have G4 := Lib.hid g4
          have G5 := Lib.hid g5
          have C0 := Lib.hid (show wr.cell? ⟨w.heap.size + 2, 0, none⟩ = some (.slice p3 ys.length cap3) from cell_of_row wr _ 0 _ _ _ g1)
          have C1 := Lib.hid (show wr.cell? ⟨w.heap.size + 2, 1, none⟩ = some (.bool e2) from cell_of_row wr _ 1 _ _ _ g1)
          clear hc hW hok1 g1 g2 g3 g4 g5 hr HS
          have hel : r.el = true ∨ r.el = false := by cases r.el <;> simp
          rcases hel with hel | hel
          · rw [hel] at q5 HSN
            clear CM CT hel
            go_wp2_with fail
            go_roundw
            case rel => exact ⟨j + 1, ys, e2, by go_num, by omega, HSN.out, HE2, HG.out.below ((Below.refl _ _).alloc (Nat.le_refl _) _)⟩
            case measure => simp [intOf]; omega
          · rw [hel] at q5 HSN CT
            clear hel
            have HX : Hid (∀ W, Below (wr.heap.size + 1) (wr.alloc (.cells #[.string r.fi, .int .i64 op, .int .i64 num, .slice p' n' c', .int .i64 r.hd, .bool false] 42)) W → W.cell? ⟨wr.heap.size, 0, none⟩ = some (.string r.fi) ∧ W.cell? ⟨wr.heap.size, 1, none⟩ = some (.int .i64 op) ∧ W.cell? ⟨wr.heap.size, 2, none⟩ = some (.int .i64 num) ∧ W.cell? ⟨wr.heap.size, 3, none⟩ = some (.slice p' n' c') ∧ W.cell? ⟨wr.heap.size, 4, none⟩ = some (.int .i64 r.hd) ∧ W.cell? ⟨wr.heap.size, 5, none⟩ = some (.bool false)) := fun W hb =>
              ⟨by rw [hb.cell (by simp)]; go_simp, by rw [hb.cell (by simp)]; go_simp, by rw [hb.cell (by simp)]; go_simp, by rw [hb.cell (by simp)]; go_simp, by rw [hb.cell (by simp)]; go_simp, by rw [hb.cell (by simp)]; go_simp⟩
            have HD : Hid (∀ W, Below wr.heap.size wr W → W.cell? ⟨w.heap.size, 2, none⟩ = some (.int .i64 (dk : Nat)) ∧ W.cell? ⟨w.heap.size, 3, none⟩ = some (.int .i64 di) ∧ W.cell? ⟨w.heap.size, 4, none⟩ = some (.int .u64 db) ∧ W.cell? ⟨w.heap.size, 5, none⟩ = some (.string ds) ∧ W.cell? ⟨w.heap.size, 6, none⟩ = some (.slice q m c)) := fun W hb =>
              ⟨(hb.cell hw).trans m2, (hb.cell hw).trans m3, (hb.cell hw).trans m4, (hb.cell hw).trans m5, (hb.cell hw).trans m6⟩
            go_wp2_with fail
            refine (CM.out _ (by exact (Below.refl _ _).alloc (Nat.le_refl _) _)).mono ?_
            rintro e' W1 ⟨rfl, hb1⟩
            have H1 : Hid (Below wr.heap.size wr W1) := ((Below.refl _ _).alloc (Nat.le_refl _) _).trans (hb1.mono (by simp))
            obtain ⟨a0, a1, a2, a3, a4, a5⟩ := HX.out W1 (by simpa using hb1)
            obtain ⟨b2, b3, b4, b5, b6⟩ := HD.out W1 H1.out
            have hs1 : wr.heap.size + 1 ≤ W1.heap.size := by have := hb1.size; simpa using this
            clear hb1 q0 q1 q2 q3 q4 q5 m1 m2 m3 m4 m5 m6
            cases hM : matchB r.fi tp with
            | false =>
              have hA : agB k tp dk r = false := by unfold agB; rw [hM]; rfl
              rw [hA] at HSN
              clear hM hA
              go_wp2_with fail
              go_roundw
              case rel => ((repeat apply Exists.intro); exact ⟨⟨j + 1, ys, e2, by go_num, by omega, HSN.out, HE2, HG.out.below H1.out⟩, rfl⟩)
              case measure => simp [intOf]; omega
            | true =>
              have hA : agB k tp dk r = typedB k r.want dk := by unfold agB; rw [hM]; rfl
              rw [hA] at HSN
              clear hM hA
              go_wp2_with fail
              refine (CT.out _ H1.out).mono ?_
              rintro e' W2 ⟨rfl, hb2⟩
              have H2 : Hid (Below wr.heap.size wr W2) := H1.out.trans (hb2.mono H1.out.size)
              have hs22 : wr.heap.size + 1 ≤ W2.heap.size := by have := hb2.size; omega
              clear hb2 a0 a1 a2 a3 a4 a5 b2 b3 b4 b5 b6
              cases hTY : typedB k r.want dk with
              | false =>
                rw [hTY] at HSN
                clear hTY
                go_wp2_with fail
                go_roundw
                case rel => ((repeat apply Exists.intro); exact ⟨⟨j + 1, ys, e2, by go_num, by omega, HSN.out, HE2, HG.out.below H2.out⟩, rfl⟩)
                case measure => simp [intOf]; omega
              | true =>
                rw [hTY] at HSN
                clear hTY
                have hB2 : w.heap.size + 2 < wr.heap.size := by omega
                have e0 := (H2.out.cell (p := ⟨w.heap.size + 2, 0, none⟩) hB2).trans C0.out
                have e1 := (H2.out.cell (p := ⟨w.heap.size + 2, 1, none⟩) hB2).trans C1.out
                have OWN := Lib.hid (own_below G2.out H2.out)
                have Z0 := Lib.hid ((H2.out.frozen (p := ⟨w.heap.size + 2, 0, none⟩) hB2).trans (frz G1.out 0))
                have Z1 := Lib.hid ((H2.out.frozen (p := ⟨w.heap.size + 2, 1, none⟩) hB2).trans (frz G1.out 1))
                go_wp2_with (at_builtin; refine wpList_append_own _ rfl (.tmp 45) (.tmp 47) 31 rfl (w.heap.size + 3) 3 i0 (.int .i64 0) 1 8 Tryd.underlying31 hi hz0 hz1 hz2 rfl (by decide) _ _ _ rfl (OWN.out.alloc _) ⟨W2.heap.size, 0, none⟩ 1 1 [nv j] rfl rfl (news_cell _ _ _) (fun x hx => by simp at hx; subst hx; rfl) (by unfold maxLen; omega) (by omega) (by simp; omega) ?_; intro v2 W3 hown2 hg2 hnil2; have HB3 := Lib.hid (((Below.refl (w.heap.size + 3) W2).alloc (by omega) _).grown hg2 (by simp; omega) (fun k hk => (OWN.out.lt k hk).1)); have hown3 : W3.ownsRow (w.heap.size + 3) 3 1 v2 (ys ++ [j]).length ((ys ++ [j]).map nv) := (by simpa using hown2); obtain ⟨p4, cap4, rfl, -⟩ := ints_of_own hown3; have OWN3 := Lib.hid hown3; have y0 := (HB3.out.frozen (p := ⟨w.heap.size + 2, 0, none⟩) (Nat.lt_succ_self _)).trans Z0.out; have y1 := (HB3.out.frozen (p := ⟨w.heap.size + 2, 1, none⟩) (Nat.lt_succ_self _)).trans Z1.out; have x0 := (HB3.out.cell (p := ⟨w.heap.size + 2, 0, none⟩) (Nat.lt_succ_self _)).trans e0; have x1 := (HB3.out.cell (p := ⟨w.heap.size + 2, 1, none⟩) (Nat.lt_succ_self _)).trans e1; clear hown2 hown3 hg2 hnil2)
                have HBB : Hid (Below (w.heap.size + 3) wr W3) := (H2.out.mono hwr).trans HB3.out
                have HB5 : Hid (Below w.heap.size w W3) := G5.out.trans (HBB.out.mono (by omega))
                have OWN4 : W3.ownsRow (w.heap.size + 3) 3 1 (.slice p4 (ys.length + 1) cap4) (ys ++ [j]).length ((ys ++ [j]).map nv) := by
                  have h := OWN3.out
                  rw [show Value.slice p4 (ys ++ [j]).length cap4 = Value.slice p4 (ys.length + 1) cap4 by simp] at h
                  exact h
                go_roundw
                case rel =>
                  (repeat apply Exists.intro)
                  exact ⟨⟨j + 1, ys ++ [j], false, by go_num, by omega, by rw [List.append_assoc]; exact HSN.out, (show false = (false && !(ys ++ [j]).isEmpty) by simp), FndI.set false G1.out G3.out G4.out hwr HBB.out HB5.out OWN4⟩, rfl⟩
                case measure => simp [intOf]; omega
        · obtain rfl : j = l.length := by omega
          have HY : Hid (ys = pl false (agFrom k tp dk 0 l)) := by show _ = _; have h := HS.out; rw [List.drop_length] at h; exact ((List.append_nil _).symm.trans h.symm)
          clear HS
          go_wp2_with fail
          go_roundw
          case rel => exact ⟨1, ys, e2, by go_num, .inr (.inl ⟨rfl, HY.out, HE2.out⟩), HG⟩
          case measure => simp [intOf]
    · clear HN
      by_cases h0 : pl false (agFrom k tp dk 0 l) = []
      · obtain rfl : xs = [] := hx.trans h0
        have H0 := Lib.hid h0
        clear h0 hx
        go_wp2_with fail
        clear c0 c1 r0 r1 z0 z1 z2 z3 f1 f2 f3 f4 f5 f6 hs2
        go_loopw [7, 8, 21] (fun _ _ i W => ∃ (j : Nat) (ys : List Nat) (e2 : Bool), i = .int .i64 (j : Nat) ∧ j ≤ l.length ∧ Hid (pl true (agFrom k tp dk 0 l) = ys ++ pl true (agFrom k tp dk j (l.drop j))) ∧ Hid (e2 = (true && !ys.isEmpty)) ∧ Hid (FndI w #[.int .i64 id, .string tp, .int .i64 (dk : Nat), .int .i64 di, .int .u64 db, .string ds, .slice q m c, .int .i64 at_, .int .i64 un, .string rp, .int .i64 co, .int .i64 pr, .int .i64 hp] ys e2 W)) (fun _ _ i _ => l.length - (intOf i).toNat)
        case atStart => exact ⟨0, [], false, rfl, by omega, rfl, rfl, HF.out⟩
        case round =>
          obtain ⟨j, ys, e2, rfl, hj, HS, HE2, HG⟩ := hrel
          clear HF
          by_cases hlt : j < l.length
          · obtain ⟨⟨v, g1, g2⟩, g3, g4, g5, g6⟩ := HG.out
            obtain ⟨p3, cap3, rfl, -⟩ := ints_of_own g2
            have hys : ys.length ≤ 1048576 := by have h1 := congrArg List.length HS.out; have h2 := pl_len true (agFrom k tp dk 0 l); have h3 := agFrom_len k tp dk l 0; rw [List.length_append] at h1; omega
            obtain ⟨r, hr⟩ : ∃ r, l[j]? = some r := ⟨_, List.getElem?_eq_getElem hlt⟩
            obtain ⟨b, o, rfl, hc⟩ := (HR.out.below g5).2 (by omega)
            obtain ⟨op, num, p', n', c', q0, q1, q2, q3, q4, q5, hW⟩ := hc j r hr
            have hok1 := HOK.out r (List.mem_of_getElem? hr)
            have CM : Hid (∀ W, Below wr.heap.size wr W → Calls Tryd.prog 14 #[.string r.fi, .string tp] W (HoldPost W (matchB r.fi tp))) := fun W hb => refMatch_any valid_said r.fi tp W hok1.2 htp ((HT.out.below g5).below hb)
            have CT : Hid (∀ W, Below wr.heap.size wr W → Calls Tryd.prog 15 #[.agg #[.string r.fi, .int .i64 op, .int .i64 num, .slice p' n' c', .int .i64 r.hd, .bool r.el], .agg #[.int .i64 (dk : Nat), .int .i64 di, .int .u64 db, .string ds, .slice q m c]] W (HoldPost W (typedB k r.want dk))) := fun W hb => refTyped_any k r.want W op num p' n' c' (hW.below hb) hok1.1 r.fi r.hd r.el dk hdk di db ds q m c
            have m1 : wr.cell? ⟨w.heap.size, 1, none⟩ = some (.string tp) := cell_of_row wr _ 1 _ _ _ g3
            have m2 : wr.cell? ⟨w.heap.size, 2, none⟩ = some (.int .i64 (dk : Nat)) := cell_of_row wr _ 2 _ _ _ g3
            have m3 : wr.cell? ⟨w.heap.size, 3, none⟩ = some (.int .i64 di) := cell_of_row wr _ 3 _ _ _ g3
            have m4 : wr.cell? ⟨w.heap.size, 4, none⟩ = some (.int .u64 db) := cell_of_row wr _ 4 _ _ _ g3
            have m5 : wr.cell? ⟨w.heap.size, 5, none⟩ = some (.string ds) := cell_of_row wr _ 5 _ _ _ g3
            have m6 : wr.cell? ⟨w.heap.size, 6, none⟩ = some (.slice q m c) := cell_of_row wr _ 6 _ _ _ g3
            have HSN := Lib.hid (HS.out.trans (congrArg (fun z => ys ++ z) (pl_drop (k := k) (tp := tp) (dk := dk) hr true j)))
            have hlt' : (j : Int) < (l.length : Int) := by omega
            have hbl := World.block_lt_of_cell? wr _ q0
            have hw : w.heap.size < wr.heap.size := by omega
            have hwr : w.heap.size + 3 ≤ wr.heap.size := g6
            have G1 := Lib.hid g1
            have G2 := Lib.hid g2
            have G3 := Lib.hid g3
            have G4 := Lib.hid g4
            have G5 := Lib.hid g5
            have C0 := Lib.hid (show wr.cell? ⟨w.heap.size + 2, 0, none⟩ = some (.slice p3 ys.length cap3) from cell_of_row wr _ 0 _ _ _ g1)
            have C1 := Lib.hid (show wr.cell? ⟨w.heap.size + 2, 1, none⟩ = some (.bool e2) from cell_of_row wr _ 1 _ _ _ g1)
            clear hc hW hok1 g1 g2 g3 g4 g5 hr HS
            have hel : r.el = false ∨ r.el = true := by cases r.el <;> simp
            rcases hel with hel | hel
            · rw [hel] at q5 HSN
              clear CM CT hel
              go_wp2_with fail
              go_roundw
              case rel => exact ⟨j + 1, ys, e2, by go_num, by omega, HSN.out, HE2, HG.out.below ((Below.refl _ _).alloc (Nat.le_refl _) _)⟩
              case measure => simp [intOf]; omega
            · rw [hel] at q5 HSN CT
              clear hel
              have HX : Hid (∀ W, Below (wr.heap.size + 1) (wr.alloc (.cells #[.string r.fi, .int .i64 op, .int .i64 num, .slice p' n' c', .int .i64 r.hd, .bool true] 42)) W → W.cell? ⟨wr.heap.size, 0, none⟩ = some (.string r.fi) ∧ W.cell? ⟨wr.heap.size, 1, none⟩ = some (.int .i64 op) ∧ W.cell? ⟨wr.heap.size, 2, none⟩ = some (.int .i64 num) ∧ W.cell? ⟨wr.heap.size, 3, none⟩ = some (.slice p' n' c') ∧ W.cell? ⟨wr.heap.size, 4, none⟩ = some (.int .i64 r.hd) ∧ W.cell? ⟨wr.heap.size, 5, none⟩ = some (.bool true)) := fun W hb =>
                ⟨by rw [hb.cell (by simp)]; go_simp, by rw [hb.cell (by simp)]; go_simp, by rw [hb.cell (by simp)]; go_simp, by rw [hb.cell (by simp)]; go_simp, by rw [hb.cell (by simp)]; go_simp, by rw [hb.cell (by simp)]; go_simp⟩
              have HD : Hid (∀ W, Below wr.heap.size wr W → W.cell? ⟨w.heap.size, 2, none⟩ = some (.int .i64 (dk : Nat)) ∧ W.cell? ⟨w.heap.size, 3, none⟩ = some (.int .i64 di) ∧ W.cell? ⟨w.heap.size, 4, none⟩ = some (.int .u64 db) ∧ W.cell? ⟨w.heap.size, 5, none⟩ = some (.string ds) ∧ W.cell? ⟨w.heap.size, 6, none⟩ = some (.slice q m c)) := fun W hb =>
                ⟨(hb.cell hw).trans m2, (hb.cell hw).trans m3, (hb.cell hw).trans m4, (hb.cell hw).trans m5, (hb.cell hw).trans m6⟩
              go_wp2_with fail
              refine (CM.out _ (by exact (Below.refl _ _).alloc (Nat.le_refl _) _)).mono ?_
              rintro e' W1 ⟨rfl, hb1⟩
              have H1 : Hid (Below wr.heap.size wr W1) := ((Below.refl _ _).alloc (Nat.le_refl _) _).trans (hb1.mono (by simp))
              obtain ⟨a0, a1, a2, a3, a4, a5⟩ := HX.out W1 (by simpa using hb1)
              obtain ⟨b2, b3, b4, b5, b6⟩ := HD.out W1 H1.out
              have hs1 : wr.heap.size + 1 ≤ W1.heap.size := by have := hb1.size; simpa using this
              clear hb1 q0 q1 q2 q3 q4 q5 m1 m2 m3 m4 m5 m6
              cases hM : matchB r.fi tp with
              | false =>
                have hA : agB k tp dk r = false := by unfold agB; rw [hM]; rfl
                rw [hA] at HSN
                clear hM hA
                go_wp2_with fail
                go_roundw
                case rel => ((repeat apply Exists.intro); exact ⟨⟨j + 1, ys, e2, by go_num, by omega, HSN.out, HE2, HG.out.below H1.out⟩, rfl⟩)
                case measure => simp [intOf]; omega
              | true =>
                have hA : agB k tp dk r = typedB k r.want dk := by unfold agB; rw [hM]; rfl
                rw [hA] at HSN
                clear hM hA
                go_wp2_with fail
                refine (CT.out _ H1.out).mono ?_
                rintro e' W2 ⟨rfl, hb2⟩
                have H2 : Hid (Below wr.heap.size wr W2) := H1.out.trans (hb2.mono H1.out.size)
                have hs22 : wr.heap.size + 1 ≤ W2.heap.size := by have := hb2.size; omega
                clear hb2 a0 a1 a2 a3 a4 a5 b2 b3 b4 b5 b6
                cases hTY : typedB k r.want dk with
                | false =>
                  rw [hTY] at HSN
                  clear hTY
                  go_wp2_with fail
                  go_roundw
                  case rel => ((repeat apply Exists.intro); exact ⟨⟨j + 1, ys, e2, by go_num, by omega, HSN.out, HE2, HG.out.below H2.out⟩, rfl⟩)
                  case measure => simp [intOf]; omega
                | true =>
                  rw [hTY] at HSN
                  clear hTY
                  have hB2 : w.heap.size + 2 < wr.heap.size := by omega
                  have e0 := (H2.out.cell (p := ⟨w.heap.size + 2, 0, none⟩) hB2).trans C0.out
                  have e1 := (H2.out.cell (p := ⟨w.heap.size + 2, 1, none⟩) hB2).trans C1.out
                  have OWN := Lib.hid (own_below G2.out H2.out)
                  have Z0 := Lib.hid ((H2.out.frozen (p := ⟨w.heap.size + 2, 0, none⟩) hB2).trans (frz G1.out 0))
                  have Z1 := Lib.hid ((H2.out.frozen (p := ⟨w.heap.size + 2, 1, none⟩) hB2).trans (frz G1.out 1))
                  go_wp2_with (at_builtin; refine wpList_append_own _ rfl (.tmp 45) (.tmp 47) 31 rfl (w.heap.size + 3) 3 i0 (.int .i64 0) 1 8 Tryd.underlying31 hi hz0 hz1 hz2 rfl (by decide) _ _ _ rfl (OWN.out.alloc _) ⟨W2.heap.size, 0, none⟩ 1 1 [nv j] rfl rfl (news_cell _ _ _) (fun x hx => by simp at hx; subst hx; rfl) (by unfold maxLen; omega) (by omega) (by simp; omega) ?_; intro v2 W3 hown2 hg2 hnil2; have HB3 := Lib.hid (((Below.refl (w.heap.size + 3) W2).alloc (by omega) _).grown hg2 (by simp; omega) (fun k hk => (OWN.out.lt k hk).1)); have hown3 : W3.ownsRow (w.heap.size + 3) 3 1 v2 (ys ++ [j]).length ((ys ++ [j]).map nv) := (by simpa using hown2); obtain ⟨p4, cap4, rfl, -⟩ := ints_of_own hown3; have OWN3 := Lib.hid hown3; have y0 := (HB3.out.frozen (p := ⟨w.heap.size + 2, 0, none⟩) (Nat.lt_succ_self _)).trans Z0.out; have y1 := (HB3.out.frozen (p := ⟨w.heap.size + 2, 1, none⟩) (Nat.lt_succ_self _)).trans Z1.out; have x0 := (HB3.out.cell (p := ⟨w.heap.size + 2, 0, none⟩) (Nat.lt_succ_self _)).trans e0; have x1 := (HB3.out.cell (p := ⟨w.heap.size + 2, 1, none⟩) (Nat.lt_succ_self _)).trans e1; clear hown2 hown3 hg2 hnil2)
                  have HBB : Hid (Below (w.heap.size + 3) wr W3) := (H2.out.mono hwr).trans HB3.out
                  have HB5 : Hid (Below w.heap.size w W3) := G5.out.trans (HBB.out.mono (by omega))
                  have OWN4 : W3.ownsRow (w.heap.size + 3) 3 1 (.slice p4 (ys.length + 1) cap4) (ys ++ [j]).length ((ys ++ [j]).map nv) := by
                    have h := OWN3.out
                    rw [show Value.slice p4 (ys ++ [j]).length cap4 = Value.slice p4 (ys.length + 1) cap4 by simp] at h
                    exact h
                  go_roundw
                  case rel =>
                    (repeat apply Exists.intro)
                    exact ⟨⟨j + 1, ys ++ [j], true, by go_num, by omega, by rw [List.append_assoc]; exact HSN.out, (show true = (true && !(ys ++ [j]).isEmpty) by simp), FndI.set true G1.out G3.out G4.out hwr HBB.out HB5.out OWN4⟩, rfl⟩
                  case measure => simp [intOf]; omega
          · obtain rfl : j = l.length := by omega
            have HY : Hid (ys = pl true (agFrom k tp dk 0 l)) := by show _ = _; have h := HS.out; rw [List.drop_length] at h; exact ((List.append_nil _).symm.trans h.symm)
            clear HS
            go_wp2_with fail
            go_roundw
            case rel => exact ⟨2, ys, e2, by go_num, .inr (.inr ⟨rfl, H0.out, HY.out, by have h := HE2.out; rw [Bool.true_and] at h; exact h⟩), HG⟩
            case measure => simp [intOf]
      · have HE : Hid (findR (agFrom k tp dk 0 l) = (xs, false)) := by show _ = _; rw [hx]; exact if_neg h0
        have hlen : ¬ ((xs.length : Int) = 0) := by rw [hx]; intro h; exact h0 (List.length_eq_zero_iff.1 (by omega))
        have F2 := Lib.hid f2
        have F4 := Lib.hid f4
        have F5 := Lib.hid f5
        clear h0 hx f1 f2 f3 f4 f5
        go_wp2_with fail
        refine bodyPost_ret (resTk (heap_set2 F4.out _ _) rfl _ rfl) rfl ?_
        rw [← HPP.out, HE.out]
        exact FndI.done F2.out F5.out
    · clear HN
      subst hx
      subst he
      have HE : Hid (findR (agFrom k tp dk 0 l) = (pl true (agFrom k tp dk 0 l), !(pl true (agFrom k tp dk 0 l)).isEmpty)) := if_pos h0
      have F2 := Lib.hid f2
      have F4 := Lib.hid f4
      have F5 := Lib.hid f5
      clear h0 f1 f2 f3 f4 f5
      go_wp2_with fail
      refine bodyPost_ret (resTk (heap_set2 F4.out _ _) rfl _ rfl) rfl ?_
      rw [← HPP.out, HE.out]
      exact FndI.done F2.out F5.out
end Go.Proofs.YtpgdiekpeceicaaDoor
