/- STATS: rows of events appended; published. -/
import Derived.Test.YtejehjlegfpgbaaStatsLawB
import Derived.Test.YtejehjlegfpgbaaStatsSum
namespace Go.Proofs.Ytejehjlegfpgbaa
open Go Go.RowKit Go.Maps

def ezero : Array Value := #[.int .i64 0, .int .i64 0, .int .i64 0, .int .i64 0, .int .i64 0, .int .i64 0, .int .i64 0, .int .i64 0, .int .i64 0, .bool false, .int .i64 0, .int .i64 0, .int .u64 0, .string ⟨#[]⟩, .slice none 0 0]
theorem info_event : (Try.prog.info? 50).map (fun i => (i.zero, i.size, i.bytes)) = some (some (.agg ezero), 15, 144) := by kernel_rfl
theorem flat_len (l : List Ev) : (l.flatMap ec).length = l.length * 15 := by
  induction l with
  | nil => rfl
  | cons a l ih => rw [List.flatMap_cons, List.length_append, ih]; have : (ec a).length = 15 := rfl; simp only [List.length_cons]; omega
theorem evs_of_own {w : World} {base : Nat} {v : Value} {l : List Ev} (h : w.ownsRow base 50 15 v l.length (l.flatMap ec)) : Evs w v l := by
  rcases h.2 with ⟨rfl, h0⟩ | ⟨g, cap, cur, rfl, hb, hg, h1, h2, h3, h4⟩
  · exact ⟨none, 0, by rw [h0], by omega, by omega, fun h => by omega⟩
  · refine ⟨_, cap, rfl, h1, by unfold maxLen at h2; omega, fun _ => ⟨g, 0, rfl, fun j e hj i u hu => ?_⟩⟩
    have hj' : j < l.length := (List.getElem?_eq_some_iff.1 hj).1
    have hi' : i < 15 := (List.getElem?_eq_some_iff.1 hu).1
    have := h.cellAt (j * 15 + i) (by omega)
    rw [Nat.zero_add, this]
    exact flat_get l j e i u hj hu
theorem run_append_evs (w : World) (base : Nat) (ty : TypeId) (v : Value) (m : List Ev) (hown : w.ownsRow base 50 15 v m.length (m.flatMap ec)) (src : Value) (l : List Ev) (hS : Evs w src l) (hn : m.length + l.length ≤ 2097152) (hbase : base ≤ w.heap.size) :
    ∃ v' w', (Builtin.append_ #[22, 22] ty #[v, src]).run Try.prog w = .ok v' w' ∧ w'.ownsRow base 50 15 v' (m ++ l).length ((m ++ l).flatMap ec) ∧ w.grownBy w' v.ownBlock := by
  obtain ⟨i, hi, hz0, hz1, hz2⟩ := info_parts info_event
  obtain ⟨p, cap, rfl, hc1, hc2, hcells⟩ := hS
  by_cases hl : l = []
  · subst hl
    refine ⟨v, w, ?_, by simpa using hown, ⟨rfl, rfl, rfl, Nat.le_refl _, fun _ _ _ => rfl⟩⟩
    rcases hown.2 with ⟨rfl, hm0⟩ | ⟨g, cp, cur, rfl, hb, hg, hnc, hm, hs, ht⟩
    · cases p <;> simp [Builtin.append_, run_underlying Try.underlying22, sizeOf, typeInfo, hi, Builtin.lenOf, Builtin.firstCells, loadCells, loadCellsFrom]
    · cases p <;> simp [Builtin.append_, run_underlying Try.underlying22, sizeOf, typeInfo, hi, Builtin.lenOf, Builtin.firstCells, loadCells, loadCellsFrom, hnc, storeCells]
  · obtain ⟨b, o, rfl, hcell⟩ := hcells (List.length_pos_iff.2 hl)
    obtain ⟨v', w', h1, h2, h3, _⟩ := run_append_own (P := Try.prog) w base 22 ty 50 i (.agg ezero) 15 144 Try.underlying22 hi hz0 hz1 hz2 rfl (by decide) v m.length (m.flatMap ec) hown ⟨b, o, none⟩ l.length cap (l.flatMap ec) (flat_len l)
      (fun j u hj => by
        have hadd : (⟨b, o, none⟩ : Addr).add j = ⟨b, o + j, none⟩ := by unfold Addr.add; split <;> simp_all
        rw [hadd]
        have hjl := (List.getElem?_eq_some_iff.1 hj).1
        rw [flat_len] at hjl
        obtain ⟨e, he⟩ : ∃ e, l[j / 15]? = some e := ⟨_, List.getElem?_eq_getElem (by omega)⟩
        have hlt : j % 15 < (ec e).length := Nat.mod_lt _ (by decide)
        have hu := flat_get l (j / 15) e (j % 15) _ he (List.getElem?_eq_getElem hlt)
        have hc := hcell (j / 15) e he (j % 15) _ (List.getElem?_eq_getElem hlt)
        have ej : j / 15 * 15 + j % 15 = j := by omega
        rw [ej] at hu hc
        rw [hj] at hu
        injection hu with hu
        rw [hu]; exact hc)
      (fun u hu => by
        obtain ⟨e, _, he⟩ := List.mem_flatMap.1 hu
        simp only [ec, List.mem_cons, List.not_mem_nil, or_false] at he
        rcases he with rfl | rfl | rfl | rfl | rfl | rfl | rfl | rfl | rfl | rfl | rfl | rfl | rfl | rfl | rfl <;> rfl) (by unfold maxLen; omega) (by omega) hbase
    refine ⟨v', w', h1, ?_, h3⟩
    rw [List.length_append, List.flatMap_append]; exact h2
theorem wpList_append_evs {ops : Array Oper} {rest : List Oper} {o : Oper} {a : Act} {Q : Exit → Act → World → Prop} (w : World) (hgd : o.guard = none) (s x : Operand)
    (ho : o.op = .call { callee := .builtin .append, args := #[s, x], argTypes := #[22, 22] })
    (base : Nat) (v : Value) (m : List Ev) (hs : a.eval s = v) (hown : w.ownsRow base 50 15 v m.length (m.flatMap ec)) (src : Value) (hx : a.eval x = src) (l : List Ev) (hS : Evs w src l)
    (hn : m.length + l.length ≤ 2097152) (hbase : base ≤ w.heap.size)
    (h : ∀ v' w', w'.ownsRow base 50 15 v' (m ++ l).length ((m ++ l).flatMap ec) → w.grownBy w' v.ownBlock → wpList Try.prog ops Q rest (a.put o.dst v') w') : wpList Try.prog ops Q (o :: rest) a w := by
  refine wpList_plain hgd fun K hK => ?_
  obtain ⟨v', w', hr, h2, h3⟩ := run_append_evs w base o.type v m hown src l hS hn hbase
  unfold Oper.wp execOp
  simp only [ho, resolve, invoke, builtin, Sem.run_bind, Sem.run_pure, Result.andThen_ok, List.map_toArray, List.map_cons, List.map_nil, hs, hx, hr]
  exact hK _ _ (h v' w' h2 h3)

theorem evs_cells {w : World} {p : Option Addr} {n cap : Nat} {l : List Ev} (h : Evs w (.slice p n cap) l) : Hid (∀ wr, (∃ q, wr = w.drewN q) → ∀ (j : Nat) (e : Ev), l[j]? = some e → ∃ b o, p = some ⟨b, o, none⟩ ∧ wr.cell? ⟨b, o + j * 15, none⟩ = some (.int .i64 e.k) ∧ wr.cell? ⟨b, o + j * 15 + 2, none⟩ = some (.int .i64 e.i)) := fun wr hw j e hj => by
  obtain ⟨b, o, cap', e1, hbl, hc⟩ := h.all15 (by have := (List.getElem?_eq_some_iff.1 hj).1; omega)
  injection e1 with e1
  subst e1
  obtain ⟨c0, c1, c2, -⟩ := hc j e hj
  obtain ⟨q, rfl⟩ := hw
  exact ⟨b, o, rfl, c0, c2⟩
set_option maxRecDepth 100000 in
set_option maxHeartbeats 8000000 in
theorem pub_true {w : World} (l : List Ev) {v : Value} (hV : Evs w v l) (hl : l.length ≤ 1048576) (h : PubL l) : Calls Try.prog 16 #[v] w (QuietTo w (.bool true)) := by
  have HOK : Hid (∀ (i : Nat) (x : Ev), i < l.length → l[i]? = some x → x.k = 7 → pubF (l.take i) x.i ≠ none) := fun i x _ h1 h2 => h i x h1 h2
  have ⟨p, cap, hv, k1, k2, _⟩ := hV
  subst hv
  have HC := evs_cells hV
  obtain ⟨PP, hPP⟩ : ∃ PP, QuietTo w (.bool true) = PP := ⟨_, rfl⟩
  rw [hPP]
  have HPP := Lib.hid hPP
  clear hPP hV h
  go_enter Try.func16, Try.ntmps16
  go_wp2
  go_loopw [3] (fun i wr => ∃ k : Nat, i = .int .i64 (k : Nat) ∧ k ≤ l.length ∧ ∃ q, wr = w.drewN q) (fun i _ => l.length + 1 - (intOf i).toNat)
  case atStart => exact ⟨0, rfl, by omega, 0, rfl⟩
  case round =>
    obtain ⟨k, rfl, hk, hw⟩ := hrel
    have HW := Lib.hid hw
    obtain ⟨wo, hwo⟩ : ∃ wo : World, wo = wr := ⟨_, rfl⟩
    rw [← hwo] at hw HW ⊢
    clear hwo
    by_cases hlt : k < l.length
    · obtain ⟨e, he⟩ : ∃ e, l[k]? = some e := ⟨_, List.getElem?_eq_getElem (by omega)⟩
      have HE := Lib.hid he
      obtain ⟨b, o, rfl, d1, d2⟩ := HC.out wo hw k e he
      have g4 : (k : Int) < (l.length : Int) := by omega
      by_cases h7 : e.k = 7
      · have b7 : (e.k != 7) = false := by simpa using h7
        have HB : Hid ((pubF (l.take k) e.i).isSome = true) := by
          have := HOK.out k e hlt he h7
          cases hp : pubF (l.take k) e.i with
          | none => exact absurd hp this
          | some t => rfl
        clear h7 he hw
        go_wp2
        go_loopw [4, 5] (fun f i wr2 => ∃ j : Nat, i = .int .i64 (j : Nat) ∧ j ≤ k ∧ f = .bool (pubF (l.take j) e.i).isSome ∧ ∃ q, wr2 = w.drewN q) (fun _ i _ => k - (intOf i).toNat)
        case atStart => exact ⟨0, rfl, by omega, rfl, HW.out⟩
        case round =>
          obtain ⟨j, rfl, hj, rfl, hw2⟩ := hrel
          have HW2 := Lib.hid hw2
          by_cases hjk : j < k
          · obtain ⟨y, hy⟩ : ∃ y, l[j]? = some y := ⟨_, List.getElem?_eq_getElem (by omega)⟩
            obtain ⟨b2, o2, e2, c1, c2⟩ := HC.out wr hw2 j y hy
            injection e2 with e2
            injection e2 with e2 e3
            subst e2; subst e3
            obtain ⟨b3, o3, e2, c3, c4⟩ := HC.out wr hw2 k e HE.out
            injection e2 with e2
            injection e2 with e2 e3
            subst e2; subst e3
            have HS := Lib.hid (pubF_snoc l j y hy e.i)
            have g5 : (j : Int) < (k : Int) := by omega
            have g6 : (j : Int) < (l.length : Int) := by omega
            clear hy hw2 c3
            cases hB : (pubF (l.take j) e.i).isSome with
            | true =>
              have HBj := Lib.hid hB
              clear hB
              go_wp2
              go_quiet (fail)
              go_wp2
              go_roundw
              case rel =>
                refine ⟨j + 1, by go_num, by omega, ?_, draws_more HW2.out _⟩
                rw [HS.out]
                split
                · rfl
                · rw [HBj.out]
              case measure => simp [intOf]; omega
            | false =>
              have HBj := Lib.hid hB
              clear hB
              by_cases h1 : y.k = 1
              · have b1 : (y.k == 1) = true := beq_iff_eq.2 h1
                have H1 := Lib.hid h1
                by_cases h2 : y.i = e.i
                · have b2 : (y.i == e.i) = true := beq_iff_eq.2 h2
                  have H2 := Lib.hid h2
                  clear h1 h2
                  go_wp2
                  go_quiet (fail)
                  go_wp2
                  go_roundw
                  case rel => exact ⟨j + 1, by go_num, by omega, by rw [HS.out, if_pos ⟨H1.out, H2.out⟩]; rfl, draws_more HW2.out _⟩
                  case measure => simp [intOf]; omega
                · have b2 : (y.i == e.i) = false := beq_eq_false_iff_ne.2 h2
                  have H2 := Lib.hid h2
                  clear h1 h2
                  go_wp2
                  go_quiet (fail)
                  go_wp2
                  go_roundw
                  case rel => exact ⟨j + 1, by go_num, by omega, by rw [HS.out, if_neg (fun h => H2.out h.2), HBj.out], draws_more HW2.out _⟩
                  case measure => simp [intOf]; omega
              · have b1 : (y.k == 1) = false := beq_eq_false_iff_ne.2 h1
                have H1 := Lib.hid h1
                clear h1
                go_wp2
                go_quiet (fail)
                go_wp2
                go_roundw
                case rel => exact ⟨j + 1, by go_num, by omega, by rw [HS.out, if_neg (fun h => H1.out h.1), HBj.out], draws_more HW2.out _⟩
                case measure => simp [intOf]; omega
          · obtain rfl : j = k := by omega
            rw [HB.out]
            clear hw2
            go_wp2
            go_roundw
            case rel => exact ⟨j + 1, by go_num, by omega, HW2.out⟩
            case measure => simp [intOf]; omega
      · have b7 : (e.k != 7) = true := by simpa using h7
        clear h7 he hw
        go_wp2
        go_roundw
        case rel => exact ⟨k + 1, by go_num, by omega, HW.out⟩
        case measure => simp [intOf]; omega
    · obtain rfl : k = l.length := by omega
      clear hw
      go_wp2
      rw [← HPP.out]
      exact ⟨rfl, HW.out⟩
set_option maxRecDepth 100000 in
set_option maxHeartbeats 8000000 in
theorem pub_false {w : World} (l : List Ev) {v : Value} (hV : Evs w v l) (_hl : l.length ≤ 1048576) (h : ¬ PubL l) : Calls Try.prog 16 #[v] w (QuietTo w (.bool false)) := by
  obtain ⟨n0, e0, hn0, h70, hp0, hok⟩ := pub_bad h
  have hnl := (List.getElem?_eq_some_iff.1 hn0).1
  have HOK := Lib.hid hok
  have HN := Lib.hid hn0
  have H70 := Lib.hid h70
  have HP0 := Lib.hid hp0
  have ⟨p, cap, hv, k1, k2, _⟩ := hV
  subst hv
  have HC := evs_cells hV
  obtain ⟨PP, hPP⟩ : ∃ PP, QuietTo w (.bool false) = PP := ⟨_, rfl⟩
  rw [hPP]
  have HPP := Lib.hid hPP
  clear hPP hV h hok hn0 h70 hp0
  go_enter Try.func16, Try.ntmps16
  go_wp2
  go_loopw [3] (fun i wr => ∃ k : Nat, i = .int .i64 (k : Nat) ∧ k ≤ n0 ∧ ∃ q, wr = w.drewN q) (fun i _ => n0 + 1 - (intOf i).toNat)
  case atStart => exact ⟨0, rfl, by omega, 0, rfl⟩
  case round =>
    obtain ⟨k, rfl, hk, hw⟩ := hrel
    have HW := Lib.hid hw
    obtain ⟨wo, hwo⟩ : ∃ wo : World, wo = wr := ⟨_, rfl⟩
    rw [← hwo] at hw HW ⊢
    clear hwo
    by_cases hlt : k < n0
    · obtain ⟨e, he⟩ : ∃ e, l[k]? = some e := ⟨_, List.getElem?_eq_getElem (by omega)⟩
      have HE := Lib.hid he
      obtain ⟨b, o, rfl, d1, d2⟩ := HC.out wo hw k e he
      have g4 : (k : Int) < (l.length : Int) := by omega
      by_cases h7 : e.k = 7
      · have b7 : (e.k != 7) = false := by simpa using h7
        have HB : Hid ((pubF (l.take k) e.i).isSome = true) := by
          have := HOK.out k e hlt he h7
          cases hp : pubF (l.take k) e.i with
          | none => exact absurd hp this
          | some t => rfl
        clear h7 he hw
        go_wp2
        go_loopw [4, 5] (fun f i wr2 => ∃ j : Nat, i = .int .i64 (j : Nat) ∧ j ≤ k ∧ f = .bool (pubF (l.take j) e.i).isSome ∧ ∃ q, wr2 = w.drewN q) (fun _ i _ => k - (intOf i).toNat)
        case atStart => exact ⟨0, rfl, by omega, rfl, HW.out⟩
        case round =>
          obtain ⟨j, rfl, hj, rfl, hw2⟩ := hrel
          have HW2 := Lib.hid hw2
          by_cases hjk : j < k
          · obtain ⟨y, hy⟩ : ∃ y, l[j]? = some y := ⟨_, List.getElem?_eq_getElem (by omega)⟩
            obtain ⟨b2, o2, e2, c1, c2⟩ := HC.out wr hw2 j y hy
            injection e2 with e2
            injection e2 with e2 e3
            subst e2; subst e3
            obtain ⟨b3, o3, e2, c3, c4⟩ := HC.out wr hw2 k e HE.out
            injection e2 with e2
            injection e2 with e2 e3
            subst e2; subst e3
            have HS := Lib.hid (pubF_snoc l j y hy e.i)
            have g5 : (j : Int) < (k : Int) := by omega
            have g6 : (j : Int) < (l.length : Int) := by omega
            clear hy hw2 c3
            cases hB : (pubF (l.take j) e.i).isSome with
            | true =>
              have HBj := Lib.hid hB
              clear hB
              go_wp2
              go_quiet (fail)
              go_wp2
              go_roundw
              case rel =>
                refine ⟨j + 1, by go_num, by omega, ?_, draws_more HW2.out _⟩
                rw [HS.out]
                split
                · rfl
                · rw [HBj.out]
              case measure => simp [intOf]; omega
            | false =>
              have HBj := Lib.hid hB
              clear hB
              by_cases h1 : y.k = 1
              · have b1 : (y.k == 1) = true := beq_iff_eq.2 h1
                have H1 := Lib.hid h1
                by_cases h2 : y.i = e.i
                · have b2 : (y.i == e.i) = true := beq_iff_eq.2 h2
                  have H2 := Lib.hid h2
                  clear h1 h2
                  go_wp2
                  go_quiet (fail)
                  go_wp2
                  go_roundw
                  case rel => exact ⟨j + 1, by go_num, by omega, by rw [HS.out, if_pos ⟨H1.out, H2.out⟩]; rfl, draws_more HW2.out _⟩
                  case measure => simp [intOf]; omega
                · have b2 : (y.i == e.i) = false := beq_eq_false_iff_ne.2 h2
                  have H2 := Lib.hid h2
                  clear h1 h2
                  go_wp2
                  go_quiet (fail)
                  go_wp2
                  go_roundw
                  case rel => exact ⟨j + 1, by go_num, by omega, by rw [HS.out, if_neg (fun h => H2.out h.2), HBj.out], draws_more HW2.out _⟩
                  case measure => simp [intOf]; omega
              · have b1 : (y.k == 1) = false := beq_eq_false_iff_ne.2 h1
                have H1 := Lib.hid h1
                clear h1
                go_wp2
                go_quiet (fail)
                go_wp2
                go_roundw
                case rel => exact ⟨j + 1, by go_num, by omega, by rw [HS.out, if_neg (fun h => H1.out h.1), HBj.out], draws_more HW2.out _⟩
                case measure => simp [intOf]; omega
          · obtain rfl : j = k := by omega
            rw [HB.out]
            clear hw2
            go_wp2
            go_roundw
            case rel => exact ⟨j + 1, by go_num, by omega, HW2.out⟩
            case measure => simp [intOf]; omega
      · have b7 : (e.k != 7) = true := by simpa using h7
        clear h7 he hw
        go_wp2
        go_roundw
        case rel => exact ⟨k + 1, by go_num, by omega, HW.out⟩
        case measure => simp [intOf]; omega
    · obtain rfl : k = n0 := by omega
      have he := HN.out
      have HE := Lib.hid he
      obtain ⟨e, hee⟩ : ∃ e, e0 = e := ⟨_, rfl⟩
      rw [hee] at he HE
      have HB : Hid ((pubF (l.take k) e.i).isSome = false) := by rw [← hee, HP0.out]; rfl
      have b7 : (e.k != 7) = false := by rw [← hee]; have := H70.out; simpa using this
      obtain ⟨b, o, rfl, d1, d2⟩ := HC.out wo hw k e he
      have g4 : (k : Int) < (l.length : Int) := by omega
      clear he hw hee
      go_wp2
      go_loopw [4, 5] (fun f i wr2 => ∃ j : Nat, i = .int .i64 (j : Nat) ∧ j ≤ k ∧ f = .bool (pubF (l.take j) e.i).isSome ∧ ∃ q, wr2 = w.drewN q) (fun _ i _ => k - (intOf i).toNat)
      case atStart => exact ⟨0, rfl, by omega, rfl, HW.out⟩
      case round =>
        obtain ⟨j, rfl, hj, rfl, hw2⟩ := hrel
        have HW2 := Lib.hid hw2
        by_cases hjk : j < k
        · obtain ⟨y, hy⟩ : ∃ y, l[j]? = some y := ⟨_, List.getElem?_eq_getElem (by omega)⟩
          obtain ⟨b2, o2, e2, c1, c2⟩ := HC.out wr hw2 j y hy
          injection e2 with e2
          injection e2 with e2 e3
          subst e2; subst e3
          obtain ⟨b3, o3, e2, c3, c4⟩ := HC.out wr hw2 k e HE.out
          injection e2 with e2
          injection e2 with e2 e3
          subst e2; subst e3
          have HS := Lib.hid (pubF_snoc l j y hy e.i)
          have g5 : (j : Int) < (k : Int) := by omega
          have g6 : (j : Int) < (l.length : Int) := by omega
          clear hy hw2 c3
          cases hB : (pubF (l.take j) e.i).isSome with
          | true =>
            have HBj := Lib.hid hB
            clear hB
            go_wp2
            go_quiet (fail)
            go_wp2
            go_roundw
            case rel =>
              refine ⟨j + 1, by go_num, by omega, ?_, draws_more HW2.out _⟩
              rw [HS.out]
              split
              · rfl
              · rw [HBj.out]
            case measure => simp [intOf]; omega
          | false =>
            have HBj := Lib.hid hB
            clear hB
            by_cases h1 : y.k = 1
            · have b1 : (y.k == 1) = true := beq_iff_eq.2 h1
              have H1 := Lib.hid h1
              by_cases h2 : y.i = e.i
              · have b2 : (y.i == e.i) = true := beq_iff_eq.2 h2
                have H2 := Lib.hid h2
                clear h1 h2
                go_wp2
                go_quiet (fail)
                go_wp2
                go_roundw
                case rel => exact ⟨j + 1, by go_num, by omega, by rw [HS.out, if_pos ⟨H1.out, H2.out⟩]; rfl, draws_more HW2.out _⟩
                case measure => simp [intOf]; omega
              · have b2 : (y.i == e.i) = false := beq_eq_false_iff_ne.2 h2
                have H2 := Lib.hid h2
                clear h1 h2
                go_wp2
                go_quiet (fail)
                go_wp2
                go_roundw
                case rel => exact ⟨j + 1, by go_num, by omega, by rw [HS.out, if_neg (fun h => H2.out h.2), HBj.out], draws_more HW2.out _⟩
                case measure => simp [intOf]; omega
            · have b1 : (y.k == 1) = false := beq_eq_false_iff_ne.2 h1
              have H1 := Lib.hid h1
              clear h1
              go_wp2
              go_quiet (fail)
              go_wp2
              go_roundw
              case rel => exact ⟨j + 1, by go_num, by omega, by rw [HS.out, if_neg (fun h => H1.out h.1), HBj.out], draws_more HW2.out _⟩
              case measure => simp [intOf]; omega
        · obtain rfl : j = k := by omega
          rw [HB.out]
          clear hw2
          go_wp2
          rw [← HPP.out]
          exact ⟨rfl, HW2.out⟩
end Go.Proofs.Ytejehjlegfpgbaa
