/- ROUTE: the law RouteTotal. -/
import Derived.Test.YtpgdiekpeceicaaDoorRouteAll
import Derived.Test.YtpgdiekpeceicaaDoorRouteLawA
namespace Go.Proofs.YtpgdiekpeceicaaDoor
open Go Go.RowKit Go.Shelf Go.Sort
attribute [local go_sem ↓] Go.wp_at_zero Go.wp_at_succ

set_option maxRecDepth 100000 in
set_option maxHeartbeats 4000000 in
theorem total_no (k : Nat) (p : Option Addr) (cap : Nat) (l : List Rt) (w : World) (hl : Rts w k p l) (hsz : ∀ r ∈ l, r.fi.size ≤ 1048576) (hT : Tabs w) (p2 : Option Addr) (cap2 : Nat) (more : List Rt) (hl2 : Rts w k p2 more) (hsz2 : ∀ r ∈ more, r.fi.size ≤ 1048576) (k2 : Nat)
    (kd : Int) (di : Int) (db : Int) (ds : ByteArray) (q : Option Addr) (m c : Nat) (id : Int) (tp : ByteArray) (at_ un : Int) (rp : ByteArray) (co pr hp : Int) (htp : tp.size ≤ 1048576) (hD : DtIs w k2 [.int .i64 kd, .int .i64 di, .int .u64 db, .string ds, .slice q m c])
    (hno : ¬ (l.length ≤ 400 ∧ (∀ r ∈ l, OkW k r.want) ∧ 0 ≤ kd ∧ kd < 14) ∨ ¬ (more.length ≤ 400 ∧ (∀ r ∈ more, OkW k r.want) ∧ 0 ≤ kd ∧ kd < 14)) :
    Calls Tryd.prog 4 #[.slice p l.length cap, .slice p2 more.length cap2, .agg #[.int .i64 id, .string tp, .int .i64 kd, .int .i64 di, .int .u64 db, .string ds, .slice q m c, .int .i64 at_, .int .i64 un, .string rp, .int .i64 co, .int .i64 pr, .int .i64 hp]] w (HoldPost w true) := by
  have HB0 : Hid (Below w.heap.size w (w.alloc (.cells #[.int .i64 id, .string tp, .int .i64 kd, .int .i64 di, .int .u64 db, .string ds, .slice q m c, .int .i64 at_, .int .i64 un, .string rp, .int .i64 co, .int .i64 pr, .int .i64 hp] 28))) := (Below.refl _ _).alloc (Nat.le_refl _) _
  have HM0 : Hid (∀ W, Below (w.heap.size + 1) (w.alloc (.cells #[.int .i64 id, .string tp, .int .i64 kd, .int .i64 di, .int .u64 db, .string ds, .slice q m c, .int .i64 at_, .int .i64 un, .string rp, .int .i64 co, .int .i64 pr, .int .i64 hp] 28)) W → W.heap[w.heap.size]? = some (.cells #[.int .i64 id, .string tp, .int .i64 kd, .int .i64 di, .int .u64 db, .string ds, .slice q m c, .int .i64 at_, .int .i64 un, .string rp, .int .i64 co, .int .i64 pr, .int .i64 hp] 28 (0, 0))) := fun W hb => (hb.block _ (by simp)).trans (heap_alloc_new _ _)
  have CF : Hid (∀ W, Below w.heap.size w W → Calls Tryd.prog 7 #[.slice p l.length cap, .agg #[.int .i64 id, .string tp, .int .i64 kd, .int .i64 di, .int .u64 db, .string ds, .slice q m c, .int .i64 at_, .int .i64 un, .string rp, .int .i64 co, .int .i64 pr, .int .i64 hp]] W (FitPost W (l.length ≤ 400 ∧ (∀ r ∈ l, OkW k r.want) ∧ 0 ≤ kd ∧ kd < 14))) := fun W hb => fit_any k p cap l W (hl.below hb) hsz (hT.below hb) k2 kd di db ds q m c id tp at_ un rp co pr hp htp (hD.below hb)
  have CG : Hid (∀ W, Below w.heap.size w W → Calls Tryd.prog 7 #[.slice p2 more.length cap2, .agg #[.int .i64 id, .string tp, .int .i64 kd, .int .i64 di, .int .u64 db, .string ds, .slice q m c, .int .i64 at_, .int .i64 un, .string rp, .int .i64 co, .int .i64 pr, .int .i64 hp]] W (FitPost W (more.length ≤ 400 ∧ (∀ r ∈ more, OkW k r.want) ∧ 0 ≤ kd ∧ kd < 14))) := fun W hb => fit_any k p2 cap2 more W (hl2.below hb) hsz2 (hT.below hb) k2 kd di db ds q m c id tp at_ un rp co pr hp htp (hD.below hb)
  have CA : Hid (∀ W, Below w.heap.size w W → Calls Tryd.prog 8 #[] W (HoldPost W true)) := fun W hb => awake_any W (hT.below hb)
  generalize (l.length ≤ 400 ∧ (∀ r ∈ l, OkW k r.want) ∧ 0 ≤ kd ∧ kd < 14) = F1 at *
  generalize (more.length ≤ 400 ∧ (∀ r ∈ more, OkW k r.want) ∧ 0 ≤ kd ∧ kd < 14) = F2 at *
  have HNO := Lib.hid hno
  obtain ⟨PP, hPP⟩ : ∃ PP, HoldPost w true = PP := ⟨_, rfl⟩
  rw [hPP]
  have HPP := Lib.hid hPP
  clear hPP hl hT hD hno hsz hl2 hsz2
  go_enter Tryd.func4, Tryd.ntmps4
  go_wp2_with fail
  refine (CF.out _ HB0.out).mono ?_
  rintro e W1 ⟨b1, rfl, hf1, hb1⟩
  have HB1 := Lib.hid (HB0.out.trans (hb1.mono HB0.out.size))
  have HF1 := Lib.hid hf1
  have HMC := Lib.hid (HM0.out W1 (by simpa using hb1))
  obtain ⟨m0, m1, m2, m3, m4, m5, m6, m7, m8, m9, m10, m11, m12⟩ := msg_cells HMC.out
  have hw1 : w.heap.size < W1.heap.size := by have := hb1.size; simp at this; omega
  clear hb1 CF hf1 HMC HM0
  cases b1 with
  | false =>
    go_wp2_with fail
    refine (CA.out _ HB1.out).mono ?_
    rintro e W2 ⟨rfl, hb2⟩
    have HB2 := Lib.hid (HB1.out.trans (hb2.mono HB1.out.size))
    clear hb2 CA
    go_wp2_with fail
    rw [← HPP.out]
    exact ⟨rfl, HB2.out⟩
  | true =>
    go_wp2_with fail
    refine (CG.out _ HB1.out).mono ?_
    rintro e W2 ⟨b2, rfl, hf2, hb2⟩
    have HB2 := Lib.hid (HB1.out.trans (hb2.mono HB1.out.size))
    have HF2 := Lib.hid hf2
    clear hb2 CG hf2
    cases b2 with
    | false =>
      go_wp2_with fail
      refine (CA.out _ HB2.out).mono ?_
      rintro e W3 ⟨rfl, hb3⟩
      have HB3 := Lib.hid (HB2.out.trans (hb3.mono HB2.out.size))
      clear hb3 CA
      go_wp2_with fail
      rw [← HPP.out]
      exact ⟨rfl, HB3.out⟩
    | true =>
      exfalso
      have h1 := HF1.out
      have h2 := HF2.out
      simp only [forall_const] at h1 h2
      rcases HNO.out with h | h
      · exact h h1
      · exact h h2

set_option maxRecDepth 100000 in
set_option maxHeartbeats 16000000 in
theorem total_yes (k : Nat) (p : Option Addr) (cap : Nat) (l : List Rt) (w : World) (hl : Rts w k p l) (hsz : ∀ r ∈ l, r.fi.size ≤ 1048576) (hT : Tabs w) (p2 : Option Addr) (cap2 : Nat) (more : List Rt) (hl2 : Rts w k p2 more) (hsz2 : ∀ r ∈ more, r.fi.size ≤ 1048576) (k2 : Nat)
    (dk : Nat) (di : Int) (db : Int) (ds : ByteArray) (q : Option Addr) (m c : Nat) (id : Int) (tp : ByteArray) (at_ un : Int) (rp : ByteArray) (co pr hp : Int) (htp : tp.size ≤ 1048576) (hD : DtIs w k2 [.int .i64 (dk : Nat), .int .i64 di, .int .u64 db, .string ds, .slice q m c])
    (hok : ∀ r ∈ l, OkW k r.want) (hok2 : ∀ r ∈ more, OkW k r.want) (hdk : dk < 14) (hll : l.length ≤ 400) (hml : more.length ≤ 400) :
    Calls Tryd.prog 4 #[.slice p l.length cap, .slice p2 more.length cap2, .agg #[.int .i64 id, .string tp, .int .i64 (dk : Nat), .int .i64 di, .int .u64 db, .string ds, .slice q m c, .int .i64 at_, .int .i64 un, .string rp, .int .i64 co, .int .i64 pr, .int .i64 hp]] w (HoldPost w true) := by
  have HOK : Hid (∀ r ∈ l ++ more, OkR k r) := fun r hr => by
    rcases List.mem_append.1 hr with h | h
    · exact ⟨hok r h, hsz r h⟩
    · exact ⟨hok2 r h, hsz2 r h⟩
  have HOL : Hid (∀ r ∈ l, OkR k r) := fun r hr => ⟨hok r hr, hsz r hr⟩
  have HB0 : Hid (Below w.heap.size w (w.alloc (.cells #[.int .i64 id, .string tp, .int .i64 (dk : Nat), .int .i64 di, .int .u64 db, .string ds, .slice q m c, .int .i64 at_, .int .i64 un, .string rp, .int .i64 co, .int .i64 pr, .int .i64 hp] 28))) := (Below.refl _ _).alloc (Nat.le_refl _) _
  have HM0 : Hid (∀ W, Below (w.heap.size + 1) (w.alloc (.cells #[.int .i64 id, .string tp, .int .i64 (dk : Nat), .int .i64 di, .int .u64 db, .string ds, .slice q m c, .int .i64 at_, .int .i64 un, .string rp, .int .i64 co, .int .i64 pr, .int .i64 hp] 28)) W → W.heap[w.heap.size]? = some (.cells #[.int .i64 id, .string tp, .int .i64 (dk : Nat), .int .i64 di, .int .u64 db, .string ds, .slice q m c, .int .i64 at_, .int .i64 un, .string rp, .int .i64 co, .int .i64 pr, .int .i64 hp] 28 (0, 0))) := fun W hb => (hb.block _ (by simp)).trans (heap_alloc_new _ _)
  have CF : Hid (∀ W, Below w.heap.size w W → Calls Tryd.prog 7 #[.slice p l.length cap, .agg #[.int .i64 id, .string tp, .int .i64 (dk : Nat), .int .i64 di, .int .u64 db, .string ds, .slice q m c, .int .i64 at_, .int .i64 un, .string rp, .int .i64 co, .int .i64 pr, .int .i64 hp]] W (FitPost W True)) := fun W hb => (fit_any k p cap l W (hl.below hb) hsz (hT.below hb) k2 _ di db ds q m c id tp at_ un rp co pr hp htp (hD.below hb)).mono fun _ _ ⟨b, h1, h2, h3⟩ => ⟨b, h1, fun _ => trivial, h3⟩
  have CG : Hid (∀ W, Below w.heap.size w W → Calls Tryd.prog 7 #[.slice p2 more.length cap2, .agg #[.int .i64 id, .string tp, .int .i64 (dk : Nat), .int .i64 di, .int .u64 db, .string ds, .slice q m c, .int .i64 at_, .int .i64 un, .string rp, .int .i64 co, .int .i64 pr, .int .i64 hp]] W (FitPost W True)) := fun W hb => (fit_any k p2 cap2 more W (hl2.below hb) hsz2 (hT.below hb) k2 _ di db ds q m c id tp at_ un rp co pr hp htp (hD.below hb)).mono fun _ _ ⟨b, h1, h2, h3⟩ => ⟨b, h1, fun _ => trivial, h3⟩
  have CA : Hid (∀ W, Below w.heap.size w W → Calls Tryd.prog 8 #[] W (HoldPost W true)) := fun W hb => awake_any W (hT.below hb)
  have CE : Hid (∀ W1 W, Below w.heap.size w W1 → Below W1.heap.size W1 W → Calls Tryd.prog 9 #[.slice p l.length cap, .agg #[.int .i64 id, .string tp, .int .i64 (dk : Nat), .int .i64 di, .int .u64 db, .string ds, .slice q m c, .int .i64 at_, .int .i64 un, .string rp, .int .i64 co, .int .i64 pr, .int .i64 hp]] W (FindPost W1 W (findR (agFrom k tp dk 0 l)))) := fun W1 W h1 h2 => find_behind h2 (find_any k p cap l W (hl.below (h1.trans (h2.mono h1.size))) HOL.out (hT.below (h1.trans (h2.mono h1.size))) dk hdk di db ds q m c id tp at_ un rp co pr hp htp)
  have CR : Hid (∀ W1 W pa ca, Below w.heap.size w W1 → Rts W1 k pa (l ++ more) → Below W1.heap.size W1 W → Calls Tryd.prog 9 #[.slice pa (l ++ more).length ca, .agg #[.int .i64 id, .string tp, .int .i64 (dk : Nat), .int .i64 di, .int .u64 db, .string ds, .slice q m c, .int .i64 at_, .int .i64 un, .string rp, .int .i64 co, .int .i64 pr, .int .i64 hp]] W (FindPost W1 W (findR (agFrom k tp dk 0 (l ++ more))))) := fun W1 W pa ca h1 hr h2 => find_behind h2 (find_any k pa ca (l ++ more) W (hr.below h2) HOK.out (hT.below (h1.trans (h2.mono h1.size))) dk hdk di db ds q m c id tp at_ un rp co pr hp htp)
  have HLA : Hid (∀ W, Below w.heap.size w W → Rts W k p l) := fun W hb => hl.below hb
  have HLB : Hid (∀ W, Below w.heap.size w W → Rts W k p2 more) := fun W hb => hl2.below hb
  have HTT : Hid (∀ W, Below w.heap.size w W → Tabs W) := fun W hb => hT.below hb
  have HIA : Hid (∀ j, j ∈ (findR (agFrom k tp dk 0 l)).1 ↔ ∃ r, l[j]? = some r ∧ agB k tp dk r = true ∧ r.el = (findR (agFrom k tp dk 0 l)).2) := fun j => find_mem l j
  have HIB : Hid (∀ j, j ∈ (findR (agFrom k tp dk 0 (l ++ more))).1 ↔ ∃ r, (l ++ more)[j]? = some r ∧ agB k tp dk r = true ∧ r.el = (findR (agFrom k tp dk 0 (l ++ more))).2) := fun j => find_mem (l ++ more) j
  have HNB : Hid ((findR (agFrom k tp dk 0 (l ++ more))).1.Nodup) := find_nodup (l ++ more)
  have HPB : Hid (∀ j r, (l ++ more)[j]? = some r → agB k tp dk r = true → r.el = false → (findR (agFrom k tp dk 0 (l ++ more))).2 = false ∧ j ∈ (findR (agFrom k tp dk 0 (l ++ more))).1) := fun j r h1 h2 h3 => find_plain h1 h2 h3
  have HLM : Hid (∀ j r, l[j]? = some r → (l ++ more)[j]? = some r) := fun j r h => by rw [List.getElem?_append_left (List.getElem?_eq_some_iff.1 h).1]; exact h
  have hlen : (l ++ more).length = l.length + more.length := List.length_append
  generalize findR (agFrom k tp dk 0 l) = TA at *
  generalize findR (agFrom k tp dk 0 (l ++ more)) = TB at *
  obtain ⟨is, ea⟩ := TA
  obtain ⟨js, eb⟩ := TB
  simp only at CE CR HIA HIB HNB HPB
  have hal : (l ++ more).length ≤ 800 := by omega
  have HLEN := Lib.hid hlen
  obtain ⟨all, hall⟩ : ∃ all, l ++ more = all := ⟨_, rfl⟩
  rw [hall] at CR HIB HPB HLM HOK hal HLEN
  have HALL := Lib.hid hall
  have his : ∀ j ∈ is, j < l.length := fun j hj => by obtain ⟨r, h, -⟩ := (HIA.out j).1 hj; exact (List.getElem?_eq_some_iff.1 h).1
  have hjs : ∀ j ∈ js, j < all.length := fun j hj => by obtain ⟨r, h, -⟩ := (HIB.out j).1 hj; exact (List.getElem?_eq_some_iff.1 h).1
  have HIS := Lib.hid his
  have HJS := Lib.hid hjs
  obtain ⟨PP, hPP⟩ : ∃ PP, HoldPost w true = PP := ⟨_, rfl⟩
  rw [hPP]
  have HPP := Lib.hid hPP
  clear hPP hl hT hD hsz hok hl2 hsz2 hok2 hall hlen his hjs
  go_enter Tryd.func4, Tryd.ntmps4
  go_wp2_with fail
  refine (CF.out _ HB0.out).mono ?_
  rintro e W1 ⟨b1, rfl, -, hb1⟩
  have HB1 := Lib.hid (HB0.out.trans (hb1.mono HB0.out.size))
  have hx1 : Below (w.heap.size + 1) (w.alloc (.cells #[.int .i64 id, .string tp, .int .i64 (dk : Nat), .int .i64 di, .int .u64 db, .string ds, .slice q m c, .int .i64 at_, .int .i64 un, .string rp, .int .i64 co, .int .i64 pr, .int .i64 hp] 28)) W1 := by simpa using hb1
  have HX1 := Lib.hid hx1
  clear hx1
  have HMC := Lib.hid (HM0.out W1 HX1.out)
  obtain ⟨m0, m1, m2, m3, m4, m5, m6, m7, m8, m9, m10, m11, m12⟩ := msg_cells HMC.out
  have hw1 : w.heap.size < W1.heap.size := by have := hb1.size; simp at this; omega
  clear hb1 CF HMC
  cases b1 with
  | false =>
    go_wp2_with fail
    refine (CA.out _ HB1.out).mono ?_
    rintro e W2 ⟨rfl, hb2⟩
    have HB2 := Lib.hid (HB1.out.trans (hb2.mono HB1.out.size))
    clear hb2 CA
    go_wp2_with fail
    rw [← HPP.out]
    exact ⟨rfl, HB2.out⟩
  | true =>
    go_wp2_with fail
    refine (CG.out _ HB1.out).mono ?_
    rintro e W2 ⟨b2, rfl, -, hb2⟩
    have HB2 := Lib.hid (HB1.out.trans (hb2.mono HB1.out.size))
    have HX2 := Lib.hid (HX1.out.trans (hb2.mono (by omega)))
    have hw2 : w.heap.size < W2.heap.size := by have := hb2.size; omega
    clear hb2 CG HX1 m0 m1 m2 m3 m4 m5 m6 m7 m8 m9 m10 m11 m12
    cases b2 with
    | false =>
      go_wp2_with fail
      refine (CA.out _ HB2.out).mono ?_
      rintro e W3 ⟨rfl, hb3⟩
      have HB3 := Lib.hid (HB2.out.trans (hb3.mono HB2.out.size))
      clear hb3 CA
      go_wp2_with fail
      rw [← HPP.out]
      exact ⟨rfl, HB3.out⟩
    | true =>
      have hs0 := HB2.out.size
      go_wp2_with (first
        | (at_builtin; refine wpList_append_rts _ rfl (.tmp 30) (.tmp 31) rfl W2 (Below.refl _ _) W2.heap.size k _ [] rfl ⟨[], RowR.nil _ _, World.ownsRow_nil _ _ _ _⟩ p cap l rfl (HLA.out _ HB2.out) (by simp; omega) (Nat.le_refl _) ?_; intro va W3 hown1 hg1; rw [List.nil_append] at hown1; have HB3 := Lib.hid ((Below.refl W2.heap.size W2).grown hg1 (Nat.le_refl _) (fun k hk => by cases hk)); have hs1 := HB3.out.size; have HOW := Lib.hid hown1; clear hg1 hown1)
        | (at_builtin; refine wpList_append_rts _ rfl (.tmp 33) (.tmp 34) rfl W2 HB3.out W2.heap.size k _ l rfl HOW.out p2 cap2 more rfl (HLB.out _ HB2.out) (by omega) hs1 ?_; intro vb W4 hown2 hg2; have HB4 := Lib.hid (HB3.out.grown hg2 hs1 (fun k hk => by obtain ⟨cs, hr, ho⟩ := HOW.out; exact (ho.lt k hk).1)); have HE2 := Lib.hid hown2; clear hg2 hown2))
      obtain ⟨cs, hcr, hco⟩ := HE2.out
      have HX4 := Lib.hid (HX2.out.trans (HB4.out.mono (by omega)))
      have HB44 := Lib.hid (HB2.out.trans (HB4.out.mono hs0))
      obtain ⟨pb, cb, rfl, hrts, -⟩ := OwnR.rts (w := W4) (base := W2.heap.size) (k := k) (v := vb) ⟨cs, hcr.below HB4.out, hco⟩ (by rw [HALL.out]; omega)
      have hs4 := HB4.out.size
      have hw4 : w.heap.size < W4.heap.size := by omega
      have hlm := HALL.out
      rw [hlm] at hrts
      rw [hlm]
      have HRT : Hid (∀ W, Below W4.heap.size W4 W → Rts W k pb all) := fun W hb => hrts.below hb
      have HM : Hid (∀ W, Below W4.heap.size W4 W → W.heap[w.heap.size]? = some (.cells #[.int .i64 id, .string tp, .int .i64 (dk : Nat), .int .i64 di, .int .u64 db, .string ds, .slice q m c, .int .i64 at_, .int .i64 un, .string rp, .int .i64 co, .int .i64 pr, .int .i64 hp] 28 (0, 0))) := fun W hb => HM0.out W (HX4.out.trans (hb.mono (by omega)))
      have CR2 : Hid (∀ W, Below W4.heap.size W4 W → Calls Tryd.prog 9 #[.slice pb all.length cb, .agg #[.int .i64 id, .string tp, .int .i64 (dk : Nat), .int .i64 di, .int .u64 db, .string ds, .slice q m c, .int .i64 at_, .int .i64 un, .string rp, .int .i64 co, .int .i64 pr, .int .i64 hp]] W (FindPost W4 W (js, eb))) := fun W h2 => CR.out W4 W pb cb HB44.out hrts h2
      have CE2 : Hid (∀ W, Below W4.heap.size W4 W → Calls Tryd.prog 9 #[.slice p l.length cap, .agg #[.int .i64 id, .string tp, .int .i64 (dk : Nat), .int .i64 di, .int .u64 db, .string ds, .slice q m c, .int .i64 at_, .int .i64 un, .string rp, .int .i64 co, .int .i64 pr, .int .i64 hp]] W (FindPost W4 W (is, ea))) := fun W h2 => CE.out W4 W HB44.out h2
      clear hrts hcr hco HE2 HOW HB3 HLA HLB hs1 hw2 hs0 hlm CE CR HX2 HM0 HB1 hw1 HOL
      go_cut [8, 9] (fun s5 s6 wx => ∃ (b5 b6 : Nat) (p5 p6 : Option Addr) (c5 c6 : Nat), s5 = .pointer (some ⟨b5, 0, none⟩) ∧ s6 = .pointer (some ⟨b6, 0, none⟩) ∧ wx.cell? ⟨b5, 0, none⟩ = some (.slice p5 is.length c5) ∧ wx.cell? ⟨b5, 1, none⟩ = some (.bool ea) ∧ wx.cell? ⟨b6, 0, none⟩ = some (.slice p6 js.length c6) ∧ wx.cell? ⟨b6, 1, none⟩ = some (.bool eb) ∧
        Ints wx (.slice p5 is.length c5) is ∧ Ints wx (.slice p6 js.length c6) js ∧ Below W4.heap.size W4 wx)
      case first =>
        obtain ⟨m0, m1, m2, m3, m4, m5, m6, m7, m8, m9, m10, m11, m12⟩ := msg_cells (HM.out W4 (Below.refl _ _))
        clear CA HPP HIA HIB HNB HPB HLM HOK HLEN HIS HJS HTT HRT
        go_region_held3 (fun w' => w'.cell? ⟨w.heap.size, 0, none⟩ = some ((.int .i64 id)) ∧ w'.cell? ⟨w.heap.size, 1, none⟩ = some ((.string tp)) ∧ w'.cell? ⟨w.heap.size, 2, none⟩ = some ((.int .i64 (dk : Nat))) ∧ w'.cell? ⟨w.heap.size, 3, none⟩ = some ((.int .i64 di)) ∧ w'.cell? ⟨w.heap.size, 4, none⟩ = some ((.int .u64 db)) ∧ w'.cell? ⟨w.heap.size, 5, none⟩ = some ((.string ds)) ∧ w'.cell? ⟨w.heap.size, 6, none⟩ = some ((.slice q m c)) ∧ w'.cell? ⟨w.heap.size, 7, none⟩ = some ((.int .i64 at_)) ∧ w'.cell? ⟨w.heap.size, 8, none⟩ = some ((.int .i64 un)) ∧ w'.cell? ⟨w.heap.size, 9, none⟩ = some ((.string rp)) ∧ w'.cell? ⟨w.heap.size, 10, none⟩ = some ((.int .i64 co)) ∧ w'.cell? ⟨w.heap.size, 11, none⟩ = some ((.int .i64 pr)) ∧ w'.cell? ⟨w.heap.size, 12, none⟩ = some ((.int .i64 hp))) (first | exact msg_cells (HM.out _ (by repeat (first | with_reducible exact hd6 | with_reducible exact hd5 | with_reducible exact Below.refl _ _ | with_reducible refine bel_alloc ?_ _ | with_reducible refine bel_drew ?_ | with_reducible refine bel_set ?_ _ _ (by first | omega | (simp <;> omega))))) | go_keep)
          (first
            | (go_at_call 9; (with_reducible refine (CE2.out _ (by repeat (first | with_reducible exact hd6 | with_reducible exact hd5 | with_reducible exact Below.refl _ _ | with_reducible refine bel_alloc ?_ _ | with_reducible refine bel_drew ?_ | with_reducible refine bel_set ?_ _ _ (by first | omega | (simp <;> omega))))).mono ?_); rintro e w2 ⟨p5, c5, rfl, hb5, hd5, HI5⟩; have HB5 := Lib.hid hb5; have hs5 := hd5.size; have hz5 := hb5.size; (try (simp at hz5)); (first | (obtain ⟨hy5, hx5⟩ := lt_two hz5) | (have hy5 := lt_one hz5) | skip); (first | (have ha5 : W4.heap.size < w2.heap.size := (by omega)) | skip); (first | (have hb5' : W4.heap.size + 1 < w2.heap.size := (by omega)) | skip); obtain ⟨hc5, hf5⟩ := bcell hb5; clear hb5)
            | (go_at_call 9; (with_reducible refine (CR2.out _ (by repeat (first | with_reducible exact hd6 | with_reducible exact hd5 | with_reducible exact Below.refl _ _ | with_reducible refine bel_alloc ?_ _ | with_reducible refine bel_drew ?_ | with_reducible refine bel_set ?_ _ _ (by first | omega | (simp <;> omega))))).mono ?_); rintro e w3 ⟨p6, c6, rfl, hb6, hd6, HI6⟩; have HB6 := Lib.hid hb6; have hs6 := hd6.size; have hz6 := hb6.size; (try (simp at hz6)); (first | (obtain ⟨hy6, hx6⟩ := lt_two hz6) | (have hy6 := lt_one hz6) | skip); (first | (have ha6 : W4.heap.size < w3.heap.size := (by omega)) | skip); (first | (have hb6' : W4.heap.size + 1 < w3.heap.size := (by omega)) | skip); obtain ⟨hc6, hf6⟩ := bcell hb6; clear hb6))
        all_goals (go_wp2_with fail; go_meet; case rel => (clear m0 m1 m2 m3 m4 m5 m6 m7 m8 m9 m10 m11 m12 CE2 CR2 HM HB0; refine ⟨_, _, p5, p6, c5, c6, rfl, rfl, ?_, ?_, ?_, ?_, HI5.out _ (by repeat (first | with_reducible exact KeptIn.refl _ _ | with_reducible refine KeptIn.alloc ?_ _ | with_reducible refine KeptIn.call ?_ HB6.out | with_reducible refine KeptIn.set ?_ _ _ (by first | omega | (simp <;> omega)))), HI6.out _ (by repeat (first | with_reducible exact KeptIn.refl _ _ | with_reducible refine KeptIn.alloc ?_ _ | with_reducible refine KeptIn.call ?_ HB6.out | with_reducible refine KeptIn.set ?_ _ _ (by first | omega | (simp <;> omega)))), (by repeat (first | with_reducible exact hd6 | with_reducible exact hd5 | with_reducible exact Below.refl _ _ | with_reducible refine bel_alloc ?_ _ | with_reducible refine bel_drew ?_ | with_reducible refine bel_set ?_ _ _ (by first | omega | (simp <;> omega))))⟩ <;> (go_simp; try (refine World.cell?_setCell_same' _ _ _ ?_; (repeat (first | (rw [World.cell?_setCell_other (by simp)]) | (rw [hc6 _ _ (by first | omega | (simp <;> omega))]) | (rw [hc5 _ _ (by first | omega | (simp <;> omega))]))); go_simp))))
      case rest =>
        obtain ⟨b5, b6, p5, p6, c5, c6, rfl, rfl, d0, d1, d2, d3, hi5, hi6, hbc⟩ := hcut
        have hbl5 := World.block_lt_of_cell? wc _ d0
        have hbl6 := World.block_lt_of_cell? wc _ d2
        have HBC : Hid (Below w.heap.size w wc) := HB44.out.trans (hbc.mono HB44.out.size)
        have HK : Hid (∀ W, Below wc.heap.size wc W → W.cell? ⟨b5, 0, none⟩ = some (.slice p5 is.length c5) ∧ W.cell? ⟨b5, 1, none⟩ = some (.bool ea) ∧ W.cell? ⟨b6, 0, none⟩ = some (.slice p6 js.length c6) ∧ W.cell? ⟨b6, 1, none⟩ = some (.bool eb)) := fun W hb =>
          ⟨(hb.cell (World.block_lt_of_cell? wc _ d0)).trans d0, (hb.cell (World.block_lt_of_cell? wc _ d1)).trans d1, (hb.cell (World.block_lt_of_cell? wc _ d2)).trans d2, (hb.cell (World.block_lt_of_cell? wc _ d3)).trans d3⟩
        have HMW : Hid (∀ W, Below wc.heap.size wc W → W.heap[w.heap.size]? = some (.cells #[.int .i64 id, .string tp, .int .i64 (dk : Nat), .int .i64 di, .int .u64 db, .string ds, .slice q m c, .int .i64 at_, .int .i64 un, .string rp, .int .i64 co, .int .i64 pr, .int .i64 hp] 28 (0, 0))) := fun W hb => HM.out W (hbc.trans (hb.mono hbc.size))
        have HRW : Hid (∀ W, Below wc.heap.size wc W → Rts W k pb all) := fun W hb => HRT.out W (hbc.trans (hb.mono hbc.size))
        have HI5 : Hid (∀ W, Below wc.heap.size wc W → Ints W (.slice p5 is.length c5) is) := fun W hb => hi5.below hb
        have HI6 : Hid (∀ W, Below wc.heap.size wc W → Ints W (.slice p6 js.length c6) js) := fun W hb => hi6.below hb
        have HTW : Hid (∀ W, Below wc.heap.size wc W → Tabs W) := fun W hb => HTT.out W (HBC.out.trans (hb.mono HBC.out.size))
        have CAc : Hid (∀ W, Below wc.heap.size wc W → Calls Tryd.prog 8 #[] W (HoldB wc true)) := fun W hb => hold_behind hb (CA.out W (HBC.out.trans (hb.mono HBC.out.size)))
        have hwc : w.heap.size < wc.heap.size := by have := hbc.size; omega
        have mk := mk_bools all.length (by omega)
        have hjl := js.length
        clear hi5 hi6 CE2 CR2 CA hbc HM HRT HTT HB44 HB4 HB2 HX4 hs4 hw4 HB0 d0 d1
        go_wp2_with fail
        have HN0 : Hid (InIs (wc.alloc (.cells (madeCells #[.bool false] all.length) 4)) wc.heap.size all.length (fun _ => false)) := InIs.new wc all.length
        have HA0 : Hid (Below wc.heap.size wc (wc.alloc (.cells (madeCells #[.bool false] all.length) 4))) := (Below.refl _ _).alloc (Nat.le_refl _) _
        clear mk hjl d2 d3
        go_loopw [48] (fun s wr => ∃ (j : Nat), s = .int .i64 (j : Nat) ∧ j ≤ js.length ∧ Hid (InIs wr wc.heap.size all.length (fun x => decide (x ∈ js.take j))) ∧ Hid (Below wc.heap.size wc wr)) (fun s _ => js.length - (intOf s).toNat)
        case atStart => exact ⟨0, rfl, Nat.zero_le _, HN0.out.congr (fun j _ => by simp), HA0⟩
        case round =>
          obtain ⟨j, rfl, hj, HN, HB⟩ := hrel
          clear HN0 HA0
          by_cases hlt : j < js.length
          · obtain ⟨x, hx⟩ : ∃ x, js[j]? = some x := ⟨_, List.getElem?_eq_getElem hlt⟩
            obtain ⟨p', c', e1, hlc, hc63, hcl⟩ := HI6.out wr HB.out
            injection e1 with e1 e2 e3
            subst e1; subst e3
            obtain ⟨b, o, rfl, hcc⟩ := hcl (by omega)
            have q0 := hcc j x hx
            have hxl := HJS.out x (List.mem_of_getElem? hx)
            have hnin : ¬ x ∈ js.take j := nodup_take HNB.out hx
            have HIN : Hid (∀ y, decide (y ∈ js.take (j + 1)) = (decide (y ∈ js.take j) || y == x)) := fun y => by
              rw [List.take_add_one, hx]
              simp
              rfl
            have g0 := HN.out.cell hxl
            have g1 := HN.out.free x
            simp only [hnin, decide_false] at g0
            have hx0 : (0 : Int) ≤ (x : Int) := by omega
            have hxI : (x : Int) < (all.length : Int) := by omega
            have hjI : (j : Int) < (js.length : Int) := by omega
            have hbs := HB.out.size
            have hlb := HN.out.lt
            clear hcc hcl hx hnin hxl
            go_wp2_with fail
            go_roundw
            case rel => exact ⟨j + 1, by go_num, by omega, (HN.out.set (by omega)).congr (fun y _ => (HIN.out y).symm), HB.out.setCell (Nat.le_refl _) _⟩
            case measure => simp [intOf]; omega
          · obtain rfl : j = js.length := by omega
            rw [List.take_length] at HN
            have hbs := HB.out.size
            have hlb := HN.out.lt
            have HBr : Hid (Below w.heap.size w wr) := HBC.out.trans (HB.out.mono HBC.out.size)
            clear hj hlt
            go_wp2_with fail
            obtain ⟨wq, hwq⟩ : ∃ wq, wq = wr := ⟨_, rfl⟩
            subst wr
            go_loopw [13, 72] (fun s13 s wr => ∃ (i : Nat) (pl : Bool), s = .int .i64 (i : Nat) ∧ i ≤ all.length ∧ s13 = .bool pl ∧ Hid (PlOk pl eb) ∧ Hid (Below wq.heap.size wq wr)) (fun _ s _ => all.length - (intOf s).toNat)
            case atStart => exact ⟨0, false, rfl, Nat.zero_le _, rfl, (show PlOk false eb from fun h => (by cases h)), Below.refl _ _⟩
            case round =>
              obtain ⟨i, pl, rfl, hi, rfl, HP, HZ⟩ := hrel
              have HZc : Hid (Below wc.heap.size wc wr) := HB.out.trans (HZ.out.mono hbs)
              have HNz : Hid (InIs wr wc.heap.size all.length (fun x => decide (x ∈ js))) := HN.out.below HZ.out
              have hzs := HZ.out.size
              have hwr : w.heap.size < wr.heap.size := by omega
              by_cases hil : i < all.length
              · obtain ⟨r, hr⟩ : ∃ r, all[i]? = some r := ⟨_, List.getElem?_eq_getElem hil⟩
                obtain ⟨b, o, hpb, hc⟩ := (HRW.out wr HZc.out).2 (by omega)
                obtain ⟨op, num, p', n', c', q0, q1, q2, q3, q4, q5, hW⟩ := hc i r hr
                subst hpb
                have hok1 := HOK.out r (List.mem_of_getElem? hr)
                have CM : Hid (∀ W, Below wr.heap.size wr W → Calls Tryd.prog 14 #[.string r.fi, .string tp] W (HoldPost W (matchB r.fi tp))) := fun W hb => refMatch_any valid_said r.fi tp W hok1.2 htp ((HTW.out _ HZc.out).below hb)
                have CT : Hid (∀ W, Below wr.heap.size wr W → Calls Tryd.prog 15 #[.agg #[.string r.fi, .int .i64 op, .int .i64 num, .slice p' n' c', .int .i64 r.hd, .bool r.el], .agg #[.int .i64 (dk : Nat), .int .i64 di, .int .u64 db, .string ds, .slice q m c]] W (HoldPost W (typedB k r.want dk))) := fun W hb => refTyped_any k r.want W op num p' n' c' (hW.below hb) hok1.1 r.fi r.hd r.el dk hdk di db ds q m c
                have HMZ : Hid (∀ W, Below wr.heap.size wr W → W.cell? ⟨w.heap.size, 1, none⟩ = some (.string tp) ∧ W.cell? ⟨w.heap.size, 2, none⟩ = some (.int .i64 (dk : Nat)) ∧ W.cell? ⟨w.heap.size, 3, none⟩ = some (.int .i64 di) ∧ W.cell? ⟨w.heap.size, 4, none⟩ = some (.int .u64 db) ∧ W.cell? ⟨w.heap.size, 5, none⟩ = some (.string ds) ∧ W.cell? ⟨w.heap.size, 6, none⟩ = some (.slice q m c)) := fun W hb => by
                  obtain ⟨-, m1, m2, m3, m4, m5, m6, -⟩ := msg_cells (HMW.out W (HZc.out.trans (hb.mono HZc.out.size)))
                  exact ⟨m1, m2, m3, m4, m5, m6⟩
                have HX : Hid (∀ W, Below (wr.heap.size + 1) (wr.alloc (.cells #[.string r.fi, .int .i64 op, .int .i64 num, .slice p' n' c', .int .i64 r.hd, .bool r.el] 42)) W → W.cell? ⟨wr.heap.size, 0, none⟩ = some (.string r.fi) ∧ W.cell? ⟨wr.heap.size, 1, none⟩ = some (.int .i64 op) ∧ W.cell? ⟨wr.heap.size, 2, none⟩ = some (.int .i64 num) ∧ W.cell? ⟨wr.heap.size, 3, none⟩ = some (.slice p' n' c') ∧ W.cell? ⟨wr.heap.size, 4, none⟩ = some (.int .i64 r.hd) ∧ W.cell? ⟨wr.heap.size, 5, none⟩ = some (.bool r.el)) := fun W hb =>
                  ⟨by rw [hb.cell (by simp)]; go_simp, by rw [hb.cell (by simp)]; go_simp, by rw [hb.cell (by simp)]; go_simp, by rw [hb.cell (by simp)]; go_simp, by rw [hb.cell (by simp)]; go_simp, by rw [hb.cell (by simp)]; go_simp⟩
                have HKZ : Hid (∀ W, Below wr.heap.size wr W → W.cell? ⟨b6, 1, none⟩ = some (.bool eb)) := fun W hb => (HK.out W (HZc.out.trans (hb.mono HZc.out.size))).2.2.2
                have HNW : Hid (∀ W, Below wr.heap.size wr W → W.cell? ⟨wc.heap.size, i, none⟩ = some (.bool (decide (i ∈ js)))) := fun W hb => (HNz.out.below hb).cell hil
                have HI1 : Hid (agB k tp dk r = true → r.el = false → eb = false ∧ i ∈ js) := fun h1 h2 => HPB.out i r hr h1 h2
                have HI2 : Hid (i ∈ js → agB k tp dk r = true ∧ r.el = eb) := fun h => by
                  obtain ⟨r', h1, h2, h3⟩ := (HIB.out i).1 h
                  rw [hr] at h1; injection h1 with h1; subst h1; exact ⟨h2, h3⟩
                have HI3 : Hid (agB k tp dk r = true → r.el = eb → i ∈ js) := fun h1 h2 => (HIB.out i).2 ⟨r, hr, h1, h2⟩
                have hiI : (i : Int) < (all.length : Int) := by omega
                have hbl := World.block_lt_of_cell? wr _ q0
                have m1 := (HMZ.out wr (Below.refl _ _)).1
                clear hc hW hok1 hr
                go_wp2_with fail
                refine (CM.out _ (by exact (Below.refl _ _).alloc (Nat.le_refl _) _)).mono ?_
                rintro e' W5 ⟨rfl, hb5⟩
                have H1 : Hid (Below wr.heap.size wr W5) := ((Below.refl _ _).alloc (Nat.le_refl _) _).trans (hb5.mono (by simp))
                have HX5 : Hid (Below (wr.heap.size + 1) (wr.alloc (.cells #[.string r.fi, .int .i64 op, .int .i64 num, .slice p' n' c', .int .i64 r.hd, .bool r.el] 42)) W5) := (show Below (wr.heap.size + 1) (wr.alloc (.cells #[.string r.fi, .int .i64 op, .int .i64 num, .slice p' n' c', .int .i64 r.hd, .bool r.el] 42)) W5 by simpa using hb5)
                obtain ⟨a0, a1, a2, a3, a4, a5⟩ := HX.out W5 HX5.out
                obtain ⟨-, b2, b3, b4, b5', b6'⟩ := HMZ.out W5 H1.out
                have k1 := HKZ.out W5 H1.out
                have k2' := HNW.out W5 H1.out
                have hs1 : wr.heap.size + 1 ≤ W5.heap.size := by have := hb5.size; simpa using this
                clear hb5 q0 q1 q2 q3 q4 q5 m1 CM
                have fin : ∀ W, Below wr.heap.size wr W → Hid (Below wq.heap.size wq W) := fun W hb => HZ.out.trans (hb.mono hzs)
                have FIN := Lib.hid fin
                clear fin
                cases hM : matchB r.fi tp with
                | false =>
                  have hA : agB k tp dk r = false := by unfold agB; rw [hM]; rfl
                  have hnj : ¬ i ∈ js := fun h => by have := (HI2.out h).1; rw [hA] at this; cases this
                  rw [decide_eq_false hnj] at k2'
                  clear hM hA hnj
                  clear HI1 HI2 HI3
                  generalize r.el = E at *
                  cases E <;> cases pl <;> go_wp2_with fail
                  all_goals
                    go_roundw
                    case rel => exact ⟨i + 1, _, by go_num, by omega, rfl, HP, FIN.out _ H1.out⟩
                    case measure => simp [intOf]; omega
                | true =>
                  have hA : agB k tp dk r = typedB k r.want dk := by unfold agB; rw [hM]; rfl
                  rw [hA] at HI1 HI2 HI3
                  clear hM hA
                  go_wp2_with fail
                  refine (CT.out _ H1.out).mono ?_
                  rintro e' W6 ⟨rfl, hb6⟩
                  have H2 : Hid (Below wr.heap.size wr W6) := H1.out.trans (hb6.mono H1.out.size)
                  have HX6 := Lib.hid (HX5.out.trans (hb6.mono hs1))
                  have hs22 : wr.heap.size + 1 ≤ W6.heap.size := by have := hb6.size; omega
                  clear hb6 a0 a1 a2 a3 a4 a5 b2 b3 b4 b5' b6' k1 k2' CT
                  obtain ⟨-, -, -, -, -, a5⟩ := HX.out W6 HX6.out
                  have k1 := HKZ.out W6 H2.out
                  have k2' := HNW.out W6 H2.out
                  cases hTY : typedB k r.want dk with
                  | false =>
                    have hnj : ¬ i ∈ js := fun h => by have := (HI2.out h).1; rw [hTY] at this; cases this
                    rw [decide_eq_false hnj] at k2'
                    clear hTY hnj HI1 HI2 HI3
                    generalize r.el = E at *
                    cases E <;> cases pl <;> go_wp2_with fail
                    all_goals
                      go_roundw
                      case rel => exact ⟨i + 1, _, by go_num, by omega, rfl, HP, FIN.out _ H2.out⟩
                      case measure => simp [intOf]; omega
                  | true =>
                    cases hE : r.el with
                    | false =>
                      obtain ⟨heb, hij⟩ := HI1.out hTY hE
                      rw [decide_eq_true hij] at k2'
                      rw [hE] at a5
                      subst heb
                      clear hTY hij HI1 HI2 HI3 hE
                      cases pl <;> go_wp2_with fail
                      all_goals
                        go_roundw
                        case rel => exact ⟨i + 1, true, by go_num, by omega, rfl, (show PlOk true false from fun _ => rfl), FIN.out _ H2.out⟩
                        case measure => simp [intOf]; omega
                    | true =>
                      rw [hE] at a5
                      cases heb : eb with
                      | false =>
                        have hnj : ¬ i ∈ js := fun h => by have := (HI2.out h).2; rw [hE, heb] at this; cases this
                        rw [decide_eq_false hnj] at k2'
                        rw [heb] at k1
                        clear hTY hnj HI1 HI2 HI3 hE heb
                        cases pl <;> go_wp2_with fail
                        all_goals
                          go_roundw
                          case rel => exact ⟨i + 1, _, by go_num, by omega, rfl, HP, FIN.out _ H2.out⟩
                          case measure => simp [intOf]; omega
                      | true =>
                        have hij := HI3.out hTY (hE.trans heb.symm)
                        rw [decide_eq_true hij] at k2'
                        rw [heb] at k1
                        clear hTY hij HI1 HI2 HI3 hE heb
                        cases pl <;> go_wp2_with fail
                        all_goals
                          go_roundw
                          case rel => exact ⟨i + 1, _, by go_num, by omega, rfl, HP, FIN.out _ H2.out⟩
                          case measure => simp [intOf]; omega
              · obtain rfl : i = all.length := by omega
                obtain ⟨d0, d1, -, d3⟩ := HK.out wr HZc.out
                have hrl := HZc.out.size
                have hPL : (pl && eb) = false := by
                  cases pl with
                  | false => rfl
                  | true => rw [HP.out rfl]; rfl
                have HPL := Lib.hid hPL
                clear hPL hi hil HP
                obtain ⟨wy, hwy⟩ : ∃ wy, wy = wr := ⟨_, rfl⟩
                subst wr
                rcases (show (pl = false) ∨ (pl = true ∧ eb = false) by have := HPL.out; cases pl <;> cases eb <;> simp_all) with rfl | ⟨rfl, rfl⟩
                all_goals
                  clear HPL
                  go_wp2_with fail
                  clear d0 d3
                  go_loopw [134] (fun s wr => ∃ (j : Nat), s = .int .i64 (j : Nat) ∧ j ≤ is.length ∧ Hid (wr = wy)) (fun s _ => is.length - (intOf s).toNat)
                  case atStart => exact ⟨0, rfl, Nat.zero_le _, rfl⟩
                  case round =>
                    obtain ⟨j, rfl, hj, HW⟩ := hrel
                    have hW := HW.out
                    subst hW
                    by_cases hlt : j < is.length
                    · obtain ⟨x, hx⟩ : ∃ x, is[j]? = some x := ⟨_, List.getElem?_eq_getElem hlt⟩
                      obtain ⟨p', c', e1, hlc, hc63, hcl⟩ := HI5.out wr HZc.out
                      injection e1 with e1 e2 e3
                      subst e1; subst e3
                      obtain ⟨b, o, rfl, hcc⟩ := hcl (by omega)
                      have q0 := hcc j x hx
                      obtain ⟨r, hr, hag, hel⟩ := (HIA.out x).1 (List.mem_of_getElem? hx)
                      have hxl := (List.getElem?_eq_some_iff.1 hr).1
                      have hxa := (List.getElem?_eq_some_iff.1 (HLM.out x r hr)).1
                      have g0 := HNz.out.cell hxa
                      have hx0 : (0 : Int) ≤ (x : Int) := by omega
                      have hxI : (x : Int) < (l.length : Int) := by omega
                      have hxA : (x : Int) < (all.length : Int) := by omega
                      have hjI : (j : Int) < (is.length : Int) := by omega
                      cases hea : ea with
                      | false =>
                        have hin := (HPB.out x r (HLM.out x r hr) hag (hel.trans hea)).2
                        rw [decide_eq_true hin] at g0
                        rw [hea] at d1
                        clear hcc hcl hx hin hxl hag hel hr hea hxa
                        go_wp2_with fail
                        go_roundw
                        case rel => exact ⟨j + 1, by go_num, by omega, (by first | exact Lib.hid trivial | exact Lib.hid rfl)⟩
                        case measure => simp [intOf]; omega
                      | true =>
                        rw [hea] at d1
                        clear hcc hcl hx hxl hag hel hr hea hxa g0
                        go_wp2_with fail
                        go_roundw
                        case rel => exact ⟨j + 1, by go_num, by omega, (by first | exact Lib.hid trivial | exact Lib.hid rfl)⟩
                        case measure => simp [intOf]; omega
                    · obtain rfl : j = is.length := by omega
                      go_wp2_with fail
                      refine (CAc.out _ HZc.out).mono ?_
                      rintro e w9 ⟨rfl, hd9⟩
                      have HD9 := Lib.hid (HBC.out.trans (hd9.mono HBC.out.size))
                      clear hd9
                      go_wp2_with fail
                      rw [← HPP.out]
                      exact ⟨rfl, HD9.out⟩

theorem routeTotal_any (k : Nat) (p : Option Addr) (cap : Nat) (l : List Rt) (w : World) (hl : Rts w k p l) (hsz : ∀ r ∈ l, r.fi.size ≤ 1048576) (hT : Tabs w) (p2 : Option Addr) (cap2 : Nat) (more : List Rt) (hl2 : Rts w k p2 more) (hsz2 : ∀ r ∈ more, r.fi.size ≤ 1048576) (k2 : Nat)
    (kd : Int) (di : Int) (db : Int) (ds : ByteArray) (q : Option Addr) (m c : Nat) (id : Int) (tp : ByteArray) (at_ un : Int) (rp : ByteArray) (co pr hp : Int) (htp : tp.size ≤ 1048576) (hD : DtIs w k2 [.int .i64 kd, .int .i64 di, .int .u64 db, .string ds, .slice q m c]) :
    Calls Tryd.prog 4 #[.slice p l.length cap, .slice p2 more.length cap2, .agg #[.int .i64 id, .string tp, .int .i64 kd, .int .i64 di, .int .u64 db, .string ds, .slice q m c, .int .i64 at_, .int .i64 un, .string rp, .int .i64 co, .int .i64 pr, .int .i64 hp]] w (HoldPost w true) := by
  by_cases hf : l.length ≤ 400 ∧ (∀ r ∈ l, OkW k r.want) ∧ 0 ≤ kd ∧ kd < 14
  · by_cases hg : more.length ≤ 400 ∧ (∀ r ∈ more, OkW k r.want) ∧ 0 ≤ kd ∧ kd < 14
    · obtain ⟨h1, h2, h3, h4⟩ := hf
      obtain ⟨g1, g2, -, -⟩ := hg
      obtain ⟨dk, rfl⟩ := Int.eq_ofNat_of_zero_le h3
      exact total_yes k p cap l w hl hsz hT p2 cap2 more hl2 hsz2 k2 dk di db ds q m c id tp at_ un rp co pr hp htp hD h2 g2 (by omega) h1 g1
    · exact total_no k p cap l w hl hsz hT p2 cap2 more hl2 hsz2 k2 kd di db ds q m c id tp at_ un rp co pr hp htp hD (.inr hg)
  · exact total_no k p cap l w hl hsz hT p2 cap2 more hl2 hsz2 k2 kd di db ds q m c id tp at_ un rp co pr hp htp hD (.inl hf)
end Go.Proofs.YtpgdiekpeceicaaDoor
