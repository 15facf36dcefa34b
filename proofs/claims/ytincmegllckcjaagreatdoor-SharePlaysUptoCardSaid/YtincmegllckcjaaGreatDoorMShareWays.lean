/- SHARE: what the calls on a hub say, in plain Lean; the first example. SHARE: awake. SHARE: what the rows list: unicode/utf8's two tables; a world that holds them; the second form's bound. -/
import Derived.Test.YtincmegllckcjaaGreatDoorMShareHNew
import Derived.Test.YtincmegllckcjaaGreatDoorRows
import Derived.Test.YtincmegllckcjaaGreatDoorMRead
import Derived.Test.YtincmegllckcjaaGreatDoorTopicShelf
import Derived.ProofKit
import Derived.OpenShut
import Derived.Lib.LaidIn
import Derived.Lib.LaidU8T
import Derived.Deep.DeepHandedRow
import Derived.Deep.DeepWitnessRowRef
import Derived.SizedLaws
namespace Go.Proofs.YtincmegllckcjaaGreatDoor
section
open Go Go.RowKit

theorem sendA_is {st st' : HSt} {s : ByteArray} {ids0 out l : List Int} (h : SendA st s ids0 out st') (hok : ∀ x ∈ st.1, filterB x.1 = true) (hl : l.Pairwise (· < ·)) (hm : ∀ z, z ∈ l ↔ ∃ f, (f, z) ∈ st.1 ∧ matchB f s = true) :
    (st'.2, out) = (if nameB s.data.toList = true then (keysA st.2).foldl (sendOne s) (st.2, l) else (st.2, l)) ∧ st'.1 = st.1 := by
  have e : ids0 = l := sorted_ext ord_int h.rise hl fun z => (h.mem z).trans ((heard_match hok s z).trans (hm z).symm)
  subst e
  exact ⟨h.eq, h.subs⟩
/-- a group's turn comes -/
theorem sendA_to {st st' : HSt} {s : ByteArray} {ids0 out l : List Int} {G' : List AG} {o : List Int} (h : SendA st s ids0 out st') (hok : ∀ x ∈ st.1, filterB x.1 = true) (hl : l.Pairwise (· < ·)) (hm : ∀ z, z ∈ l ↔ ∃ f, (f, z) ∈ st.1 ∧ matchB f s = true)
    (hn : nameB s.data.toList = true) (hf : (keysA st.2).foldl (sendOne s) (st.2, l) = (G', o)) : st' = (st.1, G') ∧ out = o := by
  obtain ⟨h1, h2⟩ := sendA_is h hok hl hm
  rw [if_pos hn, hf] at h1
  injection h1 with h1 h3
  exact ⟨Prod.ext h2 h1, h3⟩
def kG : ByteArray := ⟨#[36, 115, 104, 97, 114, 101, 47, 103, 47, 97, 47, 43]⟩
def kH : ByteArray := ⟨#[36, 115, 104, 97, 114, 101, 47, 103, 47, 97, 47, 35]⟩
def kM : ByteArray := ⟨#[36, 115, 104, 97, 114, 101, 47, 103, 47, 97]⟩
def kN : ByteArray := ⟨#[36, 115, 104, 97, 114, 101, 47, 104, 47, 97]⟩
def bG : ByteArray := ⟨#[103]⟩
def bH : ByteArray := ⟨#[104]⟩
def bX : ByteArray := ⟨#[120]⟩
theorem split_B : splitK fB = some (ByteArray.empty, fB) := by kernel_rfl
theorem split_G : splitK kG = some (bG, fA) := by kernel_rfl
theorem split_H : splitK kH = some (bG, fB) := by kernel_rfl
theorem split_M : splitK kM = some (bG, nA) := by kernel_rfl
theorem split_N : splitK kN = some (bH, nA) := by kernel_rfl
theorem split_a : splitK nA = some (ByteArray.empty, nA) := by kernel_rfl
theorem split_x : splitK bX = some (ByteArray.empty, bX) := by kernel_rfl
theorem joinA_plain {st : HSt} {s : ByteArray} {id : Int} {f : ByteArray} (h : splitK s = some (ByteArray.empty, f)) (hf : filterB f = true) (hn : (f, id) ∉ st.1) : joinA st s id = (true, st.1 ++ [(f, id)], st.2) := by
  unfold joinA
  rw [h]
  refine (if_pos (show ByteArray.empty.size = 0 from rfl)).trans ?_
  refine Prod.ext (dec_of ⟨fun _ => ⟨hf, hn⟩, fun _ => rfl⟩) (Prod.ext ?_ rfl)
  exact addS_pos hf hn
theorem joinA_new {st : HSt} {s : ByteArray} {id : Int} {n f : ByteArray} (h : splitK s = some (n, f)) (hn : n.size ≠ 0) (hf : findA st.2 s = none) : joinA st s id = (true, st.1, st.2 ++ [⟨s, f, [id], 0⟩]) := by
  unfold joinA
  rw [h]
  refine (if_neg hn).trans ?_
  rw [hf]
theorem joinA_in {st : HSt} {s : ByteArray} {id : Int} {n f : ByteArray} {a : AG} (h : splitK s = some (n, f)) (hn : n.size ≠ 0) (hf : findA st.2 s = some a) (hi : id ∉ a.ids) (hl : a.ids.length < 256) : joinA st s id = (true, st.1, setA st.2 s { a with ids := a.ids ++ [id] }) := by
  unfold joinA
  rw [h]
  refine (if_neg hn).trans ?_
  rw [hf]
  exact if_pos ⟨hi, hl⟩
theorem joinA_no {st : HSt} {s : ByteArray} {id : Int} {n f : ByteArray} {a : AG} (h : splitK s = some (n, f)) (hn : n.size ≠ 0) (hf : findA st.2 s = some a) (hi : id ∈ a.ids ∨ 256 ≤ a.ids.length) : joinA st s id = (false, st) := by
  unfold joinA
  rw [h]
  refine (if_neg hn).trans ?_
  rw [hf]
  exact if_neg fun e => hi.elim e.1 fun h => by have := e.2; omega
theorem one_pair (z : Int) : z ∈ ([7] : List Int) ↔ ∃ f, (f, z) ∈ ([(fB, 7)] : Subs) ∧ matchB f fC = true := by
  rw [List.mem_singleton]
  constructor
  · rintro rfl; exact ⟨fB, List.mem_singleton.2 rfl, by decide +kernel⟩
  · rintro ⟨f, hf, -⟩
    rw [List.mem_singleton] at hf
    injection hf
theorem one_pairA (z : Int) : z ∈ ([7] : List Int) ↔ ∃ f, (f, z) ∈ ([(fB, 7)] : Subs) ∧ matchB f nA = true := by
  rw [List.mem_singleton]
  constructor
  · rintro rfl; exact ⟨fB, List.mem_singleton.2 rfl, by decide +kernel⟩
  · rintro ⟨f, hf, -⟩
    rw [List.mem_singleton] at hf
    injection hf
def aw (n : Nat) : HSt := ([(fB, 7)], [⟨kG, fA, [1, 2], n⟩])
theorem aw_ok (n : Nat) : ∀ x ∈ (aw n).1, filterB x.1 = true := by
  intro x hx
  rw [show (aw n).1 = [(fB, 7)] from rfl, List.mem_singleton] at hx
  subst hx
  exact filt_B
theorem aw_wf (n : Nat) : ∀ x ∈ (aw n).1, (Lit.int .i64 x.2).wf = true := by
  intro x hx
  rw [show (aw n).1 = [(fB, 7)] from rfl, List.mem_singleton] at hx
  subst hx
  decide
theorem aw0 {ids0 out : List Int} {st' : HSt} (h : SendA (aw 0) fC ids0 out st') : st' = aw 1 ∧ out = [7, 1] :=
  sendA_to h (aw_ok 0) (by decide) one_pair (by decide +kernel) (by kernel_rfl)
theorem aw1 {ids0 out : List Int} {st' : HSt} (h : SendA (aw 1) fC ids0 out st') : st' = aw 0 ∧ out = [7, 2] :=
  sendA_to h (aw_ok 1) (by decide) one_pair (by decide +kernel) (by kernel_rfl)
theorem awA {ids0 out : List Int} {st' : HSt} (h : SendA (aw 1) nA ids0 out st') : st' = aw 1 ∧ out = [7] :=
  sendA_to h (aw_ok 1) (by decide) one_pairA (by decide +kernel) (by kernel_rfl)
theorem aw_j1 : joinA ([], []) fB 7 = (true, ([(fB, 7)], [])) := joinA_plain split_B filt_B (by simp)
theorem aw_j2 : joinA ([(fB, 7)], []) kG 1 = (true, ([(fB, 7)], [⟨kG, fA, [1], 0⟩])) := joinA_new split_G (by decide) rfl
theorem aw_j3 : joinA ([(fB, 7)], [⟨kG, fA, [1], 0⟩]) kG 2 = (true, aw 0) := joinA_in split_G (by decide) (a := ⟨kG, fA, [1], 0⟩) (by kernel_rfl) (by decide) (by decide)
theorem awKept {m : AM} (ht : m.tp = bX) {out : List AM} (h : KeptA [m] bX out) : out = [m] := by
  have hm : m ∈ out := (h.mem m).2 ⟨List.mem_singleton.2 rfl, bX, by unfold keptF; rw [split_x]; rfl, by rw [ht]; decide +kernel⟩
  have ha : ∀ x ∈ out, x = m := fun x hx => List.mem_singleton.1 ((h.mem x).1 hx).1
  match out, hm, ha, h.rise with
  | [x], _, ha, _ => rw [ha x (List.mem_singleton.2 rfl)]
  | x :: y :: l, _, ha, hr =>
    have h1 := (List.pairwise_cons.1 hr).1 y (List.mem_cons_self ..)
    rw [ha x (List.mem_cons_self ..), ha y (List.mem_cons_of_mem _ (List.mem_cons_self ..))] at h1
    exact absurd h1 (List.lt_irrefl _)
end
section
open Go Go.RowKit
attribute [local go_sem ↓] Go.wp_at_zero Go.wp_at_succ

/-- a hub of the call's own, under way -/
structure ShS (w W : World) (hb : Nat) (st : HSt) (L : List AM) (sz gn kn : Nat) : Prop where
  ex : ∃ P, HubS w W P hb st L sz gn kn
  bel : Below w.heap.size w W
section
variable {w W W' : World} {hb : Nat} {st : HSt} {L : List AM} {sz gn kn : Nat}
theorem ShS.below (h : ShS w W hb st L sz gn kn) (hb2 : Below W.heap.size W W') : ShS w W' hb st L sz gn kn := by
  obtain ⟨P, hP⟩ := h.ex
  exact ⟨⟨P, hP.below hb2⟩, h.bel.trans (hb2.mono h.bel.size)⟩
theorem HubD.sh {P : Nat → Prop} (h : HubD w W P hb st L sz gn kn W') (hB : Below w.heap.size w W) (hP : Owns w W P) : ShS w W' hb st L sz gn kn := ⟨⟨_, h.1⟩, below_frame hB h.2 hP.lo⟩
theorem sh_new (w : World) : Calls Tryz.prog 9 #[] w fun e w' => ∃ hb, e = .returned (.pointer (some ⟨hb, 0, none⟩)) ∧ ShS w w' hb ([], []) [] 0 0 0 ∧ Below w.heap.size w w' := by
  refine (hs_new w).mono ?_
  rintro e w' ⟨hb, rfl, h1, h2⟩
  exact ⟨hb, rfl, ⟨⟨_, h1⟩, h2⟩, h2⟩
theorem sh_join (h : ShS w W hb st L sz gn kn) (hT : Tabs w) (s : ByteArray) (id : Int) (hs : s.size ≤ 1048576) (hz : (Lit.int .i64 id).wf = true) (hsz : sz ≤ 50000000) (hl : st.1.length ≤ 100000000) (hgn : gn ≤ 100000000) :
    Calls Tryz.prog 10 #[.pointer (some ⟨hb, 0, none⟩), .string s, .int .i64 id] W fun e w' => e = .returned (.bool (joinA st s id).1) ∧ ShS w w' hb (joinA st s id).2 L (sz + s.size + 2) (gn + 1) kn := by
  obtain ⟨P, hP⟩ := h.ex
  refine (hs_join hP h.bel hT s id hs hz hsz hl hgn).mono ?_
  rintro e w' ⟨rfl, h1⟩
  exact ⟨rfl, h1.sh h.bel hP.owns⟩
theorem sh_leave (h : ShS w W hb st L sz gn kn) (hT : Tabs w) (s : ByteArray) (id : Int) (hs : s.size ≤ 1048576) (hz : (Lit.int .i64 id).wf = true) (hsz : sz ≤ 100000000) (hl : st.1.length ≤ 100000000) :
    Calls Tryz.prog 20 #[.pointer (some ⟨hb, 0, none⟩), .string s, .int .i64 id] W fun e w' => e = .returned (.bool (leaveA st s id).1) ∧ ShS w w' hb (leaveA st s id).2 L sz gn kn := by
  obtain ⟨P, hP⟩ := h.ex
  refine (hs_leave hP h.bel hT s id hs hz hsz hl).mono ?_
  rintro e w' ⟨rfl, h1⟩
  exact ⟨rfl, h1.sh h.bel hP.owns⟩
theorem sh_send (h : ShS w W hb st L sz gn kn) (hT : Tabs w) (s : ByteArray) (hs : s.size ≤ 1048576) (hwf : ∀ x ∈ st.1, (Lit.int .i64 x.2).wf = true) (hsz : sz ≤ 100000000) (hl : st.1.length ≤ 100000000) (hg : st.2.length ≤ 100000000) :
    Calls Tryz.prog 11 #[.pointer (some ⟨hb, 0, none⟩), .string s] W fun e w' => ∃ v ids0 out st', e = .returned v ∧ IS w' v out ∧ SendA st s ids0 out st' ∧ ShS w w' hb st' L sz gn kn := by
  obtain ⟨P, hP⟩ := h.ex
  refine (hs_send hP h.bel hT s hs hwf hsz hl hg).mono ?_
  rintro e w' ⟨v, ids0, out, st', rfl, h1, h2, h3⟩
  exact ⟨v, ids0, out, st', rfl, h1.is, h2, h3.sh h.bel hP.owns⟩
theorem sh_keep (h : ShS w W hb st L sz gn kn) (m : Mg) (hd : DvIs W m.f m.body m.t) (hsm : DvSm m.f m.t) (htp : m.tp.size ≤ 1048576) (hkn : kn ≤ 100000000) :
    Calls Tryz.prog 14 #[.pointer (some ⟨hb, 0, none⟩), .agg #[.int .i64 m.id, .string m.tp, .int .i64 m.kd, .int .i64 m.di, .int .u64 m.db, .string m.ds, .slice m.q m.n m.c, .int .i64 m.at_, .int .i64 m.un, .string m.rp, .int .i64 m.co, .int .i64 m.pr, .int .i64 m.ho]] W fun e w' => e = .returned (.bool (keepA L m.am).1) ∧ ShS w w' hb st (keepA L m.am).2 sz gn (kn + 1) := by
  obtain ⟨P, hP⟩ := h.ex
  refine (hs_keep hP h.bel m hd hsm htp hkn).mono ?_
  rintro e w' ⟨rfl, h1⟩
  exact ⟨rfl, h1.sh h.bel hP.owns⟩
theorem sh_kept (h : ShS w W hb st L sz gn kn) (hT : Tabs w) (s : ByteArray) (hs : s.size ≤ 1048576) (hL : L.length ≤ 10000000) :
    Calls Tryz.prog 15 #[.pointer (some ⟨hb, 0, none⟩), .string s] W fun e w' => ∃ (v : Value) (out : List Mg), e = .returned v ∧ MRow w' W.heap.size v out ∧ KeptA L s (out.map Mg.am) ∧ (∀ m ∈ out, DvIn (RowP W.heap.size w' v) w' m.f m.body m.t ∧ DvSm m.f m.t) ∧ Below W.heap.size W w' := by
  obtain ⟨P, hP⟩ := h.ex
  exact hs_kept hP h.bel hT s hs hL
end
theorem is_new1 (w : World) (a : Int) : IS (w.alloc (.cells #[.int .i64 a] 3)) (.slice (some ⟨w.heap.size, 0, none⟩) 1 1) [a] := by
  refine ⟨_, 1, rfl, Nat.le_refl _, by omega, .inr ⟨w.heap.size, 0, rfl, fun j x hj => ?_⟩⟩
  rw [cell_of_row _ _ _ _ _ _ (heap_alloc_new w (.cells #[.int .i64 a] 3))]
  match j, hj with
  | 0, hj => injection hj with hj; subst hj; rfl
  | j + 1, hj => simp at hj
def xMsg : Mg := ⟨0, bX, 13, 0, 0, ⟨#[]⟩, none, 0, 0, 0, 0, ⟨#[]⟩, 0, 0, 0, .mk 13 0 0 ⟨#[]⟩ [], 1⟩
theorem xMsg_dv (W : World) : DvIs W xMsg.f xMsg.body xMsg.t := (show DvIs W 1 [.int .i64 13, .int .i64 0, .int .u64 0, .string ⟨#[]⟩, .slice none 0 0] (.mk 13 0 0 ⟨#[]⟩ []) from (DvIn.leaf (fun _ => True) W 0 (by unfold I64; omega) (by unfold I64; omega) (by omega)).is)
theorem xMsg_sm : DvSm xMsg.f xMsg.t := ⟨by simp, fun t ht => by cases ht⟩
theorem xKeep : keepA [] xMsg.am = (true, [xMsg.am]) := by
  unfold keepA
  rw [if_neg (by decide)]
  rfl
set_option maxRecDepth 100000 in
set_option maxHeartbeats 8000000 in
theorem shAwake_any (w : World) (hT : Tabs w) : Calls Tryz.prog 12 #[] w fun e w' => e = .returned (.bool true) ∧ Below w.heap.size w w' := by
  obtain ⟨PP, hPP⟩ : ∃ PP : Ending → World → Prop, (fun e w' => e = .returned (.bool true) ∧ Below w.heap.size w w') = PP := ⟨_, rfl⟩
  rw [hPP]
  have HPP := Lib.hid hPP
  have HT := Lib.hid hT
  clear hPP
  go_enter Tryz.func12, Tryz.ntmps12
  go_wp2_with (go_at_call 9; refine (sh_new w).mono ?_; rintro e w1 ⟨hb, rfl, h1, -⟩)
  have HO1 := Lib.hid h1
  clear h1 hT
  go_wp2_with fail
  refine (sh_join HO1.out HT.out fB 7 (by decide) (by decide) (by omega) (by simp) (by omega)).mono ?_
  rw [aw_j1]
  rintro e w2 ⟨rfl, h2⟩
  have HO2 := Lib.hid h2
  clear h2
  go_wp2_with fail
  refine (sh_join HO2.out HT.out kG 1 (by decide) (by decide) (by decide) (by simp) (by omega)).mono ?_
  rw [aw_j2]
  rintro e w3 ⟨rfl, h3⟩
  have HO3 := Lib.hid h3
  clear h3
  go_wp2_with fail
  refine (sh_join HO3.out HT.out kG 2 (by decide) (by decide) (by decide) (by simp) (by omega)).mono ?_
  rw [aw_j3]
  rintro e w4 ⟨rfl, h4⟩
  have h4' : ShS w w4 hb (aw 0) [] 100 3 0 := by obtain ⟨⟨P, hP⟩, hB⟩ := h4; exact ⟨⟨P, hP.more (by decide) (by omega) (by omega)⟩, hB⟩
  have HO4 := Lib.hid h4'
  clear h4 h4'
  go_wp2_with fail
  refine (split_any kH w4 (by decide) (HT.out.below HO4.out.bel)).mono ?_
  unfold SplitPost
  rw [split_yes split_H]
  rintro e w5 ⟨rfl, h5⟩
  have HO5 := Lib.hid (HO4.out.below h5)
  clear h5
  go_wp2_with fail
  refine (sh_send HO5.out HT.out fC (by decide) (aw_wf 0) (by omega) (by decide) (by decide)).mono ?_
  rintro e w6 ⟨v6, ids6, out6, st6, rfl, hr6, hs6, ho6⟩
  obtain ⟨e6, e6'⟩ := aw0 hs6
  subst e6
  subst e6'
  have HR6 := Lib.hid hr6
  have HO6 := Lib.hid ho6
  clear hr6 hs6 ho6
  obtain ⟨q6, c6, rfl⟩ := (IS_fl HR6.out).form
  go_wp2_with fail
  have hA6 : Below w6.heap.size w6 (w6.alloc (.cells #[.int .i64 7, .int .i64 1] 3)) := (Below.refl _ _).alloc (Nat.le_refl _) _
  refine (same_any _ _ _ [7, 1] [7, 1] (HR6.out.below hA6) (is_new2 w6 7 1)).mono ?_
  rintro e w7 ⟨he7, hb7⟩
  have he7' : e = .returned (.bool true) := he7
  subst he7'
  have HO7 := Lib.hid ((HO6.out.below hA6).below hb7)
  clear hb7 he7 hA6
  go_wp2_with fail
  refine (sh_send HO7.out HT.out fC (by decide) (aw_wf 1) (by omega) (by decide) (by decide)).mono ?_
  rintro e w8 ⟨v8, ids8, out8, st8, rfl, hr8, hs8, ho8⟩
  obtain ⟨e8, e8'⟩ := aw1 hs8
  subst e8
  subst e8'
  have HR8 := Lib.hid hr8
  have HO8 := Lib.hid ho8
  clear hr8 hs8 ho8
  obtain ⟨q8, c8, rfl⟩ := (IS_fl HR8.out).form
  go_wp2_with fail
  have hA8 : Below w8.heap.size w8 (w8.alloc (.cells #[.int .i64 7, .int .i64 2] 3)) := (Below.refl _ _).alloc (Nat.le_refl _) _
  refine (same_any _ _ _ [7, 2] [7, 2] (HR8.out.below hA8) (is_new2 w8 7 2)).mono ?_
  rintro e w9 ⟨he9, hb9⟩
  have he9' : e = .returned (.bool true) := he9
  subst he9'
  have HO9 := Lib.hid ((HO8.out.below hA8).below hb9)
  clear hb9 he9 hA8
  go_wp2_with fail
  refine (sh_send HO9.out HT.out fC (by decide) (aw_wf 0) (by omega) (by decide) (by decide)).mono ?_
  rintro e w10 ⟨v10, ids10, out10, st10, rfl, hr10, hs10, ho10⟩
  obtain ⟨e10, e10'⟩ := aw0 hs10
  subst e10
  subst e10'
  have HR10 := Lib.hid hr10
  have HO10 := Lib.hid ho10
  clear hr10 hs10 ho10
  obtain ⟨q10, c10, rfl⟩ := (IS_fl HR10.out).form
  go_wp2_with fail
  have hA10 : Below w10.heap.size w10 (w10.alloc (.cells #[.int .i64 7, .int .i64 1] 3)) := (Below.refl _ _).alloc (Nat.le_refl _) _
  refine (same_any _ _ _ [7, 1] [7, 1] (HR10.out.below hA10) (is_new2 w10 7 1)).mono ?_
  rintro e w11 ⟨he11, hb11⟩
  have he11' : e = .returned (.bool true) := he11
  subst he11'
  have HO11 := Lib.hid ((HO10.out.below hA10).below hb11)
  clear hb11 he11 hA10
  go_wp2_with fail
  refine (sh_send HO11.out HT.out nA (by decide) (aw_wf 1) (by omega) (by decide) (by decide)).mono ?_
  rintro e w12 ⟨v12, ids12, out12, st12, rfl, hr12, hs12, ho12⟩
  obtain ⟨e12, e12'⟩ := awA hs12
  subst e12
  subst e12'
  have HR12 := Lib.hid hr12
  have HO12 := Lib.hid ho12
  clear hr12 hs12 ho12
  obtain ⟨q12, c12, rfl⟩ := (IS_fl HR12.out).form
  go_wp2_with fail
  have hA12 : Below w12.heap.size w12 (w12.alloc (.cells #[.int .i64 7] 3)) := (Below.refl _ _).alloc (Nat.le_refl _) _
  refine (same_any _ _ _ [7] [7] (HR12.out.below hA12) (is_new1 w12 7)).mono ?_
  rintro e w13 ⟨he13, hb13⟩
  have he13' : e = .returned (.bool true) := he13
  subst he13'
  have HO13 := Lib.hid ((HO12.out.below hA12).below hb13)
  clear hb13 he13 hA12
  have efB : fB.toList = [97, 47, 35] := by decide +kernel
  go_wp2_with fail
  have hA13 : Below w13.heap.size w13 w13 := Below.refl _ _
  refine (sh_keep HO13.out xMsg (xMsg_dv _) xMsg_sm (by decide) (by omega)).mono ?_
  rw [xKeep]
  rintro e w14 ⟨rfl, h14⟩
  have HO14 := Lib.hid h14
  clear h14 hA13
  go_wp2_with fail
  refine (sh_kept HO14.out HT.out bX (by decide) (by decide)).mono ?_
  rintro e w15 ⟨v15, out15, rfl, hr15, hk15, -, hb15⟩
  have hl15 : out15.length = 1 := by
    have e := awKept (m := xMsg.am) rfl hk15
    have e2 := congrArg List.length e
    rw [List.length_map] at e2
    exact e2
  obtain ⟨q15, c15, rfl⟩ := hr15.slice
  rw [hl15]
  have HO15 := Lib.hid (HO14.out.below hb15)
  clear hr15 hk15 hb15 hl15
  go_wp2_with fail
  rw [← HPP.out]
  exact ⟨rfl, HO15.out.bel⟩
end
section
open Go Go.ChangeShapes Go.WideShapes Go.ChangeAt Go.RowKit

theorem own : ownKnob Tryz.prog.godebug = none := by kernel_rfl
def laidTabs2 : List (String × DataW Unit) := Rows.shareFullUptoRow.laid
set_option maxRecDepth 100000 in
theorem first_eq : Rows.laid_unicode_utf8_first = Lib.firstData := by kernel_rfl
theorem accept_eq : (Rows.laid_unicode_utf8_acceptRanges : DataW Unit) = Lib.acceptData := by kernel_rfl
theorem tabs_of2 {W : World} (h : laidMetH Tryz.prog laidTabs2 W) : Tabs W := by
  have h : laidMetH Tryz.prog [(_, Rows.laid_unicode_utf8_acceptRanges), (_, Rows.laid_unicode_utf8_first)] W := h
  rw [first_eq, accept_eq] at h
  exact utf8Tabs_of_readsT (U8Types.of196 Tryz.laysn196) ⟨by kernel_rfl, by kernel_rfl, by kernel_rfl, by kernel_rfl, by kernel_rfl, by kernel_rfl, by kernel_rfl⟩ (Lib.laidMet.reads h (.tail _ (.head _))) (Lib.laidMet.reads h (.head _))
/-- the settled world, the variables holding what their initialisers lay -/
noncomputable def laidWorld2 (os : Os) : World :=
  let w0 := World.holding Tryz.prog os ⟨#[], #[], []⟩
  let put (h : Array Obj) (g : Nat) (cs : Array Value) : Array Obj := h.modify g fun
    | .cells _ t frozen => .cells cs t frozen
    | o => o
  let h1 := put w0.heap 0 (Lib.firstTab.map fun z => Value.int .u8 z).toArray
  let h2 := put h1 1 ((List.range 16).flatMap fun i => [Value.int .u8 (Lib.accLo i), Value.int .u8 (Lib.accHi i)]).toArray
  { w0 with heap := h2 }
theorem laid_met2 (os : Os) (args : Array Value) : laidMet Tryz.prog laidTabs2 ((laidWorld2 os).forCall (fun _ _ => 0) ⟨#[], args, []⟩).memory :=
  (LaidIn.of_run (l := laidTabs2) [0, 1] 8 (by kernel_rfl) (by kernel_rfl) (by kernel_rfl) (by kernel_rfl)).met
end
end Go.Proofs.YtincmegllckcjaaGreatDoor
