/- STATS: the plain part: what is counted; and how the book lies in memory. -/
import Derived.WalkKit
import Derived.Lib.Hide
import Derived.Below
import Derived.OwnWalk
import Derived.Laws.OwnMore
import Derived.Deep.AppendLies
import Derived.Maps.Views
import Derived.Deep.Draws
import Derived.Carry
import Derived.Test.YtejehjlegfpgbaaProg
namespace Go.Proofs.Ytejehjlegfpgbaa
open Go Go.RowKit Go.Maps

/-- an event -/
structure Ev where
  k : Int
  a : Int
  i : Int
  h : Int
  er : Int
  x : Nat → Int
  xb : Bool
  xs : ByteArray
  xp : Option Addr
  xn : Nat
  xc : Nat
/-- its cells -/
def ec (e : Ev) : List Value := [.int .i64 e.k, .int .i64 e.a, .int .i64 e.i, .int .i64 e.h, .int .i64 (e.x 4), .int .i64 e.er, .int .i64 (e.x 6), .int .i64 (e.x 7), .int .i64 (e.x 8), .bool e.xb, .int .i64 (e.x 10), .int .i64 (e.x 11), .int .u64 (e.x 12), .string e.xs, .slice e.xp e.xn e.xc]
/-- what is counted so far: nine numbers a handler, the waits, when messages were published -/
structure St where
  c : Nat → Int
  w : Nat → List Int
  f : Int → Option Int
def upd {α : Type} (g : Nat → α) (j : Nat) (v : α) : Nat → α := fun i => if i = j then v else g i
def inc (c : Nat → Int) (j : Nat) (v : Int) : Nat → Int := upd c j (wrap64 (c j + v))
theorem upd_same {α : Type} (g : Nat → α) (j : Nat) (v : α) : upd g j v j = v := by unfold upd; rw [if_pos rfl]
theorem upd_other {α : Type} (g : Nat → α) {j i : Nat} (v : α) (h : i ≠ j) : upd g j v i = g i := by unfold upd; rw [if_neg h]
def put (f : Int → Option Int) (i a : Int) : Int → Option Int := fun j => if j = i then some a else f j
def InR (n : Nat) (h : Int) : Prop := 0 ≤ h ∧ h < n
instance (n : Nat) (h : Int) : Decidable (InR n h) := by unfold InR; infer_instance
/-- a result is counted -/
def doneC (c : Nat → Int) (b : Nat) (er : Int) : Nat → Int :=
  let c1 := inc c (b + 4) 1
  let c2 := if er = 0 then inc c1 (b + 5) 1 else c1
  if er = 110 then inc c2 (b + 6) 1 else c2
def waitC (c : Nat → Int) (b : Nat) (w : Int) : Nat → Int :=
  let c4 := inc c (b + 7) w
  upd c4 (b + 8) (max (c4 (b + 8)) w)
def doneS (n : Nat) (s : St) (e : Ev) : St :=
  if InR n e.h then match s.f e.i with
    | none => { s with c := doneC s.c (e.h.toNat * 9) e.er }
    | some t => { s with c := waitC (doneC s.c (e.h.toNat * 9) e.er) (e.h.toNat * 9) (max (e.a - t) 0), w := upd s.w e.h.toNat (s.w e.h.toNat ++ [max (e.a - t) 0]) }
  else s
def kindF (k : Int) : Option Nat := if k = 3 then some 0 else if k = 4 then some 1 else if k = 5 then some 2 else if k = 6 then some 3 else none
def stepS (n : Nat) (s : St) (e : Ev) : St :=
  if e.k = 1 then { s with f := put s.f e.i e.a } else if e.k = 7 then doneS n s e else match kindF e.k with
    | none => s
    | some j => if InR n e.h then { s with c := inc s.c (e.h.toNat * 9 + j) 1 } else s
def startS : St := ⟨fun _ => 0, fun _ => [], fun _ => none⟩
def readS (n : Nat) (l : List Ev) : St := l.foldl (stepS n) startS
theorem readS_snoc (n : Nat) (l : List Ev) (k : Nat) (e : Ev) (h : l[k]? = some e) : readS n (l.take (k + 1)) = stepS n (readS n (l.take k)) e := by
  unfold readS; rw [List.take_add_one, h]; simp [List.foldl_append]
/-- fit events: they lie at ticks -/
def FitE (e : Ev) : Prop := 0 ≤ e.a ∧ e.a ≤ 1099511627776
def Wf (n : Int) : Prop := -9223372036854775808 ≤ n ∧ n ≤ 9223372036854775807
theorem Wf.lit {n : Int} (h : Wf n) : (Lit.int .i64 n).wf = true := by
  unfold Wf at h; simp [Lit.wf, IntKind.min, IntKind.max, IntKind.signed, IntKind.bits]; omega

/-- the slice value v reads as the events l -/
def Evs (w : World) (v : Value) (l : List Ev) : Prop :=
  ∃ p cap, v = .slice p l.length cap ∧ l.length ≤ cap ∧ cap ≤ 9223372036854775807 ∧ (0 < l.length → ∃ b o, p = some ⟨b, o, none⟩ ∧ ∀ j e, l[j]? = some e → ∀ i u, (ec e)[i]? = some u → w.cell? ⟨b, o + (j * 15 + i), none⟩ = some u)
theorem Evs.below {w w' : World} {v : Value} {l : List Ev} (h : Evs w v l) (hb : Below w.heap.size w w') : Evs w' v l := by
  obtain ⟨p, cap, hv, h1, h2, hc⟩ := h
  refine ⟨p, cap, hv, h1, h2, fun hn => ?_⟩
  obtain ⟨b, o, hp, hc⟩ := hc hn
  exact ⟨b, o, hp, fun j e hj i u hu => (hb.cell (World.block_lt_of_cell? w _ (hc j e hj i u hu))).trans (hc j e hj i u hu)⟩
theorem Evs.form {w : World} {v : Value} {l : List Ev} (h : Evs w v l) (hn : 0 < l.length) : ∃ b o cap, v = .slice (some ⟨b, o, none⟩) l.length cap ∧ b < w.heap.size ∧ ∀ j e, l[j]? = some e → ∀ i u, (ec e)[i]? = some u → w.cell? ⟨b, o + j * 15 + i, none⟩ = some u := by
  obtain ⟨p, cap, rfl, _, _, hc⟩ := h
  obtain ⟨b, o, rfl, hd⟩ := hc hn
  refine ⟨b, o, cap, rfl, World.block_lt_of_cell? w _ (hd 0 _ (List.getElem?_eq_getElem hn) 0 _ rfl), fun j e hj i u hu => ?_⟩
  have := hd j e hj i u hu
  rwa [← Nat.add_assoc] at this

/-- block g is a map that says what f says -/
def MapIs (w : World) (g m : Nat) (f : Int → Option Int) : Prop :=
  ∃ D : DataW Unit, w.ownsMap Try.prog 2 (plainElem Try.prog 2) g m D ∧ IsMap D ∧ ∀ i : Int, match f i with
    | none => ∀ z, D.atKey (.int .i64 i) z = z
    | some a => ∀ z, D.atKey (.int .i64 i) z = .lit (.int .i64 a)
theorem keyed64 : Keyed Try.prog 2 := int_keyed Try.underlying2
theorem zero64 (w : World) : (zeroValue 2).run Try.prog w = .ok (.int .i64 0) w := Try.zeroValue2 w
theorem key64 {i : Int} (h : Wf i) : keyOf Try.prog 2 (.int .i64 i) = some (.int .i64 i) := keyOf_int_mk Try.underlying2 h.lit
theorem MapIs.kept {w w' : World} {g m : Nat} {f : Int → Option Int} {row : Option Nat} (h : MapIs w g m f) (hg : w.grownBy w' row) (hne : some g ≠ row) : MapIs w' g m f := by
  obtain ⟨D, h1, h2, h3⟩ := h
  exact ⟨D, h1.kept hg hne, h2, h3⟩
theorem MapIs.look {w : World} {g m : Nat} {f : Int → Option Int} (h : MapIs w g m f) {i : Int} (hi : Wf i) :
    (Instr.lookup 51 (.map (some g)) (.int .i64 i) true).run Try.prog w = .ok (.tuple #[.int .i64 ((f i).getD 0), .bool (f i).isSome]) w := by
  obtain ⟨D, ⟨es, clock, hb, F, _, rfl⟩, h2, h3⟩ := h
  have h4 := h3 i
  rcases fit_look true keyed64 Try.underlying51 (zero64 w) hb F (key64 hi) with ⟨hrun, _, hat⟩ | ⟨e0, y, _, _, hrun, hRv, hat, _⟩
  · cases hf : f i with
    | none => simpa using hrun
    | some a =>
      rw [hf] at h4
      have := (h4 (.lit (.bool true))).symm.trans (hat (.lit (.bool true)))
      cases this
  · obtain ⟨c, hv, hy, _⟩ := plainElem_int_inv Try.underlying2 hRv
    cases hf : f i with
    | none =>
      rw [hf] at h4
      have := (h4 (.lit (.bool true))).symm.trans (hat (.lit (.bool true)))
      rw [hy] at this; cases this
    | some a =>
      rw [hf] at h4
      have := (h4 (.lit (.bool true))).symm.trans (hat (.lit (.bool true)))
      rw [hy] at this
      injection this with this
      injection this with _ this
      rw [hrun, hv, this]; rfl
theorem MapIs.upd_ {w' : World} {g m : Nat} {f : Int → Option Int} {i a : Int} (D : DataW Unit) (hD : IsMap D) (h3 : ∀ i : Int, match f i with
    | none => ∀ z, D.atKey (.int .i64 i) z = z
    | some a => ∀ z, D.atKey (.int .i64 i) z = .lit (.int .i64 a)) (h : w'.ownsMap Try.prog 2 (plainElem Try.prog 2) g m (D.put (.int .i64 i) (.lit (.int .i64 a)))) : MapIs w' g m (put f i a) := by
  refine ⟨_, h, hD.put _ _, fun j => ?_⟩
  by_cases hj : j = i
  · subst hj
    have e : put f j a j = some a := by unfold put; rw [if_pos rfl]
    rw [e]
    exact fun z => atKey_put_same hD (by simp [WideAt.IsKeyLit]) _ z
  · have e : put f i a j = f j := by unfold put; rw [if_neg hj]
    have h4 := h3 j
    rw [e]
    have hne : (Lit.int .i64 j) ≠ Lit.int .i64 i := fun h => hj (by injection h)
    cases hf : f j with
    | none => rw [hf] at h4; exact fun z => by rw [atKey_put_other hne]; exact h4 z
    | some b => rw [hf] at h4; exact fun z => by rw [atKey_put_other hne]; exact h4 z

/-- HOW THE BOOK LIES: its block, the counts', the waits', the map -/
structure BK (w : World) (base gB gC gW gM n m : Nat) (V : Nat → Value) (s : St) : Prop where
  n64 : n ≤ 64
  lt : gB < base ∧ gC < base ∧ gW < base ∧ gM < base ∧ base ≤ w.heap.size
  ne : gB ≠ gC ∧ gB ≠ gW ∧ gB ≠ gM ∧ gC ≠ gW ∧ gC ≠ gM ∧ gW ≠ gM
  bk : w.heap[gB]? = some (.cells #[.slice (some ⟨gC, 0, none⟩) n n, .slice (some ⟨gW, 0, none⟩) n n, .map (some gM)] 53 (0, 0))
  cn : ∃ cur : Array Value, w.heap[gC]? = some (.cells cur 30 (0, 0)) ∧ cur.size = 9 * n ∧ ∀ j, j < 9 * n → cur[j]? = some (.int .i64 (s.c j))
  wt : ∃ cur : Array Value, w.heap[gW]? = some (.cells cur 32 (0, 0)) ∧ cur.size = n ∧ ∀ h, h < n → cur[h]? = some (V h)
  rw_ : ∀ h, h < n → w.ownsRow base 2 1 (V h) (s.w h).length ((s.w h).map (Value.int .i64))
  ds : ∀ h h', h < n → h' < n → h ≠ h' → (V h).ownBlock = none ∨ (V h).ownBlock ≠ (V h').ownBlock
  mp : MapIs w gM m s.f

section
variable {w w' : World} {base gB gC gW gM n m : Nat} {V : Nat → Value} {s : St}
theorem BK.far (h : BK w base gB gC gW gM n m V s) {g : Nat} (hg : g < base) {r : Nat} (hr : r < n) : (V r).ownBlock = none ∨ (V r).ownBlock ≠ some g := by
  cases hv : (V r).ownBlock with
  | none => exact .inl rfl
  | some k => exact .inr (fun e => by injection e with e; have := ((h.rw_ r hr).lt k hv).1; omega)
theorem BK.below (h : BK w base gB gC gW gM n m V s) (hb : Below w.heap.size w w') : BK w' base gB gC gW gM n m V s := by
  have hg : w.grownBy w' none := ⟨hb.os, hb.tape, hb.output, hb.size, fun i hi _ => hb.block i hi⟩
  have hl := h.lt
  obtain ⟨c1, h1, h2, h3⟩ := h.cn
  obtain ⟨c2, h4, h5, h6⟩ := h.wt
  exact ⟨h.n64, ⟨hl.1, hl.2.1, hl.2.2.1, hl.2.2.2.1, Nat.le_trans hl.2.2.2.2 hb.size⟩, h.ne, (hb.block _ (by omega)).trans h.bk, ⟨c1, (hb.block _ (by omega)).trans h1, h2, h3⟩, ⟨c2, (hb.block _ (by omega)).trans h4, h5, h6⟩,
    fun r hr => (h.rw_ r hr).kept hg (by cases (V r).ownBlock <;> simp), h.ds, h.mp.kept hg (by simp)⟩
/-- another block than the book's has turned -/
theorem BK.beyond (h : BK w base gB gC gW gM n m V s) {g : Nat} (hg : w.grownBy w' (some g)) (hb : base ≤ g) (hv : ∀ r, r < n → (V r).ownBlock ≠ some g) : BK w' base gB gC gW gM n m V s := by
  have hl := h.lt
  obtain ⟨c1, h1, h2, h3⟩ := h.cn
  obtain ⟨c2, h4, h5, h6⟩ := h.wt
  have hk : ∀ i, i < base → w'.heap[i]? = w.heap[i]? := fun i hi => hg.block i (by omega) (fun e => by injection e with e; omega)
  exact ⟨h.n64, ⟨hl.1, hl.2.1, hl.2.2.1, hl.2.2.2.1, Nat.le_trans hl.2.2.2.2 hg.size⟩, h.ne, (hk _ (by omega)).trans h.bk, ⟨c1, (hk _ (by omega)).trans h1, h2, h3⟩, ⟨c2, (hk _ (by omega)).trans h4, h5, h6⟩,
    fun r hr => (h.rw_ r hr).kept hg (.inr (hv r hr)), h.ds, h.mp.kept hg (fun e => by injection e with e; omega)⟩
theorem BK.drewN (h : BK w base gB gC gW gM n m V s) (q : Nat) : BK (w.drewN q) base gB gC gW gM n m V s := ⟨h.n64, h.lt, h.ne, h.bk, h.cn, h.wt, h.rw_, h.ds, h.mp⟩
theorem BK.drew_ (h : BK w base gB gC gW gM n m V s) : BK w.drew base gB gC gW gM n m V s := ⟨h.n64, h.lt, h.ne, h.bk, h.cn, h.wt, h.rw_, h.ds, h.mp⟩
theorem BK.setC (h : BK w base gB gC gW gM n m V s) {j : Nat} (hj : j < 9 * n) (v : Int) {u : Value} (hu : u = .int .i64 v) : BK (w.setCell ⟨gC, j, none⟩ u) base gB gC gW gM n m V { s with c := upd s.c j v } := by
  subst hu
  have hl := h.lt
  have hn := h.ne
  obtain ⟨c1, h1, h2, h3⟩ := h.cn
  obtain ⟨c2, h4, h5, h6⟩ := h.wt
  have hg : w.grownBy (w.setCell ⟨gC, j, none⟩ (Value.int .i64 v)) (some gC) := ⟨rfl, rfl, rfl, by simp [World.setCell], fun k hk hne => Below.heap_setCell w ⟨gC, j, none⟩ (Value.int .i64 v) k (fun e => hne (by rw [e]))⟩
  refine ⟨h.n64, ⟨hl.1, hl.2.1, hl.2.2.1, hl.2.2.2.1, Nat.le_trans hl.2.2.2.2 hg.size⟩, h.ne, (hg.block _ (by omega) (fun e => by injection e with e; omega)).trans h.bk, ⟨c1.setIfInBounds j (Value.int .i64 v), heap_setCell_same w gC j _ _ _ h1, by simpa using h2, fun i hi => ?_⟩,
    ⟨c2, (hg.block _ (by omega) (fun e => by injection e with e; omega)).trans h4, h5, h6⟩, fun r hr => (h.rw_ r hr).kept hg (h.far hl.2.1 hr), h.ds, h.mp.kept hg (fun e => by injection e with e; omega)⟩
  show _ = some (Value.int .i64 (upd s.c j v i))
  by_cases e : i = j
  · subst e; rw [upd_same, Array.getElem?_setIfInBounds_self_of_lt (by omega)]
  · rw [upd_other _ _ e, Array.getElem?_setIfInBounds_ne (fun h => e h.symm)]; exact h3 i hi
theorem BK.cellC (h : BK w base gB gC gW gM n m V s) {j : Nat} (hj : j < 9 * n) : w.cell? ⟨gC, j, none⟩ = some (.int .i64 (s.c j)) := by
  obtain ⟨c1, h1, h2, h3⟩ := h.cn
  rw [cell_of_row w gC j _ _ _ h1]; exact h3 j hj
theorem BK.frozenC (h : BK w base gB gC gW gM n m V s) (j : Nat) : w.frozen? ⟨gC, j, none⟩ = false := by
  obtain ⟨c1, h1, h2, h3⟩ := h.cn
  simp [World.frozen?, h1]
theorem BK.cellW (h : BK w base gB gC gW gM n m V s) {j : Nat} (hj : j < n) : w.cell? ⟨gW, j, none⟩ = some (V j) := by
  obtain ⟨c1, h1, h2, h3⟩ := h.wt
  rw [cell_of_row w gW j _ _ _ h1]; exact h3 j hj
theorem BK.frozenW (h : BK w base gB gC gW gM n m V s) (j : Nat) : w.frozen? ⟨gW, j, none⟩ = false := by
  obtain ⟨c1, h1, h2, h3⟩ := h.wt
  simp [World.frozen?, h1]
theorem BK.cellB (h : BK w base gB gC gW gM n m V s) : w.cell? ⟨gB, 0, none⟩ = some (.slice (some ⟨gC, 0, none⟩) n n) ∧ w.cell? ⟨gB, 1, none⟩ = some (.slice (some ⟨gW, 0, none⟩) n n) ∧ w.cell? ⟨gB, 2, none⟩ = some (.map (some gM)) := by
  refine ⟨?_, ?_, ?_⟩ <;> (rw [cell_of_row w gB _ _ _ _ h.bk]; rfl)
/-- a message is published -/
theorem BK.map (h : BK w base gB gC gW gM n m V s) {m' : Nat} {f : Int → Option Int} (hg : w.grownBy w' (some gM)) (hm : MapIs w' gM m' f) : BK w' base gB gC gW gM n m' V { s with f := f } := by
  have hl := h.lt
  have hn := h.ne
  obtain ⟨c1, h1, h2, h3⟩ := h.cn
  obtain ⟨c2, h4, h5, h6⟩ := h.wt
  exact ⟨h.n64, ⟨hl.1, hl.2.1, hl.2.2.1, hl.2.2.2.1, Nat.le_trans hl.2.2.2.2 hg.size⟩, h.ne, (hg.block _ (by omega) (fun e => by injection e with e; omega)).trans h.bk, ⟨c1, (hg.block _ (by omega) (fun e => by injection e with e; omega)).trans h1, h2, h3⟩,
    ⟨c2, (hg.block _ (by omega) (fun e => by injection e with e; omega)).trans h4, h5, h6⟩, fun r hr => (h.rw_ r hr).kept hg (h.far hl.2.2.2.1 hr), h.ds, hm⟩
/-- a wait is appended to a row, and the row is stored -/
theorem BK.app (h : BK w base gB gC gW gM n m V s) {r : Nat} (hr : r < n) {v : Value} {l : List Int} (hg : w.grownBy w' (V r).ownBlock) (ho : w'.ownsRow base 2 1 v l.length (l.map (Value.int .i64))) (hnew : ∀ k, v.ownBlock = some k → (V r).ownBlock = some k ∨ w.heap.size ≤ k) :
    BK (w'.setCell ⟨gW, r, none⟩ v) base gB gC gW gM n m (upd V r v) { s with w := upd s.w r l } := by
  have hl := h.lt
  have hn := h.ne
  obtain ⟨c1, h1, h2, h3⟩ := h.cn
  obtain ⟨c2, h4, h5, h6⟩ := h.wt
  have hnb : ∀ g, g < base → ¬ some g = (V r).ownBlock := fun g hgb e => by have := ((h.rw_ r hr).lt g e.symm).1; omega
  have hgs : w'.grownBy (w'.setCell ⟨gW, r, none⟩ v) (some gW) := ⟨rfl, rfl, rfl, by simp [World.setCell], fun k hk hne => Below.heap_setCell w' ⟨gW, r, none⟩ _ k (fun e => hne (by rw [e]))⟩
  have hb : ∀ g, g < base → g ≠ gW → (w'.setCell ⟨gW, r, none⟩ v).heap[g]? = w.heap[g]? := fun g hgb hgw => (hgs.block g (by have := hg.size; omega) (fun e => hgw (by injection e))).trans (hg.block g (by omega) (hnb g hgb))
  refine ⟨h.n64, ⟨hl.1, hl.2.1, hl.2.2.1, hl.2.2.2.1, Nat.le_trans hl.2.2.2.2 (Nat.le_trans hg.size hgs.size)⟩, h.ne, (hb _ hl.1 (by omega)).trans h.bk, ⟨c1, (hb _ hl.2.1 (by omega)).trans h1, h2, h3⟩, ⟨c2.setIfInBounds r v, heap_setCell_same w' gW r _ _ _ ((hg.block _ (by omega) (hnb _ hl.2.2.1)).trans h4), by simpa using h5, fun i hi => ?_⟩,
    fun i hi => ?_, fun i i' hi hi' hne => ?_, (h.mp.kept hg (hnb _ hl.2.2.2.1)).kept hgs (fun e => by injection e with e; omega)⟩
  · show _ = some (upd V r v i)
    by_cases e : i = r
    · subst e; rw [upd_same, Array.getElem?_setIfInBounds_self_of_lt (by omega)]
    · rw [upd_other _ _ e, Array.getElem?_setIfInBounds_ne (fun h => e h.symm)]; exact h6 i hi
  · show World.ownsRow _ base _ 1 (upd V r v i) (upd s.w r l i).length ((upd s.w r l i).map _)
    by_cases e : i = r
    · subst e
      rw [upd_same, upd_same]
      refine ho.kept hgs ?_
      cases hv : v.ownBlock with
      | none => exact .inl rfl
      | some k => exact .inr (fun e => by injection e with e; have := (ho.lt k hv).1; omega)
    · rw [upd_other _ _ e, upd_other _ _ e]
      refine ((h.rw_ i hi).kept hg ?_).kept hgs (h.far hl.2.2.1 hi)
      exact h.ds i r hi hr e
  · by_cases e : i = r
    · subst e
      rw [upd_same, upd_other _ _ (Ne.symm hne)]
      cases hv : v.ownBlock with
      | none => exact .inl rfl
      | some k =>
        refine .inr (fun e1 => ?_)
        rcases hnew k hv with h7 | h7
        · rcases h.ds i i' hi hi' hne with h8 | h8
          · rw [h7] at h8; cases h8
          · exact h8 (h7.trans e1)
        · have := ((h.rw_ i' hi').lt k e1.symm).2; omega
    · rw [upd_other _ _ e]
      by_cases e' : i' = r
      · subst e'
        rw [upd_same]
        cases hv : (V i).ownBlock with
        | none => exact .inl rfl
        | some k =>
          refine .inr (fun e1 => ?_)
          rcases hnew k e1.symm with h7 | h7
          · rcases h.ds i i' hi hi' hne with h8 | h8
            · rw [hv] at h8; cases h8
            · exact h8 (hv.trans h7.symm)
          · have := ((h.rw_ i hi).lt k hv).2; omega
      · rw [upd_other _ _ e']; exact h.ds i i' hi hi' hne
end
end Go.Proofs.Ytejehjlegfpgbaa
