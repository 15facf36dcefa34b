/- WIRE: the program reads a value: the walk. -/
import Derived.Test.YtmncpbfghabamaaDoorWireRRow
namespace Go.Proofs.YtmncpbfghabamaaDoor
open Go Go.RowKit
attribute [local go_sem ↓] Go.wp_at_zero Go.wp_at_succ

theorem k_world {K : Act → World → Prop} {a : Act} {W : World} (R : World → Prop) (h : R W) (H : ∀ W, R W → K a W) : K a W := H W h
theorem wp_world {P : Program} {c : Code} {Q : Exit → Act → World → Prop} {a : Act} {W : World} (R : World → Prop) (h : R W) (H : ∀ W, R W → Code.wp P c Q a W) : Code.wp P c Q a W := H W h
theorem res_datum {W : World} {B : Nat} {cs : Array Value} (h : W.heap[B]? = some (.cells cs 25 (0, 0))) (hs : cs.size = 5) (tmps : Array Value) (h4 : tmps.getD 6 undef = .pointer (some ⟨B, 0, none⟩)) :
    (results Tryd.f35 tmps).run Tryd.prog W = .ok (.agg cs) W := by
  have h4' : tmps[6]?.getD undef = .pointer (some ⟨B, 0, none⟩) := by simpa using h4
  have hl := run_loadVar_row (P := Tryd.prog) W B 25 25 cs (0, 0) _ h Tryd.underlying25 rfl (by rw [hs]; kernel_rfl)
  simp [results, Tryd.results35, h4', asAddr, hl]
theorem DB.set5 {W : World} {B : Nat} {kd di db : Int} {ds : ByteArray} {v : Value} (h : DB W B kd di db ds v) (kd' di' db' : Int) (ds' : ByteArray) (v' : Value) :
    DB (((((W.setCell ⟨B, 0, none⟩ (.int .i64 kd')).setCell ⟨B, 1, none⟩ (.int .i64 di')).setCell ⟨B, 2, none⟩ (.int .u64 db')).setCell ⟨B, 3, none⟩ (.string ds')).setCell ⟨B, 4, none⟩ v') B kd' di' db' ds' v' :=
  ((((h.setKd kd').setDi di').setDb db').setDs ds').setV v'
theorem But.set5 {Br : Nat} {W W1 : World} (h : But Br W W1) (B : Nat) (hB : W.heap.size ≤ B) (a0 a1 a2 a3 a4 : Value) : But Br W (((((W1.setCell ⟨B, 0, none⟩ a0).setCell ⟨B, 1, none⟩ a1).setCell ⟨B, 2, none⟩ a2).setCell ⟨B, 3, none⟩ a3).setCell ⟨B, 4, none⟩ a4) :=
  ((((h.set _ _ (.inr hB)).set _ _ (.inr hB)).set _ _ (.inr hB)).set _ _ (.inr hB)).set _ _ (.inr hB)
theorem RB.set5 {Br : Nat} {W : World} {v : Value} {s : Cs} (h : RB W Br v s) (B : Nat) (hB : B ≠ Br) (a0 a1 a2 a3 a4 : Value) : RB (((((W.setCell ⟨B, 0, none⟩ a0).setCell ⟨B, 1, none⟩ a1).setCell ⟨B, 2, none⟩ a2).setCell ⟨B, 3, none⟩ a3).setCell ⟨B, 4, none⟩ a4) Br v s :=
  ((((h.setOther _ _ hB).setOther _ _ hB).setOther _ _ hB).setOther _ _ hB).setOther _ _ hB
theorem RB.alloc {W : World} {Br : Nat} {v : Value} {s : Cs} (h : RB W Br v s) (o : Obj) : RB (W.alloc o) Br v s := (Below.heap_alloc _ _ _ (Array.getElem?_eq_some_iff.1 h).1).trans h
theorem DB.alloc {W : World} {B : Nat} {kd di db : Int} {ds : ByteArray} {v : Value} (h : DB W B kd di db ds v) (o : Obj) : DB (W.alloc o) B kd di db ds v := (Below.heap_alloc _ _ _ (Array.getElem?_eq_some_iff.1 h).1).trans h
theorem DB.setOther {W : World} {B : Nat} {kd di db : Int} {ds : ByteArray} {v : Value} (h : DB W B kd di db ds v) (a : Addr) (u : Value) (hn : a.block ≠ B) : DB (W.setCell a u) B kd di db ds v := (Below.heap_setCell _ _ _ _ (fun e => hn e.symm)).trans h
theorem Tab.but {W W' : World} {Bt Br : Nat} {v : Value} {s : Cs} (h : Tab W Bt) (hr : RB W Br v s) (hb : But Br W W') : Tab W' Bt := by
  refine hb.boxed h ?_
  intro e
  subst e
  have h1 : W.heap[Bt]? = _ := h
  have h2 : W.heap[Bt]? = _ := hr
  rw [h1] at h2
  cases h2
/-- how a value's reading ends -/
def RdAt (q : Rd (Dv × Nat)) (P : Nat → Prop) (W : World) (f : Nat) (a : List Value) (s0 s3 : Cs) : Prop :=
  match q with
  | .done t u => s3.pos = s0.pos + u ∧ s3.err = 0 ∧ s3.parts = (t.2 : Nat) ∧ DvIn P W f a t.1
  | .short => s3.err = 260
  | .bad => s3.err = 262
/-- what a value's reading leaves -/
def DPost (l : List UInt8) (Br : Nat) (v : Value) (s : Cs) (f deep parts : Nat) (W : World) (r : Ending) (W' : World) : Prop :=
  ∃ (kd di db : Int) (ds : ByteArray) (p : Option Addr) (n c : Nat) (s' : Cs), r = .returned (.agg #[.int .i64 kd, .int .i64 di, .int .u64 db, .string ds, .slice p n c]) ∧ RB W' Br v s' ∧ But Br W W' ∧ s'.pos ≤ l.length ∧
    RdAt (valD f deep parts (l.drop s.pos)) (fun b => W.heap.size ≤ b ∧ b < W'.heap.size) W' f [.int .i64 kd, .int .i64 di, .int .u64 db, .string ds, .slice p n c] s s'
/-- what holds behind the byte of the kind -/
structure DAt (Br B : Nat) (v : Value) (s : Cs) (kd di db : Int) (ds : ByteArray) (va : Value) (W W1 : World) : Prop where
  rb : RB W1 Br v s
  but : But Br W W1
  res : DB W1 B 0 0 0 ⟨#[]⟩ (.slice none 0 0)
  own : DB W1 (B + 1) kd di db ds va
theorem fn_some (W : World) (fk : FuncId) : (binOp .eql 94 (.func (.func fk) #[] #[]) .nilFunc).run Tryd.prog W = .ok (.bool false) W := by kernel_rfl
theorem fn_none (W : World) : (binOp .eql 94 .nilFunc .nilFunc).run Tryd.prog W = .ok (.bool true) W := by kernel_rfl
theorem needs_at (k : Nat) (hk : k < 14) (W : World) : (Instr.index 95 (.agg #[.int .i64 0, .int .i64 0, .int .i64 0, .int .i64 0, .int .i64 0, .int .i64 0, .int .i64 0, .int .i64 0, .int .i64 0, .int .i64 2, .int .i64 0, .int .i64 1, .int .i64 0, .int .i64 0]) (.int .i64 (k : Int))).run Tryd.prog W = .ok (.int .i64 (needs k : Nat)) W := by
  have hc : k = 0 ∨ k = 1 ∨ k = 2 ∨ k = 3 ∨ k = 4 ∨ k = 5 ∨ k = 6 ∨ k = 7 ∨ k = 8 ∨ k = 9 ∨ k = 10 ∨ k = 11 ∨ k = 12 ∨ k = 13 := by omega
  rcases hc with rfl | rfl | rfl | rfl | rfl | rfl | rfl | rfl | rfl | rfl | rfl | rfl | rfl | rfl <;> (show _ = _; kernel_rfl)
/-- the reader of a kind's own fields -/
theorem field_any (l : List UInt8) (Br Bd : Nat) (v : Value) (hl : l.length ≤ 100000000) (k room : Nat) (hk : k < 14) (hrm : room ≤ 4096) : ∃ fk : FuncId, (fk = 53 ∨ fk = 55 ∨ fk = 57 ∨ fk = 58 ∨ fk = 59 ∨ fk = 60 ∨ fk = 61 ∨ fk = 62 ∨ fk = 63) ∧ tabF k = .func (.func fk) #[] #[] ∧
    ∀ (s : Cs) (W : World), RB W Br v s → DB W Bd (k : Nat) 0 0 ⟨#[]⟩ (.slice none 0 0) → Bs W v l → s.pos ≤ l.length → s.err = 0 → s.room = (room : Nat) →
      Calls Tryd.prog fk #[.pointer (some ⟨Br, 0, none⟩), .pointer (some ⟨Bd, 0, none⟩)] W (FPost l Br Bd v s room k W) := by
  by_cases h1 : k = 0 ∨ k = 12 ∨ k = 13
  · exact ⟨57, by simp, by unfold tabF; rw [if_pos h1], fun s W hr hd hv hp he _ => field_nothing l Br Bd v s room k W hr hd hv hl hp he h1⟩
  by_cases h2 : k = 1 ∨ k = 2
  · exact ⟨53, by simp, by unfold tabF; rw [if_neg h1, if_pos h2], fun s W hr hd hv hp he _ => field_number l Br Bd v s room k W hr hd hv hl hp he h2⟩
  by_cases h3 : k = 4 ∨ k = 5 ∨ k = 7
  · exact ⟨55, by simp, by unfold tabF; rw [if_neg h1, if_neg h2, if_pos h3], fun s W hr hd hv hp he _ => field_text l Br Bd v s room k W hr hd hv hl hp he h3⟩
  by_cases h4 : k = 3
  · exact ⟨58, by simp, by unfold tabF; rw [if_neg h1, if_neg h2, if_neg h3, if_pos h4], fun s W hr hd hv hp he _ => field_float l Br Bd v s room k W hr hd hv hl hp he h4⟩
  by_cases h5 : k = 6
  · exact ⟨59, by simp, by unfold tabF; rw [if_neg h1, if_neg h2, if_neg h3, if_neg h4, if_pos h5], fun s W hr hd hv hp he _ => field_bool l Br Bd v s room k W hr hd hv hl hp he h5⟩
  by_cases h6 : k = 10
  · exact ⟨60, by simp, by unfold tabF; rw [if_neg h1, if_neg h2, if_neg h3, if_neg h4, if_neg h5, if_pos h6], fun s W hr hd hv hp he _ => field_err l Br Bd v s room k W hr hd hv hl hp he h6⟩
  by_cases h7 : k = 11
  · exact ⟨61, by simp, by unfold tabF; rw [if_neg h1, if_neg h2, if_neg h3, if_neg h4, if_neg h5, if_neg h6, if_pos h7], fun s W hr hd hv hp he _ => field_ptr l Br Bd v s room k W hr hd hv hl hp he h7⟩
  by_cases h8 : k = 9
  · exact ⟨62, by simp, by unfold tabF; rw [if_neg h1, if_neg h2, if_neg h3, if_neg h4, if_neg h5, if_neg h6, if_neg h7, if_pos h8], fun s W hr hd hv hp he _ => field_pair l Br Bd v s room k W hr hd hv hl hp he h8⟩
  have h9 : k = 8 := by omega
  exact ⟨63, by simp, by unfold tabF; rw [if_neg h1, if_neg h2, if_neg h3, if_neg h4, if_neg h5, if_neg h6, if_neg h7, if_neg h8, if_pos h9], fun s W hr hd hv hp he hroom => field_list l Br Bd v s room k W hr hd hv hl hp he h9 hroom hrm⟩
/-- a row of values as a value's list -/
theorem LRow.in_ {W : World} {base f lo : Nat} {va : Value} {ts : List Dv} (h : LRow W base va f ts) (hlo : lo ≤ base) {kd di db : Int} {ds : ByteArray} (h1 : I64 kd) (h2 : I64 di) (h3 : 0 ≤ db ∧ db < 18446744073709551616) :
    DvIn (fun b => lo ≤ b ∧ b < W.heap.size) W (f + 1) [.int .i64 kd, .int .i64 di, .int .u64 db, .string ds, va] (.mk kd di db ds ts) := by
  obtain ⟨cs, ho, hc⟩ := h
  have ho' := ho
  rcases ho.2 with ⟨rfl, h0⟩ | ⟨g, cap, cur, rfl, hb, hg, k1, k2, k3, k4⟩
  · exact ⟨none, 0, by rw [h0], h1, h2, h3, by omega, by omega, fun h => by omega⟩
  · refine ⟨_, cap, rfl, h1, h2, h3, k1, by unfold maxLen at k2; omega, fun _ => ⟨g, 0, ⟨by omega, (Array.getElem?_eq_some_iff.1 hg).1⟩, rfl, fun j t hj => ?_⟩⟩
    obtain ⟨c0, c1, c2, c3, c4, q0, q1, q2, q3, q4, ht⟩ := hc j t hj
    have hjl := (List.getElem?_eq_some_iff.1 hj).1
    have hat : ∀ i, i < 5 → W.cell? ⟨g, 0 + j * 5 + i, none⟩ = cs[j * 5 + i]? := fun i hi => by rw [Nat.zero_add]; exact ho'.cellAt _ (by omega)
    have h00 := hat 0 (by omega)
    rw [Nat.add_zero, Nat.add_zero] at h00
    exact ⟨c0, c1, c2, c3, c4, by rw [h00, q0], by rw [hat 1 (by omega), q1], by rw [hat 2 (by omega), q2], by rw [hat 3 (by omega), q3], by rw [hat 4 (by omega), q4], ht.kept fun b hb hl => ⟨rfl, by have := hb.1; omega, hb.2.1⟩⟩
theorem LRow.slice {W : World} {base f : Nat} {va : Value} {ts : List Dv} (h : LRow W base va f ts) : ∃ q c, va = .slice q ts.length c ∧ ts.length ≤ c := by
  obtain ⟨cs, ho, -⟩ := h
  rcases ho.2 with ⟨rfl, h0⟩ | ⟨g, cap, cur, rfl, hb, hg, k1, -⟩
  · exact ⟨none, 0, by rw [h0], by omega⟩
  · exact ⟨_, cap, rfl, k1⟩
/-- where a value's parts have been read -/
def PartS (l : List UInt8) (f deep n p0 pos0 : Nat) (j : Nat) (ts : List Dv) (s : Cs) : Prop :=
  s.pos ≤ l.length ∧
    ((s.err = 0 ∧ ∃ (p u : Nat), s.parts = (p : Nat) ∧ p ≤ 4096 ∧ s.pos = pos0 + u ∧ ts.length = j ∧ listD (valD f (deep + 1)) n p0 (l.drop pos0) = (listD (valD f (deep + 1)) (n - j) p (l.drop s.pos)).bind fun x u2 => .done (ts ++ x.1, x.2) (u + u2)) ∨
     (s.err = 260 ∧ listD (valD f (deep + 1)) n p0 (l.drop pos0) = .short) ∨ (s.err = 262 ∧ listD (valD f (deep + 1)) n p0 (l.drop pos0) = .bad))
theorem bind_nil {r : Rd (List Dv × Nat)} : (r.bind fun x u2 => .done ([] ++ x.1, x.2) (0 + u2)) = r := by
  cases r <;> simp [Rd.bind]
theorem heap_set5_other {W : World} {B b : Nat} (h : b ≠ B) (a0 a1 a2 a3 a4 : Value) : (((((W.setCell ⟨B, 0, none⟩ a0).setCell ⟨B, 1, none⟩ a1).setCell ⟨B, 2, none⟩ a2).setCell ⟨B, 3, none⟩ a3).setCell ⟨B, 4, none⟩ a4).heap[b]? = W.heap[b]? := by
  rw [Below.heap_setCell _ _ _ _ h, Below.heap_setCell _ _ _ _ h, Below.heap_setCell _ _ _ _ h, Below.heap_setCell _ _ _ _ h, Below.heap_setCell _ _ _ _ h]
theorem size_set5 {W : World} {B : Nat} (a0 a1 a2 a3 a4 : Value) : (((((W.setCell ⟨B, 0, none⟩ a0).setCell ⟨B, 1, none⟩ a1).setCell ⟨B, 2, none⟩ a2).setCell ⟨B, 3, none⟩ a3).setCell ⟨B, 4, none⟩ a4).heap.size = W.heap.size := by simp [World.setCell]
theorem tab_alloc {W : World} {Bt : Nat} {o : Obj} (h : Tab W Bt) : Tab (W.drew.alloc o) Bt := (Below.heap_alloc _ _ _ (Array.getElem?_eq_some_iff.1 h).1).trans h
/-- what holds in a round once the value has been read and the place has been made -/
structure R23 (W : World) (Br : Nat) (v : Value) (s3 : Cs) (kd di db : Int) (ds : ByteArray) (va : Value) (f : Nat) (ts : List Dv) (xs : List Value) (q : Rd (Dv × Nat)) (l : List UInt8) (s0 : Cs) (a : List Value) (Wn : World) : Prop where
  at_ : DAt Br W.heap.size v s3 kd di db ds va W Wn
  own : Wn.ownsRow (W.heap.size + 2) 25 5 va ts.length xs
  parts : ∀ j t, ts[j]? = some t → ∃ c0 c1 c2 c3 c4, xs[j * 5]? = some c0 ∧ xs[j * 5 + 1]? = some c1 ∧ xs[j * 5 + 2]? = some c2 ∧ xs[j * 5 + 3]? = some c3 ∧ xs[j * 5 + 4]? = some c4 ∧ DvIn (RowP (W.heap.size + 2) Wn va) Wn f [c0, c1, c2, c3, c4] t
  pos : s3.pos ≤ l.length
  read : RdAt q (RowP (W.heap.size + 2) Wn va) Wn f a s0 s3
  d4 : Wn.cell? ⟨W.heap.size + 1, 4, none⟩ = some va
  dl : W.heap.size + 1 < Wn.heap.size
theorem R23.call {W Wx W2 : World} {Br : Nat} {v : Value} {sx s3 : Cs} {kd di db : Int} {ds : ByteArray} {va : Value} {f : Nat} {ts : List Dv} {xs : List Value} {q : Rd (Dv × Nat)} {l : List UInt8} {s0 : Cs} {a : List Value} (hx : DAt Br W.heap.size v sx kd di db ds va W Wx)
    (ho : Wx.ownsRow (W.heap.size + 2) 25 5 va ts.length xs) (hc : ∀ j t, ts[j]? = some t → ∃ c0 c1 c2 c3 c4, xs[j * 5]? = some c0 ∧ xs[j * 5 + 1]? = some c1 ∧ xs[j * 5 + 2]? = some c2 ∧ xs[j * 5 + 3]? = some c3 ∧ xs[j * 5 + 4]? = some c4 ∧ DvIn (RowP (W.heap.size + 2) Wx va) Wx f [c0, c1, c2, c3, c4] t)
    (hB : Br < W.heap.size) (g1 : RB W2 Br v s3) (g2 : But Br Wx W2) (g3 : s3.pos ≤ l.length) (g4 : RdAt q (fun b => Wx.heap.size ≤ b ∧ b < W2.heap.size) W2 f a s0 s3) : R23 W Br v s3 kd di db ds va f ts xs q l s0 a W2 := by
  have hxl : ∀ b, va.ownBlock = some b → W.heap.size + 2 ≤ b ∧ b < Wx.heap.size := fun b hb => ho.lt b hb
  have hsz := hx.own.cells.2.2.2.2.2
  have hown := hx.own.but g2 (by omega)
  refine ⟨⟨g1, hx.but.trans g2, hx.res.but g2 (by omega), hown⟩, ho.kept g2.grown (.inr (fun e => by have := hxl Br e; omega)), fun j t hj => ?_, g3, ?_, hown.cells.2.2.2.2.1, hown.cells.2.2.2.2.2⟩
  · obtain ⟨c0, c1, c2, c3, c4, q0, q1, q2, q3, q4, ht⟩ := hc j t hj
    exact ⟨c0, c1, c2, c3, c4, q0, q1, q2, q3, q4, ht.kept fun b hb hl => ⟨g2.block b hl (by have := hb.1; omega), hb.1, Nat.lt_of_lt_of_le hb.2.1 g2.size, hb.2.2⟩⟩
  · cases q with
    | done t u =>
      obtain ⟨k1, k2, k3, k4⟩ := g4
      exact ⟨k1, k2, k3, k4.kept fun b hb hl => ⟨rfl, by omega, hb.2, fun e => by have := hxl b e.symm; omega⟩⟩
    | short => exact g4
    | bad => exact g4
theorem R23.alloc {W Wn : World} {Br : Nat} {v : Value} {s3 : Cs} {kd di db : Int} {ds : ByteArray} {va : Value} {f : Nat} {ts : List Dv} {xs : List Value} {q : Rd (Dv × Nat)} {l : List UInt8} {s0 : Cs} {a : List Value} (h : R23 W Br v s3 kd di db ds va f ts xs q l s0 a Wn) (o : Obj) : R23 W Br v s3 kd di db ds va f ts xs q l s0 a (Wn.alloc o) := by
  have hk : ∀ b, RowP (W.heap.size + 2) Wn va b → b < Wn.heap.size → (Wn.alloc o).heap[b]? = Wn.heap[b]? ∧ RowP (W.heap.size + 2) (Wn.alloc o) va b := fun b hb hl => ⟨Below.heap_alloc _ _ _ hl, hb.1, by rw [World.size_alloc]; exact Nat.lt_succ_of_lt hb.2.1, hb.2.2⟩
  refine ⟨⟨h.at_.rb.alloc o, h.at_.but.alloc o, h.at_.res.alloc o, h.at_.own.alloc o⟩, h.own.alloc o, fun j t hj => ?_, h.pos, ?_, (h.at_.own.alloc o).cells.2.2.2.2.1, (h.at_.own.alloc o).cells.2.2.2.2.2⟩
  · obtain ⟨c0, c1, c2, c3, c4, q0, q1, q2, q3, q4, ht⟩ := h.parts j t hj
    exact ⟨c0, c1, c2, c3, c4, q0, q1, q2, q3, q4, ht.kept hk⟩
  · have hr := h.read
    cases q with
    | done t u =>
      obtain ⟨k1, k2, k3, k4⟩ := hr
      exact ⟨k1, k2, k3, k4.kept hk⟩
    | short => exact hr
    | bad => exact hr
theorem R23.callM {W Wx W2 : World} {Br : Nat} {v : Value} {sx s3 : Cs} {kd di db : Int} {ds : ByteArray} {va : Value} {f : Nat} {ts : List Dv} {xs : List Value} {q : Rd (Dv × Nat)} {l : List UInt8} {s0 : Cs} {a : List Value} {o : Obj} (hx : DAt Br W.heap.size v sx kd di db ds va W Wx)
    (ho : Wx.ownsRow (W.heap.size + 2) 25 5 va ts.length xs) (hc : ∀ j t, ts[j]? = some t → ∃ c0 c1 c2 c3 c4, xs[j * 5]? = some c0 ∧ xs[j * 5 + 1]? = some c1 ∧ xs[j * 5 + 2]? = some c2 ∧ xs[j * 5 + 3]? = some c3 ∧ xs[j * 5 + 4]? = some c4 ∧ DvIn (RowP (W.heap.size + 2) Wx va) Wx f [c0, c1, c2, c3, c4] t)
    (hB : Br < W.heap.size) (g1 : RB W2 Br v s3) (g2 : But Br (Wx.drew.alloc o) W2) (g3 : s3.pos ≤ l.length) (g4 : RdAt q (fun b => (Wx.drew.alloc o).heap.size ≤ b ∧ b < W2.heap.size) W2 f a s0 s3) : R23 W Br v s3 kd di db ds va f ts xs q l s0 a W2 := by
  refine R23.call hx ho hc hB g1 (((But.refl Br Wx).drew.alloc o).trans g2) g3 ?_
  cases q with
  | done t u =>
    obtain ⟨k1, k2, k3, k4⟩ := g4
    refine ⟨k1, k2, k3, k4.kept fun b hb hl => ⟨rfl, ?_, hb.2⟩⟩
    have h := hb.1
    rw [World.size_alloc] at h
    exact Nat.le_of_succ_le h
  | short => exact g4
  | bad => exact g4
theorem dz_news {W : World} {ph : Nat} (h : DB W ph 0 0 0 ⟨#[]⟩ (.slice none 0 0)) : ∀ j u, dzeros[j]? = some u → W.cell? ((⟨ph, 0, none⟩ : Addr).add j) = some u := by
  intro j u hj
  have hadd : (⟨ph, 0, none⟩ : Addr).add j = ⟨ph, 0 + j, none⟩ := by unfold Addr.add; split <;> simp_all
  rw [hadd, Nat.zero_add, cell_of_row W ph j _ _ _ h]
  unfold dzeros at hj
  rw [← hj]
  simp
theorem dz_one : ∀ u ∈ dzeros, u.oneCell' = true := by
  intro u hu
  simp only [dzeros, List.mem_cons, List.not_mem_nil, or_false] at hu
  rcases hu with rfl | rfl | rfl | rfl | rfl <;> rfl
/-- behind the append -/
structure R24 (W : World) (va : Value) (n : Nat) (xs : List Value) (g cap : Nat) (Wn w1 : World) : Prop where
  own : w1.ownsRow (W.heap.size + 2) 25 5 (.slice (some ⟨g, 0, none⟩) (n + 1) cap) (n + 1) (xs ++ dzeros)
  grow : Wn.grownBy w1 va.ownBlock
  at_ : va.ownBlock = some g ∨ g = Wn.heap.size
  cells : w1.cell? ⟨W.heap.size + 1, 4, none⟩ = some va ∧ w1.cell? ⟨g, n * 5, none⟩ = some (.int .i64 0) ∧ w1.cell? ⟨g, n * 5 + 1, none⟩ = some (.int .i64 0) ∧ w1.cell? ⟨g, n * 5 + 2, none⟩ = some (.int .u64 0) ∧ w1.cell? ⟨g, n * 5 + 3, none⟩ = some (.string ⟨#[]⟩) ∧ w1.cell? ⟨g, n * 5 + 4, none⟩ = some (.slice none 0 0) ∧
    (∀ i, w1.frozen? ⟨g, i, none⟩ = false) ∧ w1.frozen? ⟨W.heap.size + 1, 4, none⟩ = false ∧ W.heap.size + 1 < w1.heap.size ∧ W.heap.size + 1 < g
theorem R23.grown {W Wn w1 : World} {Br : Nat} {v : Value} {s3 : Cs} {kd di db : Int} {ds : ByteArray} {va : Value} {f : Nat} {ts : List Dv} {xs : List Value} {q : Rd (Dv × Nat)} {l : List UInt8} {s0 : Cs} {a : List Value} {g cap H : Nat} (h : R23 W Br v s3 kd di db ds va f ts xs q l s0 a Wn)
    (hown : w1.ownsRow (W.heap.size + 2) 25 5 (.slice (some ⟨g, 0, none⟩) (ts.length + 1) cap) (ts.length + 1) (xs ++ dzeros)) (hgrow : Wn.grownBy w1 va.ownBlock) (hat : va.ownBlock = some g ∨ g = H) (hH : Wn.heap.size = H) : R24 W va ts.length xs g cap Wn w1 := by
  have hx : xs.length = ts.length * 5 := h.own.1
  have hg : W.heap.size + 2 ≤ g := (hown.lt g rfl).1
  have hcell : ∀ i, i < 5 → w1.cell? ⟨g, ts.length * 5 + i, none⟩ = dzeros[i]? := fun i hi => by
    rw [hown.cellAt _ (by omega), List.getElem?_append_right (by omega), hx, Nat.add_sub_cancel_left]
  have hb := h.at_.own
  have hbl := hb.cells.2.2.2.2.2
  have hne : some (W.heap.size + 1) ≠ va.ownBlock := fun e => by have := h.own.lt _ e.symm; omega
  have hb1 : DB w1 (W.heap.size + 1) kd di db ds va := (hgrow.block _ hbl hne).trans hb
  have h00 := hcell 0 (by omega)
  rw [Nat.add_zero] at h00
  refine ⟨hown, hgrow, by rw [hH]; exact hat, hb1.cells.2.2.2.2.1, h00, hcell 1 (by omega), hcell 2 (by omega), hcell 3 (by omega), hcell 4 (by omega), fun i => ?_, hb1.free 4, hb1.cells.2.2.2.2.2, by omega⟩
  rcases hown.2 with ⟨h1, _⟩ | ⟨g', cap', cur, e1, _, hg', _⟩
  · cases h1
  · injection e1 with e1
    injection e1 with e1
    injection e1 with e1
    subst e1
    exact frozen_of_row w1 g i _ _ hg'
/-- the row, as long as nothing has failed -/
def RowOk (s : Cs) (W : World) (base : Nat) (va : Value) (f : Nat) (ts : List Dv) : Prop := s.err = 0 → LRow W base va f ts
theorem bind_assoc {α β γ : Type} (r : Rd α) (F : α → Nat → Rd β) (G : β → Nat → Rd γ) : (r.bind F).bind G = r.bind fun x u => (F x u).bind G := by cases r <;> rfl
theorem part_next {l : List UInt8} {f deep n p0 pos0 j p u : Nat} {ts : List Dv} {s2 s3 : Cs} {P : Nat → Prop} {W : World} {a : List Value} (hdf : deep + f = 16) (hp : p ≤ 4096) (hj : j < n) (hts : ts.length = j) (h3 : s2.pos = pos0 + u)
    (hl : listD (valD f (deep + 1)) n p0 (l.drop pos0) = (listD (valD f (deep + 1)) (n - j) p (l.drop s2.pos)).bind fun x u2 => .done (ts ++ x.1, x.2) (u + u2)) (hpos : s3.pos ≤ l.length) (hr : RdAt (valD f (deep + 1) p (l.drop s2.pos)) P W f a s2 s3) :
    (∃ t, (∃ u2, valD f (deep + 1) p (l.drop s2.pos) = .done t u2) ∧ s3.err = 0 ∧ DvIn P W f a t.1 ∧ PartS l f deep n p0 pos0 (j + 1) (ts ++ [t.1]) s3) ∨ (s3.err ≠ 0 ∧ ∀ ts', PartS l f deep n p0 pos0 (j + 1) ts' s3) := by
  have hstep : listD (valD f (deep + 1)) (n - j) p (l.drop s2.pos) = (valD f (deep + 1) p (l.drop s2.pos)).bind fun t u => (listD (valD f (deep + 1)) (n - (j + 1)) t.2 ((l.drop s2.pos).drop u)).bind fun ts u2 => .done (t.1 :: ts.1, ts.2) (u + u2) := by
    rw [show n - j = (n - (j + 1)) + 1 by omega]; rfl
  rw [hstep] at hl
  unfold RdAt at hr
  cases hq : valD f (deep + 1) p (l.drop s2.pos) with
  | done t u2 =>
    rw [hq] at hr hl
    obtain ⟨k1, k2, k3, k4⟩ := hr
    have hb := (valD_back f (deep + 1) p _ t.1 t.2 u2 (by omega) hp hq).2.2.2.2
    have htz : 0 < t.1.size := by cases t.1; simp [Dv.size]; omega
    refine .inl ⟨t, ⟨u2, rfl⟩, k2, k4, hpos, .inl ⟨k2, t.2, u + u2, k3, by omega, by omega, by simp [hts], ?_⟩⟩
    rw [hl]
    simp only [Rd.bind_done]
    rw [bind_assoc, List.drop_drop, ← k1]
    cases listD (valD f (deep + 1)) (n - (j + 1)) t.2 (l.drop s3.pos) with
    | done x u3 => simp [Nat.add_assoc]
    | short => rfl
    | bad => rfl
  | short =>
    rw [hq] at hr hl
    have hr' : s3.err = 260 := hr
    exact .inr ⟨by rw [hr']; decide, fun ts' => ⟨hpos, .inr (.inl ⟨hr', hl⟩)⟩⟩
  | bad =>
    rw [hq] at hr hl
    have hr' : s3.err = 262 := hr
    exact .inr ⟨by rw [hr']; decide, fun ts' => ⟨hpos, .inr (.inr ⟨hr', hl⟩)⟩⟩
/-- the end of a round: the place written, then the list -/
theorem r24_next {W Wn w1 WF : World} {Br : Nat} {v : Value} {s2 s3 : Cs} {kd di db : Int} {ds : ByteArray} {va : Value} {f deep n p0 pos0 j p u g cap : Nat} {ts : List Dv} {xs : List Value} {l : List UInt8} {a0 a1 a2 a3 a4 : Value}
    (h : R23 W Br v s3 kd di db ds va f ts xs (valD f (deep + 1) p (l.drop s2.pos)) l s2 [a0, a1, a2, a3, a4] Wn) (hB : Br < W.heap.size) (k : R24 W va ts.length xs g cap Wn w1)
    (hWF : WF = (((((w1.setCell ⟨g, ts.length * 5, none⟩ a0).setCell ⟨g, ts.length * 5 + 1, none⟩ a1).setCell ⟨g, ts.length * 5 + 2, none⟩ a2).setCell ⟨g, ts.length * 5 + 3, none⟩ a3).setCell ⟨g, ts.length * 5 + 4, none⟩ a4).setCell ⟨W.heap.size + 1, 4, none⟩ (.slice (some ⟨g, 0, none⟩) (ts.length + 1) cap) ∨
      WF = ((((((w1.setCell ⟨W.heap.size + 1, 4, none⟩ (.slice (some ⟨g, 0, none⟩) (ts.length + 1) cap)).setCell ⟨g, ts.length * 5, none⟩ a0).setCell ⟨g, ts.length * 5 + 1, none⟩ a1).setCell ⟨g, ts.length * 5 + 2, none⟩ a2).setCell ⟨g, ts.length * 5 + 3, none⟩ a3).setCell ⟨g, ts.length * 5 + 4, none⟩ a4))
    (hdf : deep + f = 16) (hp : p ≤ 4096) (hj : j < n) (hts : ts.length = j) (h3 : s2.pos = pos0 + u)
    (hl : listD (valD f (deep + 1)) n p0 (l.drop pos0) = (listD (valD f (deep + 1)) (n - j) p (l.drop s2.pos)).bind fun x u2 => .done (ts ++ x.1, x.2) (u + u2)) :
    ∃ ts', DAt Br W.heap.size v s3 kd di db ds (.slice (some ⟨g, 0, none⟩) (ts.length + 1) cap) W WF ∧ RowOk s3 WF (W.heap.size + 2) (.slice (some ⟨g, 0, none⟩) (ts.length + 1) cap) f ts' ∧ PartS l f deep n p0 pos0 (j + 1) ts' s3 := by
  have hg : W.heap.size + 1 < g := k.cells.2.2.2.2.2.2.2.2.2
  have hva : ∀ b, va.ownBlock = some b → W.heap.size + 2 ≤ b ∧ b < Wn.heap.size := fun b hb => h.own.lt b hb
  have hx : xs.length = ts.length * 5 := h.own.1
  have hk1 : ∀ b, b < Wn.heap.size → some b ≠ va.ownBlock → w1.heap[b]? = Wn.heap[b]? := fun b hb hn => k.grow.block b hb hn
  have hrbl := h.at_.rb.cells.2.2.2.2.2
  have hrb : RB w1 Br v s3 := (hk1 Br hrbl (fun e => by have := hva _ e.symm; omega)).trans h.at_.rb
  have hres : DB w1 W.heap.size 0 0 0 ⟨#[]⟩ (.slice none 0 0) := (hk1 _ h.at_.res.cells.2.2.2.2.2 (fun e => by have := hva _ e.symm; omega)).trans h.at_.res
  have hown : DB w1 (W.heap.size + 1) kd di db ds va := (hk1 _ h.at_.own.cells.2.2.2.2.2 (fun e => by have := hva _ e.symm; omega)).trans h.at_.own
  have hbut : But Br W w1 := ⟨k.grow.os.trans h.at_.but.os, k.grow.tape.trans h.at_.but.tape, k.grow.output.trans h.at_.but.output, Nat.le_trans h.at_.but.size k.grow.size, fun i hi hn => (hk1 i (Nat.lt_of_lt_of_le hi h.at_.but.size) (fun e => by have := hva _ e.symm; omega)).trans (h.at_.but.block i hi hn)⟩
  have hgB : g ≠ Br := by omega
  have hBB : W.heap.size + 1 ≠ Br := by omega
  have hgr : g ≠ W.heap.size := by omega
  have hgo : g ≠ W.heap.size + 1 := by omega
  have hwg : W.heap.size ≤ g := by omega
  have hall : DAt Br W.heap.size v s3 kd di db ds (.slice (some ⟨g, 0, none⟩) (ts.length + 1) cap) W WF ∧ WF.ownsRow (W.heap.size + 2) 25 5 (.slice (some ⟨g, 0, none⟩) (ts.length + 1) cap) (ts.length + 1) (xs ++ [a0, a1, a2, a3, a4]) ∧ WF.heap.size = w1.heap.size ∧ ∀ b, W.heap.size + 2 ≤ b → b < Wn.heap.size → some b ≠ va.ownBlock → WF.heap[b]? = Wn.heap[b]? ∧ b ≠ g := by
    have hbg : ∀ b, b < Wn.heap.size → some b ≠ va.ownBlock → b ≠ g := fun b h1 h2 e => by
      rcases k.at_ with h3 | h3
      · exact h2 (by rw [h3, e])
      · omega
    rcases hWF with rfl | rfl
    · refine ⟨⟨(((((hrb.setOther _ _ hgB).setOther _ _ hgB).setOther _ _ hgB).setOther _ _ hgB).setOther _ _ hgB).setOther _ _ hBB, ?_, (((((hres.setOther _ _ hgr).setOther _ _ hgr).setOther _ _ hgr).setOther _ _ hgr).setOther _ _ hgr).setOther _ _ (by simp), (((((hown.setOther _ _ hgo).setOther _ _ hgo).setOther _ _ hgo).setOther _ _ hgo).setOther _ _ hgo).setV _⟩, ?_, by simp [World.setCell], fun b h1 h2 h3 => ⟨?_, hbg b h2 h3⟩⟩
      · exact (((((hbut.set _ _ (.inr hwg)).set _ _ (.inr hwg)).set _ _ (.inr hwg)).set _ _ (.inr hwg)).set _ _ (.inr hwg)).set _ _ (.inr (by simp))
      · refine ownsRow_setCell_other (own_set5 k.own hx a0 a1 a2 a3 a4) ?_ _
        simp [Value.ownBlock]
        omega
      · have h4 := hbg b h2 h3
        rw [Below.heap_setCell _ _ _ _ (by simp; omega), Below.heap_setCell _ _ _ _ h4, Below.heap_setCell _ _ _ _ h4, Below.heap_setCell _ _ _ _ h4, Below.heap_setCell _ _ _ _ h4, Below.heap_setCell _ _ _ _ h4]
        exact hk1 b h2 h3
    · refine ⟨⟨(((((hrb.setOther _ _ hBB).setOther _ _ hgB).setOther _ _ hgB).setOther _ _ hgB).setOther _ _ hgB).setOther _ _ hgB, ?_, (((((hres.setOther _ _ (by simp)).setOther _ _ hgr).setOther _ _ hgr).setOther _ _ hgr).setOther _ _ hgr).setOther _ _ hgr, (((((hown.setV _).setOther _ _ hgo).setOther _ _ hgo).setOther _ _ hgo).setOther _ _ hgo).setOther _ _ hgo⟩, ?_, by simp [World.setCell], fun b h1 h2 h3 => ⟨?_, hbg b h2 h3⟩⟩
      · exact (((((hbut.set _ _ (.inr (by simp))).set _ _ (.inr hwg)).set _ _ (.inr hwg)).set _ _ (.inr hwg)).set _ _ (.inr hwg)).set _ _ (.inr hwg)
      · refine own_set5 (ownsRow_setCell_other k.own ?_ _) hx a0 a1 a2 a3 a4
        simp [Value.ownBlock]
        omega
      · have h4 := hbg b h2 h3
        rw [Below.heap_setCell _ _ _ _ h4, Below.heap_setCell _ _ _ _ h4, Below.heap_setCell _ _ _ _ h4, Below.heap_setCell _ _ _ _ h4, Below.heap_setCell _ _ _ _ h4, Below.heap_setCell _ _ _ _ (by simp; omega)]
        exact hk1 b h2 h3
  obtain ⟨hD, hO, hS, hK⟩ := hall
  rcases part_next hdf hp hj hts h3 hl h.pos h.read with ⟨t, -, he, hin, hps⟩ | ⟨he, hps⟩
  · exact ⟨_, hD, fun _ => LRow.snoc h.own h.parts hin hO rfl (by rw [hS]; exact k.grow.size) hK, hps⟩
  · exact ⟨[], hD, fun e => absurd e he, hps []⟩
/-- a reading of one value more -/
def DC (l : List UInt8) (Br Bt : Nat) (v : Value) (f : Nat) : Prop := ∀ (deep parts : Nat) (s : Cs) (W : World), RB W Br v s → Bs W v l → Tab W Bt → s.err = 0 → s.pos ≤ l.length → s.parts = (parts : Nat) + 1 → parts ≤ 4096 → deep + f = 16 → 1 ≤ deep →
    Calls Tryd.prog 35 #[.pointer (some ⟨Br, 0, none⟩), .int .i64 (deep : Nat), .map (some Bt)] W (DPost l Br v s (f + 1) deep parts W)

set_option linter.unusedSimpArgs false in
set_option maxRecDepth 100000 in
set_option maxHeartbeats 8000000 in
theorem rdatum_step (l : List UInt8) (Br Bt : Nat) (v : Value) (hl : l.length ≤ 100000000) (f : Nat) (ih : ∀ f', f = f' + 1 → DC l Br Bt v f') : DC l Br Bt v f := by
  intro deep parts s W hr hv ht he hp hpt hp4 hdf hd1
  have IH := Lib.hid ih
  clear ih
  obtain ⟨PP, hPP⟩ : ∃ PP, DPost l Br v s (f + 1) deep parts W = PP := ⟨_, rfl⟩
  rw [hPP]
  have HPP := Lib.hid hPP
  have HR := Lib.hid hr
  have HV := Lib.hid hv
  have HT := Lib.hid ht
  have HE := Lib.hid he
  have HPT := Lib.hid hpt
  have HVS := Lib.hid hv.slice
  obtain ⟨c0, c1, c2, c3, c4, hlt⟩ := hr.cells
  rw [hpt] at c3
  have hf3 := hr.free 3
  have HA0 : Hid (DAt Br W.heap.size v { s with parts := (parts : Nat) } 0 0 0 ⟨#[]⟩ (.slice none 0 0) W (((W.setCell ⟨Br, 3, none⟩ (.int .i64 (parts : Nat))).alloc (.cells #[.int .i64 0, .int .i64 0, .int .u64 0, .string ⟨#[]⟩, .slice none 0 0] 25)).alloc (.cells #[.int .i64 0, .int .i64 0, .int .u64 0, .string ⟨#[]⟩, .slice none 0 0] 25))) := by
    have e1 : (W.setCell ⟨Br, 3, none⟩ (.int .i64 (parts : Nat))).heap.size = W.heap.size := by simp [World.setCell]
    refine ⟨((hr.setParts (parts : Nat) rfl).alloc _).alloc _, (((But.refl Br W).set _ _ (.inl rfl)).alloc _).alloc _, ?_, ?_⟩
    · have h := heap_alloc_new (W.setCell ⟨Br, 3, none⟩ (.int .i64 (parts : Nat))) (.cells #[.int .i64 0, .int .i64 0, .int .u64 0, .string ⟨#[]⟩, .slice none 0 0] 25)
      rw [e1] at h
      exact DB.alloc h _
    · have h := heap_alloc_new ((W.setCell ⟨Br, 3, none⟩ (.int .i64 (parts : Nat))).alloc (.cells #[.int .i64 0, .int .i64 0, .int .u64 0, .string ⟨#[]⟩, .slice none 0 0] 25)) (.cells #[.int .i64 0, .int .i64 0, .int .u64 0, .string ⟨#[]⟩, .slice none 0 0] 25)
      rw [World.size_alloc, e1] at h
      exact h
  clear hPP hr hv ht he hpt
  go_enter Tryd.func35, Tryd.ntmps35
  go_wp2_with fail
  refine (byte_any l Br v { s with parts := (parts : Nat) } _ HA0.out.rb (HV.out.but HR.out HVS.out HA0.out.but) hl (show s.pos ≤ _ by omega)).mono ?_
  rintro e W1 ⟨rfl, h1, h2⟩
  have hne0 : W.heap.size ≠ Br := by omega
  have hne1 : W.heap.size + 1 ≠ Br := by omega
  by_cases hpl : s.pos < l.length
  · obtain ⟨c, hc⟩ : ∃ c, l[s.pos]? = some c := ⟨_, List.getElem?_eq_getElem hpl⟩
    have HB : Hid (byteR l { s with parts := (parts : Nat) } = (c, { s with parts := (parts : Nat), pos := s.pos + 1 })) := by show _ = _; unfold byteR; rw [if_neg (by simp [HE.out]), if_pos hpl]; simp [List.getD, hc]
    have hdr : l.drop s.pos = c :: l.drop (s.pos + 1) := by
      rw [List.drop_eq_getElem_cons hpl]
      rw [(List.getElem?_eq_some_iff.1 hc).2]
    rw [HB.out] at h1 ⊢
    have HDR := Lib.hid hdr
    have HA1 : Hid (DAt Br W.heap.size v { s with parts := (parts : Nat), pos := s.pos + 1 } 0 0 0 ⟨#[]⟩ (.slice none 0 0) W W1) := ⟨h1, HA0.out.but.trans h2, HA0.out.res.but h2 hne0, HA0.out.own.but h2 hne1⟩
    have hc256 : c.toNat < 256 := c.toNat_lt
    obtain ⟨k, hk⟩ : ∃ k, c.toNat = k := ⟨_, rfl⟩
    rw [hk] at hc256 ⊢
    have HK := Lib.hid hk
    clear h1 h2 HA0 hdr hc hk
    obtain ⟨c0, c1, c2, c3, c4, hlt⟩ := HA1.out.rb.cells
    obtain ⟨d0, d1, d2, d3, d4, hltd⟩ := HA1.out.own.cells
    obtain ⟨e0, e1, e2, e3, e4, hlte⟩ := HA1.out.res.cells
    have e2' : s.err = 0 := HE.out
    rw [e2'] at c2
    clear e2'
    have HT1 : Hid (Tab W1 Bt) := HT.out.but HR.out HA1.out.but
    have tl := tab_look HT1.out k
    have hw : IntKind.i64.wrap (k : Int) = (k : Int) := i64_wrap_nat (by omega)
    have hd16 : decide ((16 : Int) < (deep : Int)) = false := by simp; omega
    have hp0 : decide ((parts : Int) < 0) = false := by simp
    have q0 := HA1.out.own.free 0
    have q4 := HA1.out.rb.free 4
    by_cases hk14 : k < 14
    · obtain ⟨fk, hfks, hfk, hcf⟩ := field_any l Br (W.heap.size + 1) v hl k (roomOf deep parts) hk14 (by unfold roomOf; split <;> omega)
      rw [hfk] at tl
      have CF := Lib.hid hcf
      clear hfk hcf
      have hfs := fun W => fn_some W fk
      obtain ⟨Nd, hNd⟩ : ∃ Nd, needs k = Nd := ⟨_, rfl⟩
      have hix := needs_at k hk14
      rw [hNd] at hix
      obtain ⟨R, hR⟩ : ∃ R, roomOf deep parts = R := ⟨_, rfl⟩
      rw [hR] at CF
      have HNd := Lib.hid hNd
      have HRm := Lib.hid hR
      clear hNd hR
      go_upto_if 70 with fail
      go_cut [] (fun wx => DAt Br W.heap.size v { s with parts := (parts : Nat), pos := s.pos + 1, room := (R : Nat) } (k : Nat) 0 0 ⟨#[]⟩ (.slice none 0 0) W wx)
      case first =>
        have HX : Hid (∀ r, DAt Br W.heap.size v { s with parts := (parts : Nat), pos := s.pos + 1, room := r } (k : Nat) 0 0 ⟨#[]⟩ (.slice none 0 0) W ((W1.setCell ⟨W.heap.size + 1, 0, none⟩ (.int .i64 (k : Nat))).setCell ⟨Br, 4, none⟩ (.int .i64 r))) := fun r =>
          ⟨((HA1.out.rb.setOther _ _ hne1).setRoom r rfl), (HA1.out.but.set _ _ (.inr (by simp))).set _ _ (.inl rfl), (HA1.out.res.setOther _ _ (by simp)).setOther _ _ (by simp; omega), (HA1.out.own.setKd (k : Nat)).setOther _ _ (by simp; omega)⟩
        by_cases hdd : deep = 16
        · have hdb : ((deep : Int) == 16) = true := by simp; omega
          have hR0 : R = 0 := by rw [← HRm.out]; unfold roomOf; rw [if_pos hdd]
          have H2 : Hid (DAt Br W.heap.size v { s with parts := (parts : Nat), pos := s.pos + 1, room := (R : Nat) } (k : Nat) 0 0 ⟨#[]⟩ (.slice none 0 0) W (((W1.setCell ⟨W.heap.size + 1, 0, none⟩ (.int .i64 (k : Nat))).setCell ⟨Br, 4, none⟩ (.int .i64 (parts : Nat))).setCell ⟨Br, 4, none⟩ (.int .i64 0))) := by
            have h := HX.out (parts : Nat)
            rw [hR0]
            exact ⟨h.rb.setRoom 0 rfl, h.but.set _ _ (.inl rfl), h.res.setOther _ _ (by simp; omega), h.own.setOther _ _ (by simp; omega)⟩
          clear hdd hR0
          go_wp2_with fail
          go_meet
          case rel => exact H2.out
        · have hdb : ((deep : Int) == 16) = false := by simp; omega
          have hR0 : R = parts := by rw [← HRm.out]; unfold roomOf; rw [if_neg hdd]
          have H2 := Lib.hid (HX.out (parts : Nat))
          rw [← hR0] at H2
          clear hdd
          subst hR0
          go_wp2_with fail
          go_meet
          case rel => exact H2.out
      case rest =>
        have HA2 := Lib.hid hcut
        clear hcut tl q0 q4 c0 c1 c2 c3 c4 d0 d1 d2 d3 d4 e0 e1 e2 e3 e4
        obtain ⟨c0, c1, c2, c3, c4, hltc⟩ := HA2.out.rb.cells
        obtain ⟨d0, d1, d2, d3, d4, hltd2⟩ := HA2.out.own.cells
        obtain ⟨e0, e1, e2, e3, e4, hlte2⟩ := HA2.out.res.cells
        have r0 := HA2.out.res.free 0
        have r1 := HA2.out.res.free 1
        have r2 := HA2.out.res.free 2
        have r3 := HA2.out.res.free 3
        have r4 := HA2.out.res.free 4
        by_cases hN : R < Nd
        · have hNI : (R : Int) < (Nd : Int) := by omega
          have hQ : Hid (valD (f + 1) deep parts (l.drop s.pos) = .bad) := by
            show _ = _
            rw [HDR.out, valD, HK.out, if_neg (by omega), HRm.out, HNd.out, if_pos hN]
          go_wp2_with fail
          refine (fail_any Br v { s with parts := (parts : Nat), pos := s.pos + 1, room := (R : Nat) } 262 _ HA2.out.rb).mono ?_
          rintro e W2 ⟨rfl, g1, g2⟩
          rw [if_pos (show ({ s with parts := (parts : Nat), pos := s.pos + 1, room := (R : Nat) } : Cs).err = 0 from HE.out)] at g1
          have G1 := Lib.hid g1
          have G2 := Lib.hid (HA2.out.but.trans g2)
          have G3 := Lib.hid (HA2.out.res.but g2 hne0)
          have G4 := Lib.hid (HA2.out.own.but g2 hne1)
          clear g1 g2 c0 c1 c2 c3 c4 d0 d1 d2 d3 d4 e0 e1 e2 e3 e4 r0 r1 r2 r3 r4 hltc hltd2 hlte2
          obtain ⟨d0, d1, d2, d3, d4, hltd2⟩ := G4.out.cells
          obtain ⟨e0, e1, e2, e3, e4, hlte2⟩ := G3.out.cells
          have r0 := G3.out.free 0
          have r1 := G3.out.free 1
          have r2 := G3.out.free 2
          have r3 := G3.out.free 3
          have r4 := G3.out.free 4
          go_wp2_with fail
          refine bodyPost_ret (res_datum (B := W.heap.size) (G3.out.set5 _ _ _ _ _) rfl _ rfl) rfl ?_
          rw [← HPP.out]
          refine ⟨_, _, _, _, _, _, _, _, rfl, G1.out.set5 _ hne0 _ _ _ _ _, G2.out.set5 _ (Nat.le_refl _) _ _ _ _ _, hpl, ?_⟩
          rw [hQ.out]
          exact rfl
        · have hNI : ¬ (R : Int) < (Nd : Int) := by omega
          have HVc := Lib.hid (HV.out.but HR.out HVS.out HA2.out.but)
          have HFK := Lib.hid hfks
          clear hfks
          go_upto_region 17 with fail
          go_cut [11] (fun s11 wx => ∃ r, r = Ending.returned s11 ∧ FPost l Br (W.heap.size + 1) v { s with parts := (parts : Nat), pos := s.pos + 1, room := (R : Nat) } R k wc r wx)
          case first =>
            rcases HFK.out with h | h | h | h | h | h | h | h | h
            all_goals
              subst h
              go_wp2_with fail
              refine (CF.out { s with parts := (parts : Nat), pos := s.pos + 1, room := (R : Nat) } wc HA2.out.rb HA2.out.own HVc.out hpl HE.out rfl).mono ?_
              rintro e W2 hpost
              obtain ⟨o, s', rfl, -⟩ := id hpost
              have HPO := Lib.hid hpost
              clear hpost
              go_wp2_with fail
              go_meet
              case rel => exact ⟨_, rfl, HPO.out⟩
          case rest =>
            obtain ⟨r, hr1, hpost⟩ := hcut
            obtain ⟨o, s', hr2, g1, g2, g3, a1, a2, a3, a4⟩ := hpost
            rw [hr1] at hr2
            injection hr2 with hr2
            subst hr2
            clear hr1
            have HA3 : Hid (DAt Br W.heap.size v s' (k : Nat) o.di (o.db : Nat) o.ds (.slice none 0 0) W wc) := ⟨g1, HA2.out.but.trans2 g3 (by omega), g3.boxed HA2.out.res hne0 (by omega), g2⟩
            have hon : o.n ≤ 4096 := by
              cases hq : ownD R k (l.drop (s.pos + 1)) with
              | done o' u =>
                rw [hq] at a4
                obtain ⟨rfl, -, -⟩ := a4
                have hRp : R ≤ 4096 := by rw [← HRm.out]; unfold roomOf; split <;> omega
                have := (ownD_back hk14 hRp (by have := HNd.out; omega) hq).2.2.2
                omega
              | short => rw [hq] at a4; omega
              | bad => rw [hq] at a4; omega
            have A1 := Lib.hid a1
            have A4 := Lib.hid a4
            clear g1 g2 g3 a1 a2 a4 c0 c1 c2 c3 c4 d0 d1 d2 d3 d4 e0 e1 e2 e3 e4 r0 r1 r2 r3 r4
            obtain ⟨c0, c1, c2, c3, c4, hltc⟩ := HA3.out.rb.cells
            obtain ⟨d0, d1, d2, d3, d4, hltd2⟩ := HA3.out.own.cells
            rw [show s'.parts = (parts : Nat) from A1.out] at c3
            have hf3 := HA3.out.rb.free 3
            have hf4 := HA3.out.rb.free 3
            have HA4 : Hid (DAt Br W.heap.size v { s' with parts := (parts : Int) - (o.n : Nat) } (k : Nat) o.di (o.db : Nat) o.ds (.slice none 0 0) W (wc.setCell ⟨Br, 3, none⟩ (.int .i64 ((parts : Int) - (o.n : Nat))))) := ⟨HA3.out.rb.setParts _ rfl, HA3.out.but.set _ _ (.inl rfl), HA3.out.res.setOther _ _ (by simp; omega), HA3.out.own.setOther _ _ (by simp; omega)⟩
            by_cases herr : s'.err = 0
            · obtain ⟨u0, hq0, hps⟩ : ∃ u0, ownD R k (l.drop (s.pos + 1)) = .done o u0 ∧ s'.pos = s.pos + 1 + u0 := by
                have h := A4.out
                cases hq : ownD R k (l.drop (s.pos + 1)) with
                | done o' u => rw [hq] at h; exact ⟨u, by rw [h.1], h.2.1⟩
                | short => rw [hq] at h; rw [h.1] at herr; cases herr
                | bad => rw [hq] at h; rw [h.1] at herr; cases herr
              have hRp : R ≤ 4096 := by rw [← HRm.out]; unfold roomOf; split <;> omega
              obtain ⟨-, -, hfit, hnR⟩ := ownD_back hk14 hRp (by have := HNd.out; omega) hq0
              have hRr : o.n ≤ parts ∧ (0 < o.n → deep ≠ 16) := by
                have := HRm.out
                unfold roomOf at this
                split at this <;> omega
              obtain ⟨p0, hp0'⟩ : ∃ p0, parts - o.n = p0 := ⟨_, rfl⟩
              have hpI : (parts : Int) - (o.n : Nat) = (p0 : Nat) := by omega
              have hp04 : p0 ≤ 4096 := by omega
              have HVL : Hid (valD (f + 1) deep parts (l.drop s.pos) = (listD (valD f (deep + 1)) o.n p0 (l.drop s'.pos)).bind fun ts u2 => .done (.mk (k : Nat) o.di (o.db : Nat) o.ds ts.1, ts.2) (1 + u0 + u2)) := by
                show _ = _
                rw [HDR.out, valD, HK.out, if_neg (by omega), HRm.out, HNd.out, if_neg hN, hq0]
                simp only [Rd.bind_done]
                rw [List.drop_drop, ← hps, hp0']
              have HFV := Lib.hid hfit
              have HPS := Lib.hid hps
              have HNR := Lib.hid hRr.2
              have HER := Lib.hid herr
              rw [hpI] at HA4
              clear hfit hps hRr herr hq0 hnR hp0'
              go_wp2_with fail
              go_loopw [101] (fun s101 wr => ∃ (j : Nat) (ts : List Dv) (s2 : Cs) (q5 : Option Addr) (n5 cap5 : Nat), s101 = .int .i64 (j : Nat) ∧ j ≤ o.n ∧ Hid (DAt Br W.heap.size v s2 (k : Nat) o.di (o.db : Nat) o.ds (.slice q5 n5 cap5) W wr) ∧ Hid (RowOk s2 wr (W.heap.size + 2) (.slice q5 n5 cap5) f ts) ∧ Hid (PartS l f deep o.n p0 s'.pos j ts s2)) (fun s101 _ => o.n - (intOf s101).toNat)
              case atStart => exact ⟨0, [], _, _, _, _, rfl, Nat.zero_le _, HA4.out, fun _ => LRow.nil _ _ _, ⟨a3, .inl ⟨HER.out, p0, 0, rfl, hp04, rfl, rfl, bind_nil.symm⟩⟩⟩
              case round =>
                obtain ⟨j, ts, s2, q5, n5, cap5, rfl, hj, HA5, HL0, HP5⟩ := hrel
                clear c0 c1 c2 c3 c4 d0 d1 d2 d3 d4 hltc hltd2 hf3 hf4 HA4
                obtain ⟨c0, c1, c2, c3, c4, hltc⟩ := HA5.out.rb.cells
                obtain ⟨d0, d1, d2, d3, d4, hltd2⟩ := HA5.out.own.cells
                obtain ⟨e0, e1, e2, e3, e4, hlte2⟩ := HA5.out.res.cells
                have r0 := HA5.out.res.free 0
                have r1 := HA5.out.res.free 1
                have r2 := HA5.out.res.free 2
                have r3 := HA5.out.res.free 3
                have r4 := HA5.out.res.free 4
                have h5 := HP5.out
                obtain ⟨hpos5, h5⟩ := h5
                by_cases herr2 : s2.err = 0
                · obtain ⟨-, p, u, hp1, hp2, hp3, hp4', hp5⟩ := h5.resolve_right (by rintro (⟨h, _⟩ | ⟨h, _⟩) <;> (rw [h] at herr2; cases herr2))
                  rw [herr2] at c2
                  rw [hp1] at c3
                  have HL5 := Lib.hid (HL0.out herr2)
                  obtain ⟨q', c', hqe, hq5⟩ := HL5.out.slice
                  injection hqe with hqe1 hqe2 hqe3
                  subst hqe2
                  clear hqe1 hqe3 HL0
                  have HER2 := Lib.hid herr2
                  have HP1 := Lib.hid hp1
                  have HP3 := Lib.hid hp3
                  have HP4 := Lib.hid hp4'
                  have HP6 := Lib.hid hp5
                  clear h5 herr2 hp1 hp3 hp4' hp5
                  by_cases hjn : j < o.n
                  · obtain ⟨f', hf'⟩ : ∃ f', f = f' + 1 := ⟨f - 1, by have := HNR.out (by omega); omega⟩
                    have CI : Hid (∀ (s3 : Cs) (W3 : World), RB W3 Br v s3 → Bs W3 v l → Tab W3 Bt → s3.err = 0 → s3.pos ≤ l.length → s3.parts = (p : Nat) + 1 → Calls Tryd.prog 35 #[.pointer (some ⟨Br, 0, none⟩), .int .i64 ((deep : Int) + 1), .map (some Bt)] W3 (DPost l Br v s3 f (deep + 1) p W3)) := fun s3 W3 k1 k2 k3 k4 k5 k6 => by
                      have h := IH.out f' hf' (deep + 1) p s3 W3 k1 k2 k3 k4 k5 k6 hp2 (by omega) (by omega)
                      rw [← hf', show (((deep + 1 : Nat)) : Int) = (deep : Int) + 1 by simp] at h
                      exact h
                    have hjI : (j : Int) < (o.n : Int) := by omega
                    have hf3 := HA5.out.rb.free 3
                    have HX : Hid (DAt Br W.heap.size v { s2 with parts := (p : Int) + 1 } (k : Nat) o.di (o.db : Nat) o.ds (.slice q5 ts.length cap5) W (wr.setCell ⟨Br, 3, none⟩ (.int .i64 ((p : Int) + 1))) ∧ LRow (wr.setCell ⟨Br, 3, none⟩ (.int .i64 ((p : Int) + 1))) (W.heap.size + 2) (.slice q5 ts.length cap5) f ts) := by
                      refine ⟨⟨HA5.out.rb.setParts _ rfl, HA5.out.but.set _ _ (.inl rfl), HA5.out.res.setOther _ _ (by simp; omega), HA5.out.own.setOther _ _ (by simp; omega)⟩, ?_⟩
                      exact HL5.out.kept (((But.refl Br wr).set _ _ (.inl rfl)).grown) (by omega)
                    go_upto_region 23 with fail
                    refine wp_world (fun Wx => DAt Br W.heap.size v { s2 with parts := (p : Int) + 1 } (k : Nat) o.di (o.db : Nat) o.ds (.slice q5 ts.length cap5) W Wx ∧ LRow Wx (W.heap.size + 2) (.slice q5 ts.length cap5) f ts) HX.out (fun Wx hx => ?_)
                    have HX1 := Lib.hid hx.1
                    have HX2 := Lib.hid hx.2
                    clear hx HX c0 c1 c2 c3 c4 d0 d1 d2 d3 d4 e0 e1 e2 e3 e4 r0 r1 r2 r3 r4 hltc hltd2 hlte2 hf3
                    obtain ⟨d0, d1, d2, d3, d4, hltd2⟩ := HX1.out.own.cells
                    have hVx := HV.out.but HR.out HVS.out HX1.out.but
                    have hTx := HT.out.but HR.out HX1.out.but
                    have HVx := Lib.hid hVx
                    have HTx := Lib.hid hTx
                    clear hVx hTx d0 d1 d2 d3
                    obtain ⟨xs, hxo, hxc⟩ := HX2.out
                    have HXO := Lib.hid hxo
                    have HXC := Lib.hid hxc
                    have hBrW : Br < W.heap.size := by omega
                    obtain ⟨i0, hi, hz0, hz1, hz2⟩ := info_parts info_datum
                    have hts : ts.length ≤ 4096 := by have := HP4.out; omega
                    clear hxo hxc
                    have hwd : IntKind.i64.wrap ((deep : Int) + 1) = (deep : Int) + 1 := IntWalk.i64_in _ (by omega)
                    clear hfs hix
                    refine wp_region_held_drew (S := fun _ => True) (by kernel_rfl) trivial (fun hHeld => ?_)
                    refine wpAnyH_take (i := 0) (oi := _) (v := ?_) rfl (by kernel_rfl) (by kernel_rfl) (by kernel_rfl) (fun _ _ _ h => h) (Or.inl ⟨by rfl, ?_⟩) (by assumption) ?_
                    rotate_left
                    focus (intro w' hSw; (try dsimp only at hSw); go_simp; try with_reducible rfl)
                    (try simp only [Act.put, List.setIfInBounds_toArray, List.set_cons_zero, List.set_cons_succ, List.getElem_toArray, List.getElem_cons_succ, List.getElem_cons_zero])
                    refine wpAnyH_take (i := 2) (oi := _) (v := ?_) rfl (by kernel_rfl) (by kernel_rfl) (by kernel_rfl) (fun _ _ _ h => h) (Or.inl ⟨by rfl, ?_⟩) (by assumption) ?_
                    rotate_left
                    focus (intro w' hSw; (try dsimp only at hSw); go_simp; try with_reducible rfl)
                    (try simp only [Act.put, List.setIfInBounds_toArray, List.set_cons_zero, List.set_cons_succ, List.getElem_toArray, List.getElem_cons_succ, List.getElem_cons_zero])
                    refine wpAnyH_take (i := 3) (oi := _) (v := ?_) rfl (by kernel_rfl) (by kernel_rfl) (by kernel_rfl) (fun _ _ _ h => h) (Or.inl ⟨by rfl, ?_⟩) (by assumption) ?_
                    rotate_left
                    focus (intro w' hSw; (try dsimp only at hSw); go_simp; try with_reducible rfl)
                    (try simp only [Act.put, List.setIfInBounds_toArray, List.set_cons_zero, List.set_cons_succ, List.getElem_toArray, List.getElem_cons_succ, List.getElem_cons_zero])
                    refine wpAnyH_take (i := 4) (oi := _) (v := ?_) rfl (by kernel_rfl) (by kernel_rfl) (by kernel_rfl) (fun _ _ _ h => h) (Or.inl ⟨by rfl, ?_⟩) (by assumption) ?_
                    rotate_left
                    focus (intro w' hSw; (try dsimp only at hSw); go_simp; try with_reducible rfl)
                    (try simp only [Act.put, List.setIfInBounds_toArray, List.set_cons_zero, List.set_cons_succ, List.getElem_toArray, List.getElem_cons_succ, List.getElem_cons_zero])
                    refine wpAnyH_take (i := 5) (oi := _) (v := ?_) rfl (by kernel_rfl) (by kernel_rfl) (by kernel_rfl) (fun _ _ _ h => h) (Or.inl ⟨by rfl, ?_⟩) (by assumption) ?_
                    rotate_left
                    focus (intro w' hSw; (try dsimp only at hSw); go_simp; try with_reducible rfl)
                    (try simp only [Act.put, List.setIfInBounds_toArray, List.set_cons_zero, List.set_cons_succ, List.getElem_toArray, List.getElem_cons_succ, List.getElem_cons_zero])
                    refine wpAnyH_ready (rs := [1, 6, 8]) (by kernel_rfl) (by simp) ?_
                    refine AllReadyH.cons (o := _) rfl (fun K hK => ?_) ?_
                    · go_simp
                      refine hK.out _ _ trivial (fun hHeld => ?_)
                      clear hK K
                      (try simp only [Act.put, List.setIfInBounds_toArray, List.set_cons_zero, List.set_cons_succ, List.getElem_toArray, List.getElem_cons_succ, List.getElem_cons_zero])
                      refine wpAnyH_take (i := 7) (oi := _) (v := ?_) rfl (by kernel_rfl) (by kernel_rfl) (by kernel_rfl) (fun _ _ _ h => h) (Or.inl ⟨by rfl, ?_⟩) (by assumption) ?_
                      rotate_left
                      focus (intro w' hSw; (try dsimp only at hSw); go_simp; try with_reducible rfl)
                      (try simp only [Act.put, List.setIfInBounds_toArray, List.set_cons_zero, List.set_cons_succ, List.getElem_toArray, List.getElem_cons_succ, List.getElem_cons_zero])
                      refine wpAnyH_ready (rs := [6, 8]) (by kernel_rfl) (by simp) ?_
                      refine AllReadyH.cons (o := _) rfl (fun K hK => ?_) ?_
                      · go_simp; refine (CI.out { s2 with parts := (p : Int) + 1 } Wx.drew HX1.out.rb.drew HVx.out.drew HTx.out HER2.out hpos5 rfl).mono ?_; rintro e W2 ⟨kd', di', db', ds', p', n', c', s3, rfl, g1, g2, g3, g4⟩; have HR23 := Lib.hid (R23.call (s0 := s2) HX1.out HXO.out HXC.out hBrW g1 ((But.refl Br Wx).drew.trans g2) g3 g4); have hd4 := HR23.out.d4; have hdl := HR23.out.dl; clear g1 g2 g4; dsimp only
                        refine hK.out _ _ trivial (fun hHeld => ?_)
                        clear hK K
                        (try simp only [Act.put, List.setIfInBounds_toArray, List.set_cons_zero, List.set_cons_succ, List.getElem_toArray, List.getElem_cons_succ, List.getElem_cons_zero])
                        refine wpAnyH_ready (rs := [8]) (by kernel_rfl) (by simp) ?_
                        refine AllReadyH.cons (o := _) rfl (fun K hK => ?_) AllReadyH.nil
                        go_simp
                        refine hK.out _ _ trivial (fun hHeld => ?_)
                        clear hK K
                        (try simp only [Act.put, List.setIfInBounds_toArray, List.set_cons_zero, List.set_cons_succ, List.getElem_toArray, List.getElem_cons_succ, List.getElem_cons_zero])
                        have HRN := Lib.hid (HR23.out.alloc (.cells #[.int .i64 0, .int .i64 0, .int .u64 0, .string ⟨#[]⟩, .slice none 0 0] 25))
                        have HPH : Hid (DB (W2.alloc (.cells #[.int .i64 0, .int .i64 0, .int .u64 0, .string ⟨#[]⟩, .slice none 0 0] 25)) W2.heap.size 0 0 0 ⟨#[]⟩ (.slice none 0 0)) := heap_alloc_new W2 _
                        refine wpAnyH_ready (rs := [9]) (by kernel_rfl) (by simp) ?_
                        refine AllReadyH.cons (o := _) rfl (fun K hK => ?_) AllReadyH.nil
                        (refine step_append_lies _ (by rfl) _ _ _ (by rfl) (W.heap.size + 2) 25 i0 dzero 5 64 Tryd.underlying23 hi hz0 hz1 hz2 rfl (by decide) (.slice q5 ts.length cap5) ts.length xs (by rfl) HRN.out.own ⟨W2.heap.size, 0, none⟩ 1 1 dzeros (by rfl) rfl (dz_news HPH.out) dz_one (by decide) (by unfold maxLen; omega) (by omega) HRN.out.dl (W2.heap.size + 1) (by simp) ?_); intro g2 cap2 w1 hown' hgrow hat hlt2; have HG := Lib.hid (R23.grown HRN.out hown' hgrow hat (by simp)); obtain ⟨x0, x1, x2, x3, x4, x5, x6, x7, x8, x9⟩ := HG.out.cells
                        refine hK.out _ _ trivial (fun hHeld => ?_)
                        clear hK K
                        (try simp only [Act.put, List.setIfInBounds_toArray, List.set_cons_zero, List.set_cons_succ, List.getElem_toArray, List.getElem_cons_succ, List.getElem_cons_zero])
                        refine wpAnyH_take (i := 10) (oi := _) (v := .pointer (some ⟨g2, ts.length * 5, none⟩)) rfl (by kernel_rfl) (by kernel_rfl) (by kernel_rfl) (fun _ _ _ h => h) (Or.inl ⟨by rfl, ?_⟩) (by assumption) ?_
                        focus (intro w' hSw; (try dsimp only at hSw); go_simp; all_goals (intro hcc; exfalso; omega))
                        (try simp only [Act.put, List.setIfInBounds_toArray, List.set_cons_zero, List.set_cons_succ, List.getElem_toArray, List.getElem_cons_succ, List.getElem_cons_zero])
                        refine wpAnyH_take (i := 12) (oi := _) (v := ?_) rfl (by kernel_rfl) (by kernel_rfl) (by kernel_rfl) (fun _ _ _ h => h) (Or.inl ⟨by rfl, ?_⟩) (by assumption) ?_
                        rotate_left
                        focus (intro w' hSw; (try dsimp only at hSw); go_simp; try with_reducible rfl)
                        (try simp only [Act.put, List.setIfInBounds_toArray, List.set_cons_zero, List.set_cons_succ, List.getElem_toArray, List.getElem_cons_succ, List.getElem_cons_zero])
                        refine wpAnyH_ready (rs := [11, 13]) (by kernel_rfl) (by simp) ?_
                        refine AllReadyH.cons (o := _) rfl (fun K hK => ?_) ?_
                        · go_simp
                          refine hK.out _ _ trivial (fun hHeld => ?_)
                          clear hK K
                          (try simp only [Act.put, List.setIfInBounds_toArray, List.set_cons_zero, List.set_cons_succ, List.getElem_toArray, List.getElem_cons_succ, List.getElem_cons_zero])
                          refine wpAnyH_ready (rs := [13]) (by kernel_rfl) (by simp) ?_
                          refine AllReadyH.cons (o := _) rfl (fun K hK => ?_) AllReadyH.nil
                          go_simp
                          refine hK.out _ _ trivial (fun hHeld => ?_)
                          clear hK K
                          (try simp only [Act.put, List.setIfInBounds_toArray, List.set_cons_zero, List.set_cons_succ, List.getElem_toArray, List.getElem_cons_succ, List.getElem_cons_zero])
                          refine wpAnyH_done (by kernel_rfl) ?_ _
                          go_simp
                          go_wp2_with fail
                          go_roundw
                          case rel => (obtain ⟨ts', t1, t2, t3⟩ := r24_next HRN.out hBrW HG.out (.inl rfl) (by omega) hp2 (by omega) HP4.out HP3.out HP6.out; exact ⟨j + 1, ts', s3, _, _, _, by go_num, by omega, t1, t2, t3⟩)
                          case measure => simp [intOf]; omega
                        refine AllReadyH.cons (o := _) rfl (fun K hK => ?_) AllReadyH.nil
                        go_simp
                        refine hK.out _ _ trivial (fun hHeld => ?_)
                        clear hK K
                        (try simp only [Act.put, List.setIfInBounds_toArray, List.set_cons_zero, List.set_cons_succ, List.getElem_toArray, List.getElem_cons_succ, List.getElem_cons_zero])
                        refine wpAnyH_ready (rs := [11]) (by kernel_rfl) (by simp) ?_
                        refine AllReadyH.cons (o := _) rfl (fun K hK => ?_) AllReadyH.nil
                        go_simp
                        refine hK.out _ _ trivial (fun hHeld => ?_)
                        clear hK K
                        (try simp only [Act.put, List.setIfInBounds_toArray, List.set_cons_zero, List.set_cons_succ, List.getElem_toArray, List.getElem_cons_succ, List.getElem_cons_zero])
                        refine wpAnyH_done (by kernel_rfl) ?_ _
                        go_simp
                        go_wp2_with fail
                        go_roundw
                        case rel => (obtain ⟨ts', t1, t2, t3⟩ := r24_next HRN.out hBrW HG.out (.inr rfl) (by omega) hp2 (by omega) HP4.out HP3.out HP6.out; exact ⟨j + 1, ts', s3, _, _, _, by go_num, by omega, t1, t2, t3⟩)
                        case measure => simp [intOf]; omega
                      refine AllReadyH.cons (o := _) rfl (fun K hK => ?_) AllReadyH.nil
                      go_simp
                      refine hK.out _ _ trivial (fun hHeld => ?_)
                      clear hK K
                      (try simp only [Act.put, List.setIfInBounds_toArray, List.set_cons_zero, List.set_cons_succ, List.getElem_toArray, List.getElem_cons_succ, List.getElem_cons_zero])
                      refine wpAnyH_ready (rs := [6]) (by kernel_rfl) (by simp) ?_
                      refine AllReadyH.cons (o := _) rfl (fun K hK => ?_) AllReadyH.nil
                      go_simp; refine (CI.out { s2 with parts := (p : Int) + 1 } (Wx.drew.alloc (.cells #[.int .i64 0, .int .i64 0, .int .u64 0, .string ⟨#[]⟩, .slice none 0 0] 25)) (HX1.out.rb.drew.alloc _) (HVx.out.drew.below ((Below.refl _ _).alloc (Nat.le_refl _) _)) (tab_alloc HTx.out) HER2.out hpos5 rfl).mono ?_; rintro e W2 ⟨kd', di', db', ds', p', n', c', s3, rfl, g1, g2, g3, g4⟩; have HR23 := Lib.hid (R23.callM (s0 := s2) HX1.out HXO.out HXC.out hBrW g1 g2 g3 g4); have hd4 := HR23.out.d4; have hdl := HR23.out.dl; have HPH : Hid (DB W2 Wx.heap.size 0 0 0 ⟨#[]⟩ (.slice none 0 0)) := g2.boxed (heap_alloc_new Wx.drew _) (by have := hltd2; show Wx.heap.size ≠ Br; omega); clear g1 g2 g4; dsimp only
                      refine hK.out _ _ trivial (fun hHeld => ?_)
                      clear hK K
                      (try simp only [Act.put, List.setIfInBounds_toArray, List.set_cons_zero, List.set_cons_succ, List.getElem_toArray, List.getElem_cons_succ, List.getElem_cons_zero])
                      have HRN := HR23
                      refine wpAnyH_ready (rs := [9]) (by kernel_rfl) (by simp) ?_
                      refine AllReadyH.cons (o := _) rfl (fun K hK => ?_) AllReadyH.nil
                      (refine step_append_lies _ (by rfl) _ _ _ (by rfl) (W.heap.size + 2) 25 i0 dzero 5 64 Tryd.underlying23 hi hz0 hz1 hz2 rfl (by decide) (.slice q5 ts.length cap5) ts.length xs (by rfl) HRN.out.own ⟨Wx.heap.size, 0, none⟩ 1 1 dzeros (by rfl) rfl (dz_news HPH.out) dz_one (by decide) (by unfold maxLen; omega) (by omega) HRN.out.dl W2.heap.size (by simp) ?_); intro g2 cap2 w1 hown' hgrow hat hlt2; have HG := Lib.hid (R23.grown HRN.out hown' hgrow hat (by simp)); obtain ⟨x0, x1, x2, x3, x4, x5, x6, x7, x8, x9⟩ := HG.out.cells
                      refine hK.out _ _ trivial (fun hHeld => ?_)
                      clear hK K
                      (try simp only [Act.put, List.setIfInBounds_toArray, List.set_cons_zero, List.set_cons_succ, List.getElem_toArray, List.getElem_cons_succ, List.getElem_cons_zero])
                      refine wpAnyH_take (i := 10) (oi := _) (v := .pointer (some ⟨g2, ts.length * 5, none⟩)) rfl (by kernel_rfl) (by kernel_rfl) (by kernel_rfl) (fun _ _ _ h => h) (Or.inl ⟨by rfl, ?_⟩) (by assumption) ?_
                      focus (intro w' hSw; (try dsimp only at hSw); go_simp; all_goals (intro hcc; exfalso; omega))
                      (try simp only [Act.put, List.setIfInBounds_toArray, List.set_cons_zero, List.set_cons_succ, List.getElem_toArray, List.getElem_cons_succ, List.getElem_cons_zero])
                      refine wpAnyH_take (i := 12) (oi := _) (v := ?_) rfl (by kernel_rfl) (by kernel_rfl) (by kernel_rfl) (fun _ _ _ h => h) (Or.inl ⟨by rfl, ?_⟩) (by assumption) ?_
                      rotate_left
                      focus (intro w' hSw; (try dsimp only at hSw); go_simp; try with_reducible rfl)
                      (try simp only [Act.put, List.setIfInBounds_toArray, List.set_cons_zero, List.set_cons_succ, List.getElem_toArray, List.getElem_cons_succ, List.getElem_cons_zero])
                      refine wpAnyH_ready (rs := [11, 13]) (by kernel_rfl) (by simp) ?_
                      refine AllReadyH.cons (o := _) rfl (fun K hK => ?_) ?_
                      · go_simp
                        refine hK.out _ _ trivial (fun hHeld => ?_)
                        clear hK K
                        (try simp only [Act.put, List.setIfInBounds_toArray, List.set_cons_zero, List.set_cons_succ, List.getElem_toArray, List.getElem_cons_succ, List.getElem_cons_zero])
                        refine wpAnyH_ready (rs := [13]) (by kernel_rfl) (by simp) ?_
                        refine AllReadyH.cons (o := _) rfl (fun K hK => ?_) AllReadyH.nil
                        go_simp
                        refine hK.out _ _ trivial (fun hHeld => ?_)
                        clear hK K
                        (try simp only [Act.put, List.setIfInBounds_toArray, List.set_cons_zero, List.set_cons_succ, List.getElem_toArray, List.getElem_cons_succ, List.getElem_cons_zero])
                        refine wpAnyH_done (by kernel_rfl) ?_ _
                        go_simp
                        go_wp2_with fail
                        go_roundw
                        case rel => (obtain ⟨ts', t1, t2, t3⟩ := r24_next HRN.out hBrW HG.out (.inl rfl) (by omega) hp2 (by omega) HP4.out HP3.out HP6.out; exact ⟨j + 1, ts', s3, _, _, _, by go_num, by omega, t1, t2, t3⟩)
                        case measure => simp [intOf]; omega
                      refine AllReadyH.cons (o := _) rfl (fun K hK => ?_) AllReadyH.nil
                      go_simp
                      refine hK.out _ _ trivial (fun hHeld => ?_)
                      clear hK K
                      (try simp only [Act.put, List.setIfInBounds_toArray, List.set_cons_zero, List.set_cons_succ, List.getElem_toArray, List.getElem_cons_succ, List.getElem_cons_zero])
                      refine wpAnyH_ready (rs := [11]) (by kernel_rfl) (by simp) ?_
                      refine AllReadyH.cons (o := _) rfl (fun K hK => ?_) AllReadyH.nil
                      go_simp
                      refine hK.out _ _ trivial (fun hHeld => ?_)
                      clear hK K
                      (try simp only [Act.put, List.setIfInBounds_toArray, List.set_cons_zero, List.set_cons_succ, List.getElem_toArray, List.getElem_cons_succ, List.getElem_cons_zero])
                      refine wpAnyH_done (by kernel_rfl) ?_ _
                      go_simp
                      go_wp2_with fail
                      go_roundw
                      case rel => (obtain ⟨ts', t1, t2, t3⟩ := r24_next HRN.out hBrW HG.out (.inr rfl) (by omega) hp2 (by omega) HP4.out HP3.out HP6.out; exact ⟨j + 1, ts', s3, _, _, _, by go_num, by omega, t1, t2, t3⟩)
                      case measure => simp [intOf]; omega
                    refine AllReadyH.cons (o := _) rfl (fun K hK => ?_) ?_
                    · go_simp; refine (CI.out { s2 with parts := (p : Int) + 1 } Wx.drew HX1.out.rb.drew HVx.out.drew HTx.out HER2.out hpos5 rfl).mono ?_; rintro e W2 ⟨kd', di', db', ds', p', n', c', s3, rfl, g1, g2, g3, g4⟩; have HR23 := Lib.hid (R23.call (s0 := s2) HX1.out HXO.out HXC.out hBrW g1 ((But.refl Br Wx).drew.trans g2) g3 g4); have hd4 := HR23.out.d4; have hdl := HR23.out.dl; clear g1 g2 g4; dsimp only
                      refine hK.out _ _ trivial (fun hHeld => ?_)
                      clear hK K
                      (try simp only [Act.put, List.setIfInBounds_toArray, List.set_cons_zero, List.set_cons_succ, List.getElem_toArray, List.getElem_cons_succ, List.getElem_cons_zero])
                      refine wpAnyH_ready (rs := [1, 8]) (by kernel_rfl) (by simp) ?_
                      refine AllReadyH.cons (o := _) rfl (fun K hK => ?_) ?_
                      · go_simp
                        refine hK.out _ _ trivial (fun hHeld => ?_)
                        clear hK K
                        (try simp only [Act.put, List.setIfInBounds_toArray, List.set_cons_zero, List.set_cons_succ, List.getElem_toArray, List.getElem_cons_succ, List.getElem_cons_zero])
                        refine wpAnyH_take (i := 7) (oi := _) (v := ?_) rfl (by kernel_rfl) (by kernel_rfl) (by kernel_rfl) (fun _ _ _ h => h) (Or.inl ⟨by rfl, ?_⟩) (by assumption) ?_
                        rotate_left
                        focus (intro w' hSw; (try dsimp only at hSw); go_simp; try with_reducible rfl)
                        (try simp only [Act.put, List.setIfInBounds_toArray, List.set_cons_zero, List.set_cons_succ, List.getElem_toArray, List.getElem_cons_succ, List.getElem_cons_zero])
                        refine wpAnyH_ready (rs := [8]) (by kernel_rfl) (by simp) ?_
                        refine AllReadyH.cons (o := _) rfl (fun K hK => ?_) AllReadyH.nil
                        go_simp
                        refine hK.out _ _ trivial (fun hHeld => ?_)
                        clear hK K
                        (try simp only [Act.put, List.setIfInBounds_toArray, List.set_cons_zero, List.set_cons_succ, List.getElem_toArray, List.getElem_cons_succ, List.getElem_cons_zero])
                        have HRN := Lib.hid (HR23.out.alloc (.cells #[.int .i64 0, .int .i64 0, .int .u64 0, .string ⟨#[]⟩, .slice none 0 0] 25))
                        have HPH : Hid (DB (W2.alloc (.cells #[.int .i64 0, .int .i64 0, .int .u64 0, .string ⟨#[]⟩, .slice none 0 0] 25)) W2.heap.size 0 0 0 ⟨#[]⟩ (.slice none 0 0)) := heap_alloc_new W2 _
                        refine wpAnyH_ready (rs := [9]) (by kernel_rfl) (by simp) ?_
                        refine AllReadyH.cons (o := _) rfl (fun K hK => ?_) AllReadyH.nil
                        (refine step_append_lies _ (by rfl) _ _ _ (by rfl) (W.heap.size + 2) 25 i0 dzero 5 64 Tryd.underlying23 hi hz0 hz1 hz2 rfl (by decide) (.slice q5 ts.length cap5) ts.length xs (by rfl) HRN.out.own ⟨W2.heap.size, 0, none⟩ 1 1 dzeros (by rfl) rfl (dz_news HPH.out) dz_one (by decide) (by unfold maxLen; omega) (by omega) HRN.out.dl (W2.heap.size + 1) (by simp) ?_); intro g2 cap2 w1 hown' hgrow hat hlt2; have HG := Lib.hid (R23.grown HRN.out hown' hgrow hat (by simp)); obtain ⟨x0, x1, x2, x3, x4, x5, x6, x7, x8, x9⟩ := HG.out.cells
                        refine hK.out _ _ trivial (fun hHeld => ?_)
                        clear hK K
                        (try simp only [Act.put, List.setIfInBounds_toArray, List.set_cons_zero, List.set_cons_succ, List.getElem_toArray, List.getElem_cons_succ, List.getElem_cons_zero])
                        refine wpAnyH_take (i := 10) (oi := _) (v := .pointer (some ⟨g2, ts.length * 5, none⟩)) rfl (by kernel_rfl) (by kernel_rfl) (by kernel_rfl) (fun _ _ _ h => h) (Or.inl ⟨by rfl, ?_⟩) (by assumption) ?_
                        focus (intro w' hSw; (try dsimp only at hSw); go_simp; all_goals (intro hcc; exfalso; omega))
                        (try simp only [Act.put, List.setIfInBounds_toArray, List.set_cons_zero, List.set_cons_succ, List.getElem_toArray, List.getElem_cons_succ, List.getElem_cons_zero])
                        refine wpAnyH_take (i := 12) (oi := _) (v := ?_) rfl (by kernel_rfl) (by kernel_rfl) (by kernel_rfl) (fun _ _ _ h => h) (Or.inl ⟨by rfl, ?_⟩) (by assumption) ?_
                        rotate_left
                        focus (intro w' hSw; (try dsimp only at hSw); go_simp; try with_reducible rfl)
                        (try simp only [Act.put, List.setIfInBounds_toArray, List.set_cons_zero, List.set_cons_succ, List.getElem_toArray, List.getElem_cons_succ, List.getElem_cons_zero])
                        refine wpAnyH_ready (rs := [11, 13]) (by kernel_rfl) (by simp) ?_
                        refine AllReadyH.cons (o := _) rfl (fun K hK => ?_) ?_
                        · go_simp
                          refine hK.out _ _ trivial (fun hHeld => ?_)
                          clear hK K
                          (try simp only [Act.put, List.setIfInBounds_toArray, List.set_cons_zero, List.set_cons_succ, List.getElem_toArray, List.getElem_cons_succ, List.getElem_cons_zero])
                          refine wpAnyH_ready (rs := [13]) (by kernel_rfl) (by simp) ?_
                          refine AllReadyH.cons (o := _) rfl (fun K hK => ?_) AllReadyH.nil
                          go_simp
                          refine hK.out _ _ trivial (fun hHeld => ?_)
                          clear hK K
                          (try simp only [Act.put, List.setIfInBounds_toArray, List.set_cons_zero, List.set_cons_succ, List.getElem_toArray, List.getElem_cons_succ, List.getElem_cons_zero])
                          refine wpAnyH_done (by kernel_rfl) ?_ _
                          go_simp
                          go_wp2_with fail
                          go_roundw
                          case rel => (obtain ⟨ts', t1, t2, t3⟩ := r24_next HRN.out hBrW HG.out (.inl rfl) (by omega) hp2 (by omega) HP4.out HP3.out HP6.out; exact ⟨j + 1, ts', s3, _, _, _, by go_num, by omega, t1, t2, t3⟩)
                          case measure => simp [intOf]; omega
                        refine AllReadyH.cons (o := _) rfl (fun K hK => ?_) AllReadyH.nil
                        go_simp
                        refine hK.out _ _ trivial (fun hHeld => ?_)
                        clear hK K
                        (try simp only [Act.put, List.setIfInBounds_toArray, List.set_cons_zero, List.set_cons_succ, List.getElem_toArray, List.getElem_cons_succ, List.getElem_cons_zero])
                        refine wpAnyH_ready (rs := [11]) (by kernel_rfl) (by simp) ?_
                        refine AllReadyH.cons (o := _) rfl (fun K hK => ?_) AllReadyH.nil
                        go_simp
                        refine hK.out _ _ trivial (fun hHeld => ?_)
                        clear hK K
                        (try simp only [Act.put, List.setIfInBounds_toArray, List.set_cons_zero, List.set_cons_succ, List.getElem_toArray, List.getElem_cons_succ, List.getElem_cons_zero])
                        refine wpAnyH_done (by kernel_rfl) ?_ _
                        go_simp
                        go_wp2_with fail
                        go_roundw
                        case rel => (obtain ⟨ts', t1, t2, t3⟩ := r24_next HRN.out hBrW HG.out (.inr rfl) (by omega) hp2 (by omega) HP4.out HP3.out HP6.out; exact ⟨j + 1, ts', s3, _, _, _, by go_num, by omega, t1, t2, t3⟩)
                        case measure => simp [intOf]; omega
                      refine AllReadyH.cons (o := _) rfl (fun K hK => ?_) AllReadyH.nil
                      go_simp
                      refine hK.out _ _ trivial (fun hHeld => ?_)
                      clear hK K
                      (try simp only [Act.put, List.setIfInBounds_toArray, List.set_cons_zero, List.set_cons_succ, List.getElem_toArray, List.getElem_cons_succ, List.getElem_cons_zero])
                      refine wpAnyH_ready (rs := [1]) (by kernel_rfl) (by simp) ?_
                      refine AllReadyH.cons (o := _) rfl (fun K hK => ?_) AllReadyH.nil
                      go_simp
                      refine hK.out _ _ trivial (fun hHeld => ?_)
                      clear hK K
                      (try simp only [Act.put, List.setIfInBounds_toArray, List.set_cons_zero, List.set_cons_succ, List.getElem_toArray, List.getElem_cons_succ, List.getElem_cons_zero])
                      refine wpAnyH_take (i := 7) (oi := _) (v := ?_) rfl (by kernel_rfl) (by kernel_rfl) (by kernel_rfl) (fun _ _ _ h => h) (Or.inl ⟨by rfl, ?_⟩) (by assumption) ?_
                      rotate_left
                      focus (intro w' hSw; (try dsimp only at hSw); go_simp; try with_reducible rfl)
                      (try simp only [Act.put, List.setIfInBounds_toArray, List.set_cons_zero, List.set_cons_succ, List.getElem_toArray, List.getElem_cons_succ, List.getElem_cons_zero])
                      have HRN := Lib.hid (HR23.out.alloc (.cells #[.int .i64 0, .int .i64 0, .int .u64 0, .string ⟨#[]⟩, .slice none 0 0] 25))
                      have HPH : Hid (DB (W2.alloc (.cells #[.int .i64 0, .int .i64 0, .int .u64 0, .string ⟨#[]⟩, .slice none 0 0] 25)) W2.heap.size 0 0 0 ⟨#[]⟩ (.slice none 0 0)) := heap_alloc_new W2 _
                      refine wpAnyH_ready (rs := [9]) (by kernel_rfl) (by simp) ?_
                      refine AllReadyH.cons (o := _) rfl (fun K hK => ?_) AllReadyH.nil
                      (refine step_append_lies _ (by rfl) _ _ _ (by rfl) (W.heap.size + 2) 25 i0 dzero 5 64 Tryd.underlying23 hi hz0 hz1 hz2 rfl (by decide) (.slice q5 ts.length cap5) ts.length xs (by rfl) HRN.out.own ⟨W2.heap.size, 0, none⟩ 1 1 dzeros (by rfl) rfl (dz_news HPH.out) dz_one (by decide) (by unfold maxLen; omega) (by omega) HRN.out.dl (W2.heap.size + 1) (by simp) ?_); intro g2 cap2 w1 hown' hgrow hat hlt2; have HG := Lib.hid (R23.grown HRN.out hown' hgrow hat (by simp)); obtain ⟨x0, x1, x2, x3, x4, x5, x6, x7, x8, x9⟩ := HG.out.cells
                      refine hK.out _ _ trivial (fun hHeld => ?_)
                      clear hK K
                      (try simp only [Act.put, List.setIfInBounds_toArray, List.set_cons_zero, List.set_cons_succ, List.getElem_toArray, List.getElem_cons_succ, List.getElem_cons_zero])
                      refine wpAnyH_take (i := 10) (oi := _) (v := .pointer (some ⟨g2, ts.length * 5, none⟩)) rfl (by kernel_rfl) (by kernel_rfl) (by kernel_rfl) (fun _ _ _ h => h) (Or.inl ⟨by rfl, ?_⟩) (by assumption) ?_
                      focus (intro w' hSw; (try dsimp only at hSw); go_simp; all_goals (intro hcc; exfalso; omega))
                      (try simp only [Act.put, List.setIfInBounds_toArray, List.set_cons_zero, List.set_cons_succ, List.getElem_toArray, List.getElem_cons_succ, List.getElem_cons_zero])
                      refine wpAnyH_take (i := 12) (oi := _) (v := ?_) rfl (by kernel_rfl) (by kernel_rfl) (by kernel_rfl) (fun _ _ _ h => h) (Or.inl ⟨by rfl, ?_⟩) (by assumption) ?_
                      rotate_left
                      focus (intro w' hSw; (try dsimp only at hSw); go_simp; try with_reducible rfl)
                      (try simp only [Act.put, List.setIfInBounds_toArray, List.set_cons_zero, List.set_cons_succ, List.getElem_toArray, List.getElem_cons_succ, List.getElem_cons_zero])
                      refine wpAnyH_ready (rs := [11, 13]) (by kernel_rfl) (by simp) ?_
                      refine AllReadyH.cons (o := _) rfl (fun K hK => ?_) ?_
                      · go_simp
                        refine hK.out _ _ trivial (fun hHeld => ?_)
                        clear hK K
                        (try simp only [Act.put, List.setIfInBounds_toArray, List.set_cons_zero, List.set_cons_succ, List.getElem_toArray, List.getElem_cons_succ, List.getElem_cons_zero])
                        refine wpAnyH_ready (rs := [13]) (by kernel_rfl) (by simp) ?_
                        refine AllReadyH.cons (o := _) rfl (fun K hK => ?_) AllReadyH.nil
                        go_simp
                        refine hK.out _ _ trivial (fun hHeld => ?_)
                        clear hK K
                        (try simp only [Act.put, List.setIfInBounds_toArray, List.set_cons_zero, List.set_cons_succ, List.getElem_toArray, List.getElem_cons_succ, List.getElem_cons_zero])
                        refine wpAnyH_done (by kernel_rfl) ?_ _
                        go_simp
                        go_wp2_with fail
                        go_roundw
                        case rel => (obtain ⟨ts', t1, t2, t3⟩ := r24_next HRN.out hBrW HG.out (.inl rfl) (by omega) hp2 (by omega) HP4.out HP3.out HP6.out; exact ⟨j + 1, ts', s3, _, _, _, by go_num, by omega, t1, t2, t3⟩)
                        case measure => simp [intOf]; omega
                      refine AllReadyH.cons (o := _) rfl (fun K hK => ?_) AllReadyH.nil
                      go_simp
                      refine hK.out _ _ trivial (fun hHeld => ?_)
                      clear hK K
                      (try simp only [Act.put, List.setIfInBounds_toArray, List.set_cons_zero, List.set_cons_succ, List.getElem_toArray, List.getElem_cons_succ, List.getElem_cons_zero])
                      refine wpAnyH_ready (rs := [11]) (by kernel_rfl) (by simp) ?_
                      refine AllReadyH.cons (o := _) rfl (fun K hK => ?_) AllReadyH.nil
                      go_simp
                      refine hK.out _ _ trivial (fun hHeld => ?_)
                      clear hK K
                      (try simp only [Act.put, List.setIfInBounds_toArray, List.set_cons_zero, List.set_cons_succ, List.getElem_toArray, List.getElem_cons_succ, List.getElem_cons_zero])
                      refine wpAnyH_done (by kernel_rfl) ?_ _
                      go_simp
                      go_wp2_with fail
                      go_roundw
                      case rel => (obtain ⟨ts', t1, t2, t3⟩ := r24_next HRN.out hBrW HG.out (.inr rfl) (by omega) hp2 (by omega) HP4.out HP3.out HP6.out; exact ⟨j + 1, ts', s3, _, _, _, by go_num, by omega, t1, t2, t3⟩)
                      case measure => simp [intOf]; omega
                    refine AllReadyH.cons (o := _) rfl (fun K hK => ?_) AllReadyH.nil
                    go_simp
                    refine hK.out _ _ trivial (fun hHeld => ?_)
                    clear hK K
                    (try simp only [Act.put, List.setIfInBounds_toArray, List.set_cons_zero, List.set_cons_succ, List.getElem_toArray, List.getElem_cons_succ, List.getElem_cons_zero])
                    refine wpAnyH_ready (rs := [1, 6]) (by kernel_rfl) (by simp) ?_
                    refine AllReadyH.cons (o := _) rfl (fun K hK => ?_) ?_
                    · go_simp
                      refine hK.out _ _ trivial (fun hHeld => ?_)
                      clear hK K
                      (try simp only [Act.put, List.setIfInBounds_toArray, List.set_cons_zero, List.set_cons_succ, List.getElem_toArray, List.getElem_cons_succ, List.getElem_cons_zero])
                      refine wpAnyH_take (i := 7) (oi := _) (v := ?_) rfl (by kernel_rfl) (by kernel_rfl) (by kernel_rfl) (fun _ _ _ h => h) (Or.inl ⟨by rfl, ?_⟩) (by assumption) ?_
                      rotate_left
                      focus (intro w' hSw; (try dsimp only at hSw); go_simp; try with_reducible rfl)
                      (try simp only [Act.put, List.setIfInBounds_toArray, List.set_cons_zero, List.set_cons_succ, List.getElem_toArray, List.getElem_cons_succ, List.getElem_cons_zero])
                      refine wpAnyH_ready (rs := [6]) (by kernel_rfl) (by simp) ?_
                      refine AllReadyH.cons (o := _) rfl (fun K hK => ?_) AllReadyH.nil
                      go_simp; refine (CI.out { s2 with parts := (p : Int) + 1 } (Wx.drew.alloc (.cells #[.int .i64 0, .int .i64 0, .int .u64 0, .string ⟨#[]⟩, .slice none 0 0] 25)) (HX1.out.rb.drew.alloc _) (HVx.out.drew.below ((Below.refl _ _).alloc (Nat.le_refl _) _)) (tab_alloc HTx.out) HER2.out hpos5 rfl).mono ?_; rintro e W2 ⟨kd', di', db', ds', p', n', c', s3, rfl, g1, g2, g3, g4⟩; have HR23 := Lib.hid (R23.callM (s0 := s2) HX1.out HXO.out HXC.out hBrW g1 g2 g3 g4); have hd4 := HR23.out.d4; have hdl := HR23.out.dl; have HPH : Hid (DB W2 Wx.heap.size 0 0 0 ⟨#[]⟩ (.slice none 0 0)) := g2.boxed (heap_alloc_new Wx.drew _) (by have := hltd2; show Wx.heap.size ≠ Br; omega); clear g1 g2 g4; dsimp only
                      refine hK.out _ _ trivial (fun hHeld => ?_)
                      clear hK K
                      (try simp only [Act.put, List.setIfInBounds_toArray, List.set_cons_zero, List.set_cons_succ, List.getElem_toArray, List.getElem_cons_succ, List.getElem_cons_zero])
                      have HRN := HR23
                      refine wpAnyH_ready (rs := [9]) (by kernel_rfl) (by simp) ?_
                      refine AllReadyH.cons (o := _) rfl (fun K hK => ?_) AllReadyH.nil
                      (refine step_append_lies _ (by rfl) _ _ _ (by rfl) (W.heap.size + 2) 25 i0 dzero 5 64 Tryd.underlying23 hi hz0 hz1 hz2 rfl (by decide) (.slice q5 ts.length cap5) ts.length xs (by rfl) HRN.out.own ⟨Wx.heap.size, 0, none⟩ 1 1 dzeros (by rfl) rfl (dz_news HPH.out) dz_one (by decide) (by unfold maxLen; omega) (by omega) HRN.out.dl W2.heap.size (by simp) ?_); intro g2 cap2 w1 hown' hgrow hat hlt2; have HG := Lib.hid (R23.grown HRN.out hown' hgrow hat (by simp)); obtain ⟨x0, x1, x2, x3, x4, x5, x6, x7, x8, x9⟩ := HG.out.cells
                      refine hK.out _ _ trivial (fun hHeld => ?_)
                      clear hK K
                      (try simp only [Act.put, List.setIfInBounds_toArray, List.set_cons_zero, List.set_cons_succ, List.getElem_toArray, List.getElem_cons_succ, List.getElem_cons_zero])
                      refine wpAnyH_take (i := 10) (oi := _) (v := .pointer (some ⟨g2, ts.length * 5, none⟩)) rfl (by kernel_rfl) (by kernel_rfl) (by kernel_rfl) (fun _ _ _ h => h) (Or.inl ⟨by rfl, ?_⟩) (by assumption) ?_
                      focus (intro w' hSw; (try dsimp only at hSw); go_simp; all_goals (intro hcc; exfalso; omega))
                      (try simp only [Act.put, List.setIfInBounds_toArray, List.set_cons_zero, List.set_cons_succ, List.getElem_toArray, List.getElem_cons_succ, List.getElem_cons_zero])
                      refine wpAnyH_take (i := 12) (oi := _) (v := ?_) rfl (by kernel_rfl) (by kernel_rfl) (by kernel_rfl) (fun _ _ _ h => h) (Or.inl ⟨by rfl, ?_⟩) (by assumption) ?_
                      rotate_left
                      focus (intro w' hSw; (try dsimp only at hSw); go_simp; try with_reducible rfl)
                      (try simp only [Act.put, List.setIfInBounds_toArray, List.set_cons_zero, List.set_cons_succ, List.getElem_toArray, List.getElem_cons_succ, List.getElem_cons_zero])
                      refine wpAnyH_ready (rs := [11, 13]) (by kernel_rfl) (by simp) ?_
                      refine AllReadyH.cons (o := _) rfl (fun K hK => ?_) ?_
                      · go_simp
                        refine hK.out _ _ trivial (fun hHeld => ?_)
                        clear hK K
                        (try simp only [Act.put, List.setIfInBounds_toArray, List.set_cons_zero, List.set_cons_succ, List.getElem_toArray, List.getElem_cons_succ, List.getElem_cons_zero])
                        refine wpAnyH_ready (rs := [13]) (by kernel_rfl) (by simp) ?_
                        refine AllReadyH.cons (o := _) rfl (fun K hK => ?_) AllReadyH.nil
                        go_simp
                        refine hK.out _ _ trivial (fun hHeld => ?_)
                        clear hK K
                        (try simp only [Act.put, List.setIfInBounds_toArray, List.set_cons_zero, List.set_cons_succ, List.getElem_toArray, List.getElem_cons_succ, List.getElem_cons_zero])
                        refine wpAnyH_done (by kernel_rfl) ?_ _
                        go_simp
                        go_wp2_with fail
                        go_roundw
                        case rel => (obtain ⟨ts', t1, t2, t3⟩ := r24_next HRN.out hBrW HG.out (.inl rfl) (by omega) hp2 (by omega) HP4.out HP3.out HP6.out; exact ⟨j + 1, ts', s3, _, _, _, by go_num, by omega, t1, t2, t3⟩)
                        case measure => simp [intOf]; omega
                      refine AllReadyH.cons (o := _) rfl (fun K hK => ?_) AllReadyH.nil
                      go_simp
                      refine hK.out _ _ trivial (fun hHeld => ?_)
                      clear hK K
                      (try simp only [Act.put, List.setIfInBounds_toArray, List.set_cons_zero, List.set_cons_succ, List.getElem_toArray, List.getElem_cons_succ, List.getElem_cons_zero])
                      refine wpAnyH_ready (rs := [11]) (by kernel_rfl) (by simp) ?_
                      refine AllReadyH.cons (o := _) rfl (fun K hK => ?_) AllReadyH.nil
                      go_simp
                      refine hK.out _ _ trivial (fun hHeld => ?_)
                      clear hK K
                      (try simp only [Act.put, List.setIfInBounds_toArray, List.set_cons_zero, List.set_cons_succ, List.getElem_toArray, List.getElem_cons_succ, List.getElem_cons_zero])
                      refine wpAnyH_done (by kernel_rfl) ?_ _
                      go_simp
                      go_wp2_with fail
                      go_roundw
                      case rel => (obtain ⟨ts', t1, t2, t3⟩ := r24_next HRN.out hBrW HG.out (.inr rfl) (by omega) hp2 (by omega) HP4.out HP3.out HP6.out; exact ⟨j + 1, ts', s3, _, _, _, by go_num, by omega, t1, t2, t3⟩)
                      case measure => simp [intOf]; omega
                    refine AllReadyH.cons (o := _) rfl (fun K hK => ?_) AllReadyH.nil
                    go_simp; refine (CI.out { s2 with parts := (p : Int) + 1 } (Wx.drew.alloc (.cells #[.int .i64 0, .int .i64 0, .int .u64 0, .string ⟨#[]⟩, .slice none 0 0] 25)) (HX1.out.rb.drew.alloc _) (HVx.out.drew.below ((Below.refl _ _).alloc (Nat.le_refl _) _)) (tab_alloc HTx.out) HER2.out hpos5 rfl).mono ?_; rintro e W2 ⟨kd', di', db', ds', p', n', c', s3, rfl, g1, g2, g3, g4⟩; have HR23 := Lib.hid (R23.callM (s0 := s2) HX1.out HXO.out HXC.out hBrW g1 g2 g3 g4); have hd4 := HR23.out.d4; have hdl := HR23.out.dl; have HPH : Hid (DB W2 Wx.heap.size 0 0 0 ⟨#[]⟩ (.slice none 0 0)) := g2.boxed (heap_alloc_new Wx.drew _) (by have := hltd2; show Wx.heap.size ≠ Br; omega); clear g1 g2 g4; dsimp only
                    refine hK.out _ _ trivial (fun hHeld => ?_)
                    clear hK K
                    (try simp only [Act.put, List.setIfInBounds_toArray, List.set_cons_zero, List.set_cons_succ, List.getElem_toArray, List.getElem_cons_succ, List.getElem_cons_zero])
                    refine wpAnyH_ready (rs := [1]) (by kernel_rfl) (by simp) ?_
                    refine AllReadyH.cons (o := _) rfl (fun K hK => ?_) AllReadyH.nil
                    go_simp
                    refine hK.out _ _ trivial (fun hHeld => ?_)
                    clear hK K
                    (try simp only [Act.put, List.setIfInBounds_toArray, List.set_cons_zero, List.set_cons_succ, List.getElem_toArray, List.getElem_cons_succ, List.getElem_cons_zero])
                    refine wpAnyH_take (i := 7) (oi := _) (v := ?_) rfl (by kernel_rfl) (by kernel_rfl) (by kernel_rfl) (fun _ _ _ h => h) (Or.inl ⟨by rfl, ?_⟩) (by assumption) ?_
                    rotate_left
                    focus (intro w' hSw; (try dsimp only at hSw); go_simp; try with_reducible rfl)
                    (try simp only [Act.put, List.setIfInBounds_toArray, List.set_cons_zero, List.set_cons_succ, List.getElem_toArray, List.getElem_cons_succ, List.getElem_cons_zero])
                    have HRN := HR23
                    refine wpAnyH_ready (rs := [9]) (by kernel_rfl) (by simp) ?_
                    refine AllReadyH.cons (o := _) rfl (fun K hK => ?_) AllReadyH.nil
                    (refine step_append_lies _ (by rfl) _ _ _ (by rfl) (W.heap.size + 2) 25 i0 dzero 5 64 Tryd.underlying23 hi hz0 hz1 hz2 rfl (by decide) (.slice q5 ts.length cap5) ts.length xs (by rfl) HRN.out.own ⟨Wx.heap.size, 0, none⟩ 1 1 dzeros (by rfl) rfl (dz_news HPH.out) dz_one (by decide) (by unfold maxLen; omega) (by omega) HRN.out.dl W2.heap.size (by simp) ?_); intro g2 cap2 w1 hown' hgrow hat hlt2; have HG := Lib.hid (R23.grown HRN.out hown' hgrow hat (by simp)); obtain ⟨x0, x1, x2, x3, x4, x5, x6, x7, x8, x9⟩ := HG.out.cells
                    refine hK.out _ _ trivial (fun hHeld => ?_)
                    clear hK K
                    (try simp only [Act.put, List.setIfInBounds_toArray, List.set_cons_zero, List.set_cons_succ, List.getElem_toArray, List.getElem_cons_succ, List.getElem_cons_zero])
                    refine wpAnyH_take (i := 10) (oi := _) (v := .pointer (some ⟨g2, ts.length * 5, none⟩)) rfl (by kernel_rfl) (by kernel_rfl) (by kernel_rfl) (fun _ _ _ h => h) (Or.inl ⟨by rfl, ?_⟩) (by assumption) ?_
                    focus (intro w' hSw; (try dsimp only at hSw); go_simp; all_goals (intro hcc; exfalso; omega))
                    (try simp only [Act.put, List.setIfInBounds_toArray, List.set_cons_zero, List.set_cons_succ, List.getElem_toArray, List.getElem_cons_succ, List.getElem_cons_zero])
                    refine wpAnyH_take (i := 12) (oi := _) (v := ?_) rfl (by kernel_rfl) (by kernel_rfl) (by kernel_rfl) (fun _ _ _ h => h) (Or.inl ⟨by rfl, ?_⟩) (by assumption) ?_
                    rotate_left
                    focus (intro w' hSw; (try dsimp only at hSw); go_simp; try with_reducible rfl)
                    (try simp only [Act.put, List.setIfInBounds_toArray, List.set_cons_zero, List.set_cons_succ, List.getElem_toArray, List.getElem_cons_succ, List.getElem_cons_zero])
                    refine wpAnyH_ready (rs := [11, 13]) (by kernel_rfl) (by simp) ?_
                    refine AllReadyH.cons (o := _) rfl (fun K hK => ?_) ?_
                    · go_simp
                      refine hK.out _ _ trivial (fun hHeld => ?_)
                      clear hK K
                      (try simp only [Act.put, List.setIfInBounds_toArray, List.set_cons_zero, List.set_cons_succ, List.getElem_toArray, List.getElem_cons_succ, List.getElem_cons_zero])
                      refine wpAnyH_ready (rs := [13]) (by kernel_rfl) (by simp) ?_
                      refine AllReadyH.cons (o := _) rfl (fun K hK => ?_) AllReadyH.nil
                      go_simp
                      refine hK.out _ _ trivial (fun hHeld => ?_)
                      clear hK K
                      (try simp only [Act.put, List.setIfInBounds_toArray, List.set_cons_zero, List.set_cons_succ, List.getElem_toArray, List.getElem_cons_succ, List.getElem_cons_zero])
                      refine wpAnyH_done (by kernel_rfl) ?_ _
                      go_simp
                      go_wp2_with fail
                      go_roundw
                      case rel => (obtain ⟨ts', t1, t2, t3⟩ := r24_next HRN.out hBrW HG.out (.inl rfl) (by omega) hp2 (by omega) HP4.out HP3.out HP6.out; exact ⟨j + 1, ts', s3, _, _, _, by go_num, by omega, t1, t2, t3⟩)
                      case measure => simp [intOf]; omega
                    refine AllReadyH.cons (o := _) rfl (fun K hK => ?_) AllReadyH.nil
                    go_simp
                    refine hK.out _ _ trivial (fun hHeld => ?_)
                    clear hK K
                    (try simp only [Act.put, List.setIfInBounds_toArray, List.set_cons_zero, List.set_cons_succ, List.getElem_toArray, List.getElem_cons_succ, List.getElem_cons_zero])
                    refine wpAnyH_ready (rs := [11]) (by kernel_rfl) (by simp) ?_
                    refine AllReadyH.cons (o := _) rfl (fun K hK => ?_) AllReadyH.nil
                    go_simp
                    refine hK.out _ _ trivial (fun hHeld => ?_)
                    clear hK K
                    (try simp only [Act.put, List.setIfInBounds_toArray, List.set_cons_zero, List.set_cons_succ, List.getElem_toArray, List.getElem_cons_succ, List.getElem_cons_zero])
                    refine wpAnyH_done (by kernel_rfl) ?_ _
                    go_simp
                    go_wp2_with fail
                    go_roundw
                    case rel => (obtain ⟨ts', t1, t2, t3⟩ := r24_next HRN.out hBrW HG.out (.inr rfl) (by omega) hp2 (by omega) HP4.out HP3.out HP6.out; exact ⟨j + 1, ts', s3, _, _, _, by go_num, by omega, t1, t2, t3⟩)
                    case measure => simp [intOf]; omega
                  · obtain rfl : j = o.n := by omega
                    have HQ : Hid (valD (f + 1) deep parts (l.drop s.pos) = .done (.mk (k : Nat) o.di (o.db : Nat) o.ds ts, p) (1 + u0 + u)) := by
                      show _ = _
                      rw [HVL.out, HP6.out, Nat.sub_self]
                      simp [listD]
                    have hjj : ¬ (o.n : Int) < (o.n : Int) := by omega
                    clear hj hjn
                    go_wp2_with fail
                    refine bodyPost_ret (res_datum (B := W.heap.size) (HA5.out.res.set5 _ _ _ _ _) rfl _ rfl) rfl ?_
                    rw [← HPP.out]
                    refine ⟨_, _, _, _, _, _, _, _, rfl, HA5.out.rb.set5 _ hne0 _ _ _ _ _, HA5.out.but.set5 _ (Nat.le_refl _) _ _ _ _ _, hpos5, ?_⟩
                    rw [HQ.out]
                    have hfv := HFV.out
                    refine ⟨by rw [HP3.out, HPS.out]; omega, HER2.out, HP1.out, ?_⟩
                    have h := HL5.out.in_ (lo := W.heap.size + 2) (Nat.le_refl _) (kd := (k : Nat)) (di := o.di) (db := (o.db : Nat)) (ds := o.ds) (by unfold I64; omega) hfv.2.2.1 ⟨hfv.2.2.2.1, hfv.2.2.2.2.1⟩
                    exact h.kept fun b hb hlt => ⟨heap_set5_other (by omega) _ _ _ _ _, by omega, by rw [size_set5]; exact hb.2⟩
                · have hb : (s2.err == 0) = false := by simpa using herr2
                  have hb2 : (s2.err != 0) = true := by simpa using herr2
                  have HQ : Hid ((valD (f + 1) deep parts (l.drop s.pos) = .short ∧ s2.err = 260) ∨ (valD (f + 1) deep parts (l.drop s.pos) = .bad ∧ s2.err = 262)) := by
                    show _ ∨ _
                    rw [HVL.out]
                    rcases h5 with ⟨h, _⟩ | ⟨h, h2⟩ | ⟨h, h2⟩
                    · exact absurd h herr2
                    · rw [h2]; exact .inl ⟨rfl, h⟩
                    · rw [h2]; exact .inr ⟨rfl, h⟩
                  clear herr2 h5
                  have hlt01 : (j : Int) < (o.n : Int) ∨ ¬ (j : Int) < (o.n : Int) := by omega
                  rcases hlt01 with hlt01 | hlt01
                  all_goals
                    go_wp2_with fail
                    refine bodyPost_ret (res_datum (B := W.heap.size) (HA5.out.res.set5 _ _ _ _ _) rfl _ rfl) rfl ?_
                    rw [← HPP.out]
                    refine ⟨_, _, _, _, _, _, _, _, rfl, HA5.out.rb.set5 _ hne0 _ _ _ _ _, HA5.out.but.set5 _ (Nat.le_refl _) _ _ _ _ _, hpos5, ?_⟩
                    rcases HQ.out with ⟨hq1, hq2⟩ | ⟨hq1, hq2⟩
                    · rw [hq1]; exact hq2
                    · rw [hq1]; exact hq2
            · have hb : (s'.err == 0) = false := by simpa using herr
              have hb2 : (s'.err != 0) = true := by simpa using herr
              have hn1 : o.n = 0 ∨ o.n = 1 := by
                have h := A4.out
                cases hq : ownD R k (l.drop (s.pos + 1)) with
                | done o' u => rw [hq] at h; exact absurd h.2.2 herr
                | short => rw [hq] at h; omega
                | bad => rw [hq] at h; omega
              have HQ : Hid ((valD (f + 1) deep parts (l.drop s.pos) = .short ∧ s'.err = 260) ∨ (valD (f + 1) deep parts (l.drop s.pos) = .bad ∧ s'.err = 262)) := by
                have h := A4.out
                show _ ∨ _
                rw [HDR.out, valD, HK.out, if_neg (by omega), HRm.out, HNd.out, if_neg hN]
                cases hq : ownD R k (l.drop (s.pos + 1)) with
                | done o' u => rw [hq] at h; exact absurd h.2.2 herr
                | short => rw [hq] at h; exact .inl ⟨rfl, h.1⟩
                | bad => rw [hq] at h; exact .inr ⟨rfl, h.1⟩
              have HN1 := Lib.hid hn1
              clear herr hn1
              go_wp2_with fail
              go_loopw [101] (fun s101 wr => s101 = .int .i64 0 ∧ Hid (DAt Br W.heap.size v { s' with parts := (parts : Int) - (o.n : Nat) } (k : Nat) o.di (o.db : Nat) o.ds (.slice none 0 0) W wr)) (fun _ _ => 0)
              case atStart => exact ⟨rfl, HA4.out⟩
              case round =>
                obtain ⟨rfl, HA5⟩ := hrel
                clear c0 c1 c2 c3 c4 d0 d1 d2 d3 d4 hltc hltd2 hf3 hf4
                obtain ⟨c0, c1, c2, c3, c4, hltc⟩ := HA5.out.rb.cells
                obtain ⟨d0, d1, d2, d3, d4, hltd2⟩ := HA5.out.own.cells
                obtain ⟨e0, e1, e2, e3, e4, hlte2⟩ := HA5.out.res.cells
                have r0 := HA5.out.res.free 0
                have r1 := HA5.out.res.free 1
                have r2 := HA5.out.res.free 2
                have r3 := HA5.out.res.free 3
                have r4 := HA5.out.res.free 4
                have hn1 := HN1.out
                rcases hn1 with hn1 | hn1
                all_goals
                  have hlt01 : (0 : Int) < (o.n : Int) ∨ ¬ (0 : Int) < (o.n : Int) := by omega
                  rcases hlt01 with hlt01 | hlt01
                  all_goals
                    clear hn1
                    go_wp2_with fail
                    refine bodyPost_ret (res_datum (B := W.heap.size) (HA5.out.res.set5 _ _ _ _ _) rfl _ rfl) rfl ?_
                    rw [← HPP.out]
                    refine ⟨_, _, _, _, _, _, _, _, rfl, HA5.out.rb.set5 _ hne0 _ _ _ _ _, HA5.out.but.set5 _ (Nat.le_refl _) _ _ _ _ _, a3, ?_⟩
                    rcases HQ.out with ⟨hq1, hq2⟩ | ⟨hq1, hq2⟩
                    · rw [hq1]; exact hq2
                    · rw [hq1]; exact hq2
    · have hQ : Hid (valD (f + 1) deep parts (l.drop s.pos) = .bad) := by
        show _ = _
        rw [HDR.out, valD, HK.out, if_pos (by omega)]
      have htf : tabF k = .nilFunc := by
        unfold tabF
        rw [if_neg (by omega), if_neg (by omega), if_neg (by omega), if_neg (by omega), if_neg (by omega), if_neg (by omega), if_neg (by omega), if_neg (by omega), if_neg (by omega)]
      rw [htf] at tl
      have hfn := fun W => fn_none W
      clear htf
      go_wp2_with fail
      refine (fail_any Br v { s with parts := (parts : Nat), pos := s.pos + 1 } 262 _ HA1.out.rb).mono ?_
      rintro e W2 ⟨rfl, g1, g2⟩
      rw [if_pos (show ({ s with parts := (parts : Nat), pos := s.pos + 1 } : Cs).err = 0 from HE.out)] at g1
      have HA2 : Hid (DAt Br W.heap.size v { s with parts := (parts : Nat), pos := s.pos + 1, err := 262 } 0 0 0 ⟨#[]⟩ (.slice none 0 0) W W2) := ⟨g1, HA1.out.but.trans g2, HA1.out.res.but g2 hne0, HA1.out.own.but g2 hne1⟩
      clear g1 g2 c0 c1 c2 c3 c4 d0 d1 d2 d3 d4 e0 e1 e2 e3 e4 tl hfn q0 q4
      obtain ⟨c0, c1, c2, c3, c4, hltc⟩ := HA2.out.rb.cells
      obtain ⟨d0, d1, d2, d3, d4, hltd⟩ := HA2.out.own.cells
      obtain ⟨e0, e1, e2, e3, e4, hlte⟩ := HA2.out.res.cells
      have r0 := HA2.out.res.free 0
      have r1 := HA2.out.res.free 1
      have r2 := HA2.out.res.free 2
      have r3 := HA2.out.res.free 3
      have r4 := HA2.out.res.free 4
      go_wp2_with fail
      refine bodyPost_ret (res_datum (B := W.heap.size) (HA2.out.res.set5 _ _ _ _ _) rfl _ rfl) rfl ?_
      rw [← HPP.out]
      refine ⟨_, _, _, _, _, _, _, _, rfl, HA2.out.rb.set5 _ hne0 _ _ _ _ _, HA2.out.but.set5 _ (Nat.le_refl _) _ _ _ _ _, hpl, ?_⟩
      rw [hQ.out]
      exact rfl
  · have HB : Hid (byteR l { s with parts := (parts : Nat) } = (0, { s with parts := (parts : Nat), err := 260 })) := by show _ = _; unfold byteR; rw [if_neg (by simp [HE.out]), if_neg hpl]
    rw [HB.out] at h1 ⊢
    have hQ : Hid (valD (f + 1) deep parts (l.drop s.pos) = .short) := by
      show _ = _
      rw [List.drop_eq_nil_of_le (by omega), valD]
    have HA2 : Hid (DAt Br W.heap.size v { s with parts := (parts : Nat), err := 260 } 0 0 0 ⟨#[]⟩ (.slice none 0 0) W W1) := ⟨h1, HA0.out.but.trans h2, HA0.out.res.but h2 hne0, HA0.out.own.but h2 hne1⟩
    have HT1 : Hid (Tab W1 Bt) := HT.out.but HR.out HA2.out.but
    have tl := tab_look HT1.out 0
    rw [show ((0 : Nat) : Int) = 0 from rfl, show tabF 0 = .func (.func 57) #[] #[] from rfl] at tl
    clear h1 h2 HA0 c0 c1 c2 c3 c4 hf3
    obtain ⟨c0, c1, c2, c3, c4, hltc⟩ := HA2.out.rb.cells
    obtain ⟨d0, d1, d2, d3, d4, hltd⟩ := HA2.out.own.cells
    obtain ⟨e0, e1, e2, e3, e4, hlte⟩ := HA2.out.res.cells
    have r0 := HA2.out.res.free 0
    have r1 := HA2.out.res.free 1
    have r2 := HA2.out.res.free 2
    have r3 := HA2.out.res.free 3
    have r4 := HA2.out.res.free 4
    go_wp2_with fail
    refine bodyPost_ret (res_datum (B := W.heap.size) (HA2.out.res.set5 _ _ _ _ _) rfl _ rfl) rfl ?_
    rw [← HPP.out]
    refine ⟨_, _, _, _, _, _, _, _, rfl, HA2.out.rb.set5 _ hne0 _ _ _ _ _, HA2.out.but.set5 _ (Nat.le_refl _) _ _ _ _ _, hp, ?_⟩
    rw [hQ.out]
    exact rfl
theorem rdatum_any (l : List UInt8) (Br Bt : Nat) (v : Value) (hl : l.length ≤ 100000000) : ∀ f, DC l Br Bt v f
  | 0 => rdatum_step l Br Bt v hl 0 (fun f' h => by omega)
  | f + 1 => rdatum_step l Br Bt v hl (f + 1) (fun f' h => by
      obtain rfl : f = f' := by omega
      exact rdatum_any l Br Bt v hl f)
/-- what stands where something has failed before -/
def DZero (Br : Nat) (v : Value) (s : Cs) (W : World) (r : Ending) (W' : World) : Prop :=
  r = .returned (.agg #[.int .i64 0, .int .i64 0, .int .u64 0, .string ⟨#[]⟩, .slice none 0 0]) ∧ RB W' Br v { s with parts := s.parts - 1 } ∧ But Br W W'
set_option maxRecDepth 100000 in
set_option maxHeartbeats 8000000 in
theorem rdatum_err (l : List UInt8) (Br Bt : Nat) (v : Value) (hl : l.length ≤ 100000000) (deep parts : Nat) (s : Cs) (W : World) (hr : RB W Br v s) (hv : Bs W v l) (ht : Tab W Bt) (he : s.err ≠ 0) (hp : s.pos ≤ l.length) (hpt : s.parts = (parts : Nat) + 1) (hp4 : parts ≤ 4096) :
    Calls Tryd.prog 35 #[.pointer (some ⟨Br, 0, none⟩), .int .i64 (deep : Nat), .map (some Bt)] W (DZero Br v s W) := by
  obtain ⟨PP, hPP⟩ : ∃ PP, DZero Br v s W = PP := ⟨_, rfl⟩
  rw [hPP]
  have HPP := Lib.hid hPP
  have HR := Lib.hid hr
  have HV := Lib.hid hv
  have HT := Lib.hid ht
  have HE := Lib.hid he
  have HPT := Lib.hid hpt
  have HVS := Lib.hid hv.slice
  obtain ⟨c0, c1, c2, c3, c4, hlt⟩ := hr.cells
  rw [hpt] at c3
  have hf3 := hr.free 3
  have HA0 : Hid (DAt Br W.heap.size v { s with parts := (parts : Nat) } 0 0 0 ⟨#[]⟩ (.slice none 0 0) W (((W.setCell ⟨Br, 3, none⟩ (.int .i64 (parts : Nat))).alloc (.cells #[.int .i64 0, .int .i64 0, .int .u64 0, .string ⟨#[]⟩, .slice none 0 0] 25)).alloc (.cells #[.int .i64 0, .int .i64 0, .int .u64 0, .string ⟨#[]⟩, .slice none 0 0] 25))) := by
    have e1 : (W.setCell ⟨Br, 3, none⟩ (.int .i64 (parts : Nat))).heap.size = W.heap.size := by simp [World.setCell]
    refine ⟨((hr.setParts (parts : Nat) rfl).alloc _).alloc _, (((But.refl Br W).set _ _ (.inl rfl)).alloc _).alloc _, ?_, ?_⟩
    · have h := heap_alloc_new (W.setCell ⟨Br, 3, none⟩ (.int .i64 (parts : Nat))) (.cells #[.int .i64 0, .int .i64 0, .int .u64 0, .string ⟨#[]⟩, .slice none 0 0] 25)
      rw [e1] at h
      exact DB.alloc h _
    · have h := heap_alloc_new ((W.setCell ⟨Br, 3, none⟩ (.int .i64 (parts : Nat))).alloc (.cells #[.int .i64 0, .int .i64 0, .int .u64 0, .string ⟨#[]⟩, .slice none 0 0] 25)) (.cells #[.int .i64 0, .int .i64 0, .int .u64 0, .string ⟨#[]⟩, .slice none 0 0] 25)
      rw [World.size_alloc, e1] at h
      exact h
  clear hPP hr hv ht he hpt
  go_enter Tryd.func35, Tryd.ntmps35
  go_wp2_with fail
  refine (byte_any l Br v { s with parts := (parts : Nat) } _ HA0.out.rb (HV.out.but HR.out HVS.out HA0.out.but) hl (show s.pos ≤ _ by omega)).mono ?_
  rintro e W1 ⟨rfl, h1, h2⟩
  have hne0 : W.heap.size ≠ Br := by omega
  have hne1 : W.heap.size + 1 ≠ Br := by omega
  have HB : Hid (byteR l { s with parts := (parts : Nat) } = (0, { s with parts := (parts : Nat) })) := by show _ = _; unfold byteR; rw [if_pos HE.out]
  rw [HB.out] at h1 ⊢
  have HA2 : Hid (DAt Br W.heap.size v { s with parts := (parts : Nat) } 0 0 0 ⟨#[]⟩ (.slice none 0 0) W W1) := ⟨h1, HA0.out.but.trans h2, HA0.out.res.but h2 hne0, HA0.out.own.but h2 hne1⟩
  have HT1 : Hid (Tab W1 Bt) := HT.out.but HR.out HA2.out.but
  have tl := tab_look HT1.out 0
  rw [show ((0 : Nat) : Int) = 0 from rfl, show tabF 0 = .func (.func 57) #[] #[] from rfl] at tl
  have hb : (s.err == 0) = false := by simpa using HE.out
  have hb2 : (s.err != 0) = true := by simpa using HE.out
  clear h1 h2 HA0 c0 c1 c2 c3 c4 hf3
  obtain ⟨c0, c1, c2, c3, c4, hltc⟩ := HA2.out.rb.cells
  obtain ⟨d0, d1, d2, d3, d4, hltd⟩ := HA2.out.own.cells
  obtain ⟨e0, e1, e2, e3, e4, hlte⟩ := HA2.out.res.cells
  have r0 := HA2.out.res.free 0
  have r1 := HA2.out.res.free 1
  have r2 := HA2.out.res.free 2
  have r3 := HA2.out.res.free 3
  have r4 := HA2.out.res.free 4
  go_wp2_with fail
  refine bodyPost_ret (res_datum (B := W.heap.size) (HA2.out.res.set5 _ _ _ _ _) rfl _ rfl) rfl ?_
  rw [← HPP.out]
  refine ⟨rfl, ?_, HA2.out.but.set5 _ (Nat.le_refl _) _ _ _ _ _⟩
  have hpt := HPT.out
  have h := HA2.out.rb.set5 _ hne0 (.int .i64 0) (.int .i64 0) (.int .u64 0) (.string ⟨#[]⟩) (.slice none 0 0)
  rw [show s.parts - 1 = (parts : Int) by omega]
  exact h
end Go.Proofs.YtmncpbfghabamaaDoor
