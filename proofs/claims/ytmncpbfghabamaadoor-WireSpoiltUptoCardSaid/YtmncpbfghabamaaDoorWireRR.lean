/- WIRE: the program reads a kind's own fields. WIRE: the program reads eight bytes. WIRE: the table of the fields' readers. -/
import Derived.Test.YtmncpbfghabamaaDoorWireRTxt
import Derived.Deep.RegionWith
import Derived.MapKept
namespace Go.Proofs.YtmncpbfghabamaaDoor
open Go Go.RowKit
attribute [local go_sem ↓] Go.wp_at_zero Go.wp_at_succ

/-- all blocks but two are as they were -/
structure But2 (Br Bd : Nat) (W W' : World) : Prop where
  os : W'.os = W.os
  tape : W'.tape = W.tape
  output : W'.output = W.output
  size : W.heap.size ≤ W'.heap.size
  block : ∀ k, k < W.heap.size → k ≠ Br → k ≠ Bd → W'.heap[k]? = W.heap[k]?
theorem But2.of {Br Bd : Nat} {W W' : World} (h : But Br W W') : But2 Br Bd W W' := ⟨h.os, h.tape, h.output, h.size, fun k hk h1 _ => h.block k hk h1⟩
theorem But2.trans {Br Bd : Nat} {W W1 W2 : World} (h : But2 Br Bd W W1) (k : But2 Br Bd W1 W2) : But2 Br Bd W W2 :=
  ⟨k.os.trans h.os, k.tape.trans h.tape, k.output.trans h.output, Nat.le_trans h.size k.size, fun i hi h1 h2 => (k.block i (Nat.lt_of_lt_of_le hi h.size) h1 h2).trans (h.block i hi h1 h2)⟩
theorem But2.drewN {Br Bd : Nat} {W W1 : World} (h : But2 Br Bd W W1) (n : Nat) : But2 Br Bd W (W1.drewN n) := ⟨h.os, h.tape, h.output, h.size, h.block⟩
theorem But2.drew {Br Bd : Nat} {W W1 : World} (h : But2 Br Bd W W1) : But2 Br Bd W W1.drew := ⟨h.os, h.tape, h.output, h.size, h.block⟩
theorem But2.set {Br Bd : Nat} {W W1 : World} (h : But2 Br Bd W W1) (a : Addr) (v : Value) (ha : a.block = Bd) : But2 Br Bd W (W1.setCell a v) := by
  refine ⟨h.os, h.tape, h.output, by simpa [World.setCell] using h.size, fun k hk h1 h2 => (Below.heap_setCell _ _ _ _ ?_).trans (h.block k hk h1 h2)⟩
  intro e
  omega
theorem But2.boxed {Br Bd B : Nat} {W W' : World} {o : Obj} (h : But2 Br Bd W W') (hb : W.heap[B]? = some o) (h1 : B ≠ Br) (h2 : B ≠ Bd) : W'.heap[B]? = some o := (h.block B (Array.getElem?_eq_some_iff.1 hb).1 h1 h2).trans hb
theorem But2.cell {Br Bd b o : Nat} {W W' : World} {v : Value} (h : But2 Br Bd W W') (hb : W.cell? ⟨b, o, none⟩ = some v) (h1 : b ≠ Br) (h2 : b ≠ Bd) : W'.cell? ⟨b, o, none⟩ = some v := by
  have hlt := World.block_lt_of_cell? W _ hb
  have e := h.block b hlt h1 h2
  rw [← hb]
  unfold World.cell?
  simp only [e]
/-- a value's box that is younger -/
theorem But.trans2 {Br Bd : Nat} {W0 W W' : World} (h : But Br W0 W) (k : But2 Br Bd W W') (hd : W0.heap.size ≤ Bd) : But Br W0 W' :=
  ⟨k.os.trans h.os, k.tape.trans h.tape, k.output.trans h.output, Nat.le_trans h.size k.size, fun i hi h1 => (k.block i (Nat.lt_of_lt_of_le hi h.size) h1 (by omega)).trans (h.block i hi h1)⟩
/-- a value's box -/
def DB (W : World) (Bd : Nat) (kd di db : Int) (ds : ByteArray) (v : Value) : Prop := W.heap[Bd]? = some (.cells #[.int .i64 kd, .int .i64 di, .int .u64 db, .string ds, v] 25 (0, 0))
theorem DB.cells {W : World} {Bd : Nat} {kd di db : Int} {ds : ByteArray} {v : Value} (h : DB W Bd kd di db ds v) : W.cell? ⟨Bd, 0, none⟩ = some (.int .i64 kd) ∧ W.cell? ⟨Bd, 1, none⟩ = some (.int .i64 di) ∧ W.cell? ⟨Bd, 2, none⟩ = some (.int .u64 db) ∧ W.cell? ⟨Bd, 3, none⟩ = some (.string ds) ∧ W.cell? ⟨Bd, 4, none⟩ = some v ∧ Bd < W.heap.size := by
  have h' : W.heap[Bd]? = some (.cells #[.int .i64 kd, .int .i64 di, .int .u64 db, .string ds, v] 25 (0, 0)) := h
  exact cells5 h'
theorem DB.free {W : World} {Bd : Nat} {kd di db : Int} {ds : ByteArray} {v : Value} (h : DB W Bd kd di db ds v) (j : Nat) : W.frozen? ⟨Bd, j, none⟩ = false := frozen_of_row W Bd j _ _ h
theorem DB.setKd {W : World} {Bd : Nat} {kd di db : Int} {ds : ByteArray} {v : Value} (h : DB W Bd kd di db ds v) (x : Int) : DB (W.setCell ⟨Bd, 0, none⟩ (.int .i64 x)) Bd x di db ds v := heap_setCell_same W Bd 0 _ _ _ h
theorem DB.setDi {W : World} {Bd : Nat} {kd di db : Int} {ds : ByteArray} {v : Value} (h : DB W Bd kd di db ds v) (x : Int) : DB (W.setCell ⟨Bd, 1, none⟩ (.int .i64 x)) Bd kd x db ds v := heap_setCell_same W Bd 1 _ _ _ h
theorem DB.setDb {W : World} {Bd : Nat} {kd di db : Int} {ds : ByteArray} {v : Value} (h : DB W Bd kd di db ds v) (x : Int) : DB (W.setCell ⟨Bd, 2, none⟩ (.int .u64 x)) Bd kd di x ds v := heap_setCell_same W Bd 2 _ _ _ h
theorem DB.setDs {W : World} {Bd : Nat} {kd di db : Int} {ds : ByteArray} {v : Value} (h : DB W Bd kd di db ds v) (x : ByteArray) : DB (W.setCell ⟨Bd, 3, none⟩ (.string x)) Bd kd di db x v := heap_setCell_same W Bd 3 _ _ _ h
theorem DB.setV {W : World} {Bd : Nat} {kd di db : Int} {ds : ByteArray} {v : Value} (h : DB W Bd kd di db ds v) (x : Value) : DB (W.setCell ⟨Bd, 4, none⟩ x) Bd kd di db ds x := heap_setCell_same W Bd 4 _ _ _ h
theorem DB.but {Br Bd : Nat} {W W' : World} {kd di db : Int} {ds : ByteArray} {v : Value} (h : DB W Bd kd di db ds v) (hb : But Br W W') (hne : Bd ≠ Br) : DB W' Bd kd di db ds v := hb.boxed h hne
theorem RB.setOther {W : World} {Br : Nat} {v : Value} {s : Cs} (h : RB W Br v s) (a : Addr) (u : Value) (hn : a.block ≠ Br) : RB (W.setCell a u) Br v s := (Below.heap_setCell _ _ _ _ (fun e => hn e.symm)).trans h
theorem RB.ne {W : World} {Br Bd : Nat} {v v' : Value} {s : Cs} {kd di db : Int} {ds : ByteArray} (h : RB W Br v s) (hd : DB W Bd kd di db ds v') : Bd ≠ Br := by
  intro e
  subst e
  have h1 : W.heap[Bd]? = _ := h
  have h2 : W.heap[Bd]? = _ := hd
  rw [h1] at h2
  simp at h2
/-- what a kind's own reading leaves -/
def FPost (l : List UInt8) (Br Bd : Nat) (v : Value) (s : Cs) (room : Nat) (kd : Nat) (W : World) (r : Ending) (W' : World) : Prop :=
  ∃ (o : Own) (s' : Cs), r = .returned (.int .i64 (o.n : Nat)) ∧ RB W' Br v s' ∧ DB W' Bd (kd : Nat) o.di (o.db : Nat) o.ds (.slice none 0 0) ∧ But2 Br Bd W W' ∧ s'.parts = s.parts ∧ s'.room = s.room ∧ s'.pos ≤ l.length ∧
    match ownD room kd (l.drop s.pos) with
    | .done o' n => o = o' ∧ s'.pos = s.pos + n ∧ s'.err = 0
    | .short => s'.err = 260 ∧ o.n ≤ 1
    | .bad => s'.err = 262 ∧ o.n ≤ 1
/-- a reading of what a kind has -/
theorem FPost.mk {l : List UInt8} {Br Bd : Nat} {v : Value} {s s' : Cs} {room kd : Nat} {W W' : World} {α : Type} {q : Rd α} {d x : α} {o : Own} {f : α → Own} (ha : After l s q d x s') (he : s.err = 0)
    (hq : ownD room kd (l.drop s.pos) = q.bind fun y u => .done (f y) u) (ho : o = f x) (hn : (∀ y u, q ≠ .done y u) → o.n ≤ 1) {e : Ending} (hr : e = .returned (.int .i64 (o.n : Nat))) (h1 : RB W' Br v s') (h2 : DB W' Bd (kd : Nat) o.di (o.db : Nat) o.ds (.slice none 0 0)) (h3 : But2 Br Bd W W') : FPost l Br Bd v s room kd W e W' := by
  obtain ⟨a1, a2, a3, a4⟩ := ha
  refine ⟨o, s', hr, h1, h2, h3, a1, a2, a3, ?_⟩
  rcases a4 with ⟨b, _⟩ | ⟨_, b⟩
  · exact absurd he b
  · rw [hq]
    cases q with
    | done y u => obtain ⟨c1, c2, c3⟩ := b; exact ⟨by rw [ho, c1], c2, c3⟩
    | short => exact ⟨b.2, hn (fun _ _ h => by cases h)⟩
    | bad => exact ⟨b.2, hn (fun _ _ h => by cases h)⟩

set_option maxRecDepth 100000 in
set_option maxHeartbeats 2000000 in
theorem field_number (l : List UInt8) (Br Bd : Nat) (v : Value) (s : Cs) (room kd : Nat) (W : World) (hr : RB W Br v s) (hd : DB W Bd (kd : Nat) 0 0 ⟨#[]⟩ (.slice none 0 0)) (hv : Bs W v l) (hl : l.length ≤ 100000000) (hp : s.pos ≤ l.length) (he : s.err = 0) (hk : kd = 1 ∨ kd = 2) :
    Calls Tryd.prog 53 #[.pointer (some ⟨Br, 0, none⟩), .pointer (some ⟨Bd, 0, none⟩)] W (FPost l Br Bd v s room kd W) := by
  obtain ⟨PP, hPP⟩ : ∃ PP, FPost l Br Bd v s room kd W = PP := ⟨_, rfl⟩
  rw [hPP]
  have HPP := Lib.hid hPP
  have HK := Lib.hid hk
  have HE := Lib.hid he
  have HR := Lib.hid hr
  have HD := Lib.hid hd
  have HV := Lib.hid hv
  have hne := hr.ne hd
  have hvs := hv.slice
  have HVS := Lib.hid hvs
  clear hPP hk he hvs
  have _ := hl
  have CN := Lib.hid (rsigned_all l Br v s W hr hv hl hp)
  clear hr hv hd
  go_enter Tryd.func53, Tryd.ntmps53
  go_wp2_with fail
  refine CN.out.mono ?_
  rintro e W1 ⟨x, s', rfl, h1, h2, h3⟩
  have H1 := Lib.hid h1
  have H2 := Lib.hid h2
  have HA := Lib.hid h3
  have D1 := Lib.hid (HD.out.but h2 hne)
  have hf1 := D1.out.free 1
  have hf3 := D1.out.free 3
  obtain ⟨d0, d1, d2, d3, d4, hlt⟩ := D1.out.cells
  clear h1 h2 h3
  go_wp2_with fail
  rw [← HPP.out]
  refine FPost.mk (o := ⟨x, 0, ⟨#[]⟩, 0⟩) (f := fun y => ⟨y, 0, .empty, 0⟩) HA.out HE.out (by unfold ownD; rw [if_pos HK.out]) rfl (fun _ => Nat.zero_le _) rfl (H1.out.setOther _ _ hne) (D1.out.setDi x) ((But2.of H2.out).set _ _ rfl)

set_option maxRecDepth 100000 in
set_option maxHeartbeats 2000000 in
theorem field_text (l : List UInt8) (Br Bd : Nat) (v : Value) (s : Cs) (room kd : Nat) (W : World) (hr : RB W Br v s) (hd : DB W Bd (kd : Nat) 0 0 ⟨#[]⟩ (.slice none 0 0)) (hv : Bs W v l) (hl : l.length ≤ 100000000) (hp : s.pos ≤ l.length) (he : s.err = 0) (hk : kd = 4 ∨ kd = 5 ∨ kd = 7) :
    Calls Tryd.prog 55 #[.pointer (some ⟨Br, 0, none⟩), .pointer (some ⟨Bd, 0, none⟩)] W (FPost l Br Bd v s room kd W) := by
  obtain ⟨PP, hPP⟩ : ∃ PP, FPost l Br Bd v s room kd W = PP := ⟨_, rfl⟩
  rw [hPP]
  have HPP := Lib.hid hPP
  have HK := Lib.hid hk
  have HE := Lib.hid he
  have HR := Lib.hid hr
  have HD := Lib.hid hd
  have HV := Lib.hid hv
  have hne := hr.ne hd
  have hvs := hv.slice
  have HVS := Lib.hid hvs
  clear hPP hk he hvs
  have _ := hl
  have CN := Lib.hid (rtext_all l Br v s 65535 W hr hv hl hp (by omega))
  clear hr hv hd
  go_enter Tryd.func55, Tryd.ntmps55
  go_wp2_with fail
  refine CN.out.mono ?_
  rintro e W1 ⟨x, s', rfl, h1, h2, h3⟩
  have H1 := Lib.hid h1
  have H2 := Lib.hid h2
  have HA := Lib.hid h3
  have D1 := Lib.hid (HD.out.but h2 hne)
  have hf1 := D1.out.free 1
  have hf3 := D1.out.free 3
  obtain ⟨d0, d1, d2, d3, d4, hlt⟩ := D1.out.cells
  clear h1 h2 h3
  go_wp2_with fail
  rw [← HPP.out]
  refine FPost.mk (o := ⟨0, 0, x, 0⟩) (f := fun y => ⟨0, 0, y, 0⟩) HA.out HE.out (by unfold ownD; rw [if_neg (by have := HK.out; omega), if_neg (by have := HK.out; omega), if_pos HK.out]) rfl (fun _ => Nat.zero_le _) rfl (H1.out.setOther _ _ hne) (D1.out.setDs x) ((But2.of H2.out).set _ _ rfl)

set_option maxRecDepth 100000 in
set_option maxHeartbeats 2000000 in
theorem field_nothing (l : List UInt8) (Br Bd : Nat) (v : Value) (s : Cs) (room kd : Nat) (W : World) (hr : RB W Br v s) (hd : DB W Bd (kd : Nat) 0 0 ⟨#[]⟩ (.slice none 0 0)) (hv : Bs W v l) (hl : l.length ≤ 100000000) (hp : s.pos ≤ l.length) (he : s.err = 0) (hk : kd = 0 ∨ kd = 12 ∨ kd = 13) :
    Calls Tryd.prog 57 #[.pointer (some ⟨Br, 0, none⟩), .pointer (some ⟨Bd, 0, none⟩)] W (FPost l Br Bd v s room kd W) := by
  obtain ⟨PP, hPP⟩ : ∃ PP, FPost l Br Bd v s room kd W = PP := ⟨_, rfl⟩
  rw [hPP]
  have HPP := Lib.hid hPP
  have HK := Lib.hid hk
  have HE := Lib.hid he
  have HR := Lib.hid hr
  have HD := Lib.hid hd
  have HV := Lib.hid hv
  have hne := hr.ne hd
  have hvs := hv.slice
  have HVS := Lib.hid hvs
  clear hPP hk he hvs
  have _ := hl
  clear hr hv hd
  go_enter Tryd.func57, Tryd.ntmps57
  go_wp2_with fail
  rw [← HPP.out]
  refine ⟨⟨0, 0, .empty, 0⟩, s, rfl, HR.out, HD.out, But2.of (But.refl _ _), rfl, rfl, hp, ?_⟩
  have hk := HK.out
  unfold ownD
  rw [if_neg (by omega), if_neg (by omega), if_neg (by omega), if_neg (by omega), if_neg (by omega), if_neg (by omega), if_neg (by omega), if_neg (by omega)]
  exact ⟨rfl, rfl, HE.out⟩

set_option maxRecDepth 100000 in
set_option maxHeartbeats 2000000 in
theorem field_pair (l : List UInt8) (Br Bd : Nat) (v : Value) (s : Cs) (room kd : Nat) (W : World) (hr : RB W Br v s) (hd : DB W Bd (kd : Nat) 0 0 ⟨#[]⟩ (.slice none 0 0)) (hv : Bs W v l) (hl : l.length ≤ 100000000) (hp : s.pos ≤ l.length) (he : s.err = 0) (hk : kd = 9) :
    Calls Tryd.prog 62 #[.pointer (some ⟨Br, 0, none⟩), .pointer (some ⟨Bd, 0, none⟩)] W (FPost l Br Bd v s room kd W) := by
  obtain ⟨PP, hPP⟩ : ∃ PP, FPost l Br Bd v s room kd W = PP := ⟨_, rfl⟩
  rw [hPP]
  have HPP := Lib.hid hPP
  have HK := Lib.hid hk
  have HE := Lib.hid he
  have HR := Lib.hid hr
  have HD := Lib.hid hd
  have HV := Lib.hid hv
  have hne := hr.ne hd
  have hvs := hv.slice
  have HVS := Lib.hid hvs
  clear hPP hk he hvs
  have _ := hl
  clear hr hv hd
  go_enter Tryd.func62, Tryd.ntmps62
  go_wp2_with fail
  rw [← HPP.out]
  refine ⟨⟨0, 0, .empty, 2⟩, s, rfl, HR.out, HD.out, But2.of (But.refl _ _), rfl, rfl, hp, ?_⟩
  have hk := HK.out
  unfold ownD
  rw [if_neg (by omega), if_neg (by omega), if_neg (by omega), if_neg (by omega), if_neg (by omega), if_neg (by omega), if_pos hk]
  exact ⟨rfl, rfl, HE.out⟩

set_option maxRecDepth 100000 in
set_option maxHeartbeats 2000000 in
theorem field_list (l : List UInt8) (Br Bd : Nat) (v : Value) (s : Cs) (room kd : Nat) (W : World) (hr : RB W Br v s) (hd : DB W Bd (kd : Nat) 0 0 ⟨#[]⟩ (.slice none 0 0)) (hv : Bs W v l) (hl : l.length ≤ 100000000) (hp : s.pos ≤ l.length) (he : s.err = 0) (hk : kd = 8) (hroom : s.room = (room : Nat)) (hrm : room ≤ 4096) :
    Calls Tryd.prog 63 #[.pointer (some ⟨Br, 0, none⟩), .pointer (some ⟨Bd, 0, none⟩)] W (FPost l Br Bd v s room kd W) := by
  obtain ⟨PP, hPP⟩ : ∃ PP, FPost l Br Bd v s room kd W = PP := ⟨_, rfl⟩
  rw [hPP]
  have HPP := Lib.hid hPP
  have HK := Lib.hid hk
  have HE := Lib.hid he
  have HR := Lib.hid hr
  have HD := Lib.hid hd
  have HV := Lib.hid hv
  have hne := hr.ne hd
  have hvs := hv.slice
  have HVS := Lib.hid hvs
  clear hPP hk he hvs
  have _ := hl
  have CN := Lib.hid (rnumber_all l Br v s room W hr hv hl hp (by omega))
  obtain ⟨c0, c1, c2, c3, c4, hltr⟩ := hr.cells
  rw [hroom] at c4
  have hw := show IntKind.u64.wrap (room : Int) = (room : Int) by rw [wrap64u]; omega
  clear hr hv hd hroom
  go_enter Tryd.func63, Tryd.ntmps63
  go_wp2_with fail
  refine CN.out.mono ?_
  rintro e W1 ⟨x, s', rfl, h1, h2, h3⟩
  have H1 := Lib.hid h1
  have H2 := Lib.hid h2
  have HA := Lib.hid h3
  have D1 := Lib.hid (HD.out.but h2 hne)
  have hf1 := D1.out.free 1
  have hf3 := D1.out.free 3
  obtain ⟨d0, d1, d2, d3, d4, hlt⟩ := D1.out.cells
  clear h1 h2 h3
  have hx : x ≤ room := by
    obtain ⟨-, -, -, h⟩ := HA.out
    rcases h with ⟨-, h, -⟩ | ⟨-, h⟩
    · omega
    · cases hq : numD room 0 0 (l.drop s.pos) with
      | done y n => rw [hq] at h; have := (numD_len _ _ _ _ _ _ hq).2.2; omega
      | short => rw [hq] at h; omega
      | bad => rw [hq] at h; omega
  have hwx : IntKind.i64.wrap (x : Int) = (x : Int) := i64_wrap_nat (by omega)
  go_wp2_with fail
  rw [← HPP.out]
  have hk := HK.out
  refine FPost.mk (o := ⟨0, 0, ⟨#[]⟩, x⟩) (f := fun y => ⟨0, 0, .empty, y⟩) HA.out HE.out (by unfold ownD; rw [if_neg (by omega), if_neg (by omega), if_neg (by omega), if_neg (by omega), if_neg (by omega), if_neg (by omega), if_neg (by omega), if_pos hk]) rfl ?_ rfl H1.out D1.out (But2.of H2.out)
  intro hno
  obtain ⟨-, -, -, h⟩ := HA.out
  rcases h with ⟨-, h, -⟩ | ⟨-, h⟩
  · show x ≤ 1; omega
  · cases hq : numD room 0 0 (l.drop s.pos) with
    | done y n => exact absurd hq (hno y n)
    | short => rw [hq] at h; show x ≤ 1; omega
    | bad => rw [hq] at h; show x ≤ 1; omega

set_option maxRecDepth 100000 in
set_option maxHeartbeats 2000000 in
theorem field_bool (l : List UInt8) (Br Bd : Nat) (v : Value) (s : Cs) (room kd : Nat) (W : World) (hr : RB W Br v s) (hd : DB W Bd (kd : Nat) 0 0 ⟨#[]⟩ (.slice none 0 0)) (hv : Bs W v l) (hl : l.length ≤ 100000000) (hp : s.pos ≤ l.length) (he : s.err = 0) (hk : kd = 6) :
    Calls Tryd.prog 59 #[.pointer (some ⟨Br, 0, none⟩), .pointer (some ⟨Bd, 0, none⟩)] W (FPost l Br Bd v s room kd W) := by
  obtain ⟨PP, hPP⟩ : ∃ PP, FPost l Br Bd v s room kd W = PP := ⟨_, rfl⟩
  rw [hPP]
  have HPP := Lib.hid hPP
  have HK := Lib.hid hk
  have HE := Lib.hid he
  have HR := Lib.hid hr
  have HD := Lib.hid hd
  have HV := Lib.hid hv
  have hne := hr.ne hd
  have hvs := hv.slice
  have HVS := Lib.hid hvs
  clear hPP hk he hvs
  have _ := hl
  have CN := Lib.hid (byte_any l Br v s W hr hv hl (by omega))
  have hlp := hp
  clear hr hv hd
  go_enter Tryd.func59, Tryd.ntmps59
  go_wp2_with fail
  refine CN.out.mono ?_
  rintro e W1 ⟨rfl, h1, h2⟩
  have hk := HK.out
  by_cases hpl : s.pos < l.length
  · obtain ⟨c, hc⟩ : ∃ c, l[s.pos]? = some c := ⟨_, List.getElem?_eq_getElem hpl⟩
    have HB : Hid (byteR l s = (c, { s with pos := s.pos + 1 })) := by show _ = _; unfold byteR; rw [if_neg (by simp [HE.out]), if_pos hpl]; simp [List.getD, hc]
    rw [HB.out] at h1 ⊢
    have HQ : Hid (ownD room kd (l.drop s.pos) = if 1 < c.toNat then .bad else .done ⟨c.toNat, 0, .empty, 0⟩ 1) := by
      show _ = _
      unfold ownD
      rw [if_neg (by omega), if_neg (by omega), if_neg (by omega), if_pos hk, List.drop_eq_getElem_cons hpl, (List.getElem?_eq_some_iff.1 hc).2]
    have H1 := Lib.hid h1
    have H2 := Lib.hid h2
    have D1 := Lib.hid (HD.out.but h2 hne)
    have hf1 := D1.out.free 1
    obtain ⟨d0, d1, d2, d3, d4, hlt⟩ := D1.out.cells
    have hc256 : c.toNat < 256 := c.toNat_lt
    have hw : IntKind.i64.wrap (c.toNat : Int) = (c.toNat : Int) := i64_wrap_nat (by omega)
    clear h1 h2 hc CN hk
    generalize c.toNat = C at *
    by_cases hC : 1 < C
    · have hCI : (1 : Int) < (C : Int) := by omega
      go_wp2_with fail
      refine (fail_any Br _ { s with pos := s.pos + 1 } 262 _ (H1.out.setOther _ _ hne)).mono ?_
      rintro e W2 ⟨rfl, g1, g2⟩
      have hz : ({ s with pos := s.pos + 1 } : Cs).err = 0 := HE.out
      rw [if_pos hz] at g1
      have G1 := Lib.hid g1
      have G2 := Lib.hid ((But2.of (Bd := Bd) H2.out).set ⟨Bd, 1, none⟩ (.int .i64 (C : Int)) rfl)
      have G3 := Lib.hid ((D1.out.setDi (C : Int)).but g2 hne)
      have G4 := Lib.hid (But2.of (Bd := Bd) g2)
      clear g1 g2 hz
      go_wp2_with fail
      rw [← HPP.out]
      refine ⟨⟨C, 0, ⟨#[]⟩, 0⟩, _, rfl, G1.out, G3.out, G2.out.trans G4.out, rfl, rfl, hpl, ?_⟩
      rw [HQ.out, if_pos hC]
      exact ⟨rfl, Nat.zero_le _⟩
    · have hCI : ¬ (1 : Int) < (C : Int) := by omega
      go_wp2_with fail
      rw [← HPP.out]
      refine ⟨⟨C, 0, ⟨#[]⟩, 0⟩, _, rfl, H1.out.setOther _ _ hne, D1.out.setDi (C : Int), (But2.of H2.out).set _ _ rfl, rfl, rfl, hpl, ?_⟩
      rw [HQ.out, if_neg hC]
      exact ⟨rfl, rfl, HE.out⟩
  · have HB : Hid (byteR l s = (0, { s with err := 260 })) := by show _ = _; unfold byteR; rw [if_neg (by simp [HE.out]), if_neg hpl]
    rw [HB.out] at h1 ⊢
    have HQ : Hid (ownD room kd (l.drop s.pos) = .short) := by
      show _ = _
      unfold ownD
      rw [if_neg (by omega), if_neg (by omega), if_neg (by omega), if_pos hk, List.drop_eq_nil_of_le (by omega)]
    have H1 := Lib.hid h1
    have H2 := Lib.hid h2
    have D1 := Lib.hid (HD.out.but h2 hne)
    have hf1 := D1.out.free 1
    obtain ⟨d0, d1, d2, d3, d4, hlt⟩ := D1.out.cells
    clear h1 h2 CN hk
    go_wp2_with fail
    rw [← HPP.out]
    refine ⟨⟨0, 0, ⟨#[]⟩, 0⟩, _, rfl, H1.out.setOther _ _ hne, D1.out.setDi 0, (But2.of H2.out).set _ _ rfl, rfl, rfl, hlp, ?_⟩
    rw [HQ.out]
    exact ⟨rfl, Nat.zero_le _⟩

set_option maxRecDepth 100000 in
set_option maxHeartbeats 2000000 in
theorem field_ptr (l : List UInt8) (Br Bd : Nat) (v : Value) (s : Cs) (room kd : Nat) (W : World) (hr : RB W Br v s) (hd : DB W Bd (kd : Nat) 0 0 ⟨#[]⟩ (.slice none 0 0)) (hv : Bs W v l) (hl : l.length ≤ 100000000) (hp : s.pos ≤ l.length) (he : s.err = 0) (hk : kd = 11) :
    Calls Tryd.prog 61 #[.pointer (some ⟨Br, 0, none⟩), .pointer (some ⟨Bd, 0, none⟩)] W (FPost l Br Bd v s room kd W) := by
  obtain ⟨PP, hPP⟩ : ∃ PP, FPost l Br Bd v s room kd W = PP := ⟨_, rfl⟩
  rw [hPP]
  have HPP := Lib.hid hPP
  have HK := Lib.hid hk
  have HE := Lib.hid he
  have HR := Lib.hid hr
  have HD := Lib.hid hd
  have HV := Lib.hid hv
  have hne := hr.ne hd
  have hvs := hv.slice
  have HVS := Lib.hid hvs
  clear hPP hk he hvs
  have _ := hl
  have CN := Lib.hid (rnumber_all l Br v s top63 W hr hv hl hp (by unfold top63; omega))
  rw [show ((top63 : Nat) : Int) = 9223372036854775807 from rfl] at CN
  clear hr hv hd
  go_enter Tryd.func61, Tryd.ntmps61
  go_wp2_with fail
  refine CN.out.mono ?_
  rintro e W1 ⟨x, s', rfl, h1, h2, h3⟩
  have H1 := Lib.hid h1
  have H2 := Lib.hid h2
  have HA := Lib.hid h3
  have D1 := Lib.hid (HD.out.but h2 hne)
  have hf1 := D1.out.free 1
  have hf3 := D1.out.free 3
  obtain ⟨d0, d1, d2, d3, d4, hlt⟩ := D1.out.cells
  clear h1 h2 h3
  obtain ⟨a1, a2, a3, a4⟩ := HA.out
  obtain ⟨c0, c1, c2, c3, c4, hltr⟩ := H1.out.cells
  have hk := HK.out
  have HQ : Hid (ownD room kd (l.drop s.pos) = (numD top63 0 0 (l.drop s.pos)).bind fun x u => if x < 1 then .bad else .done ⟨x, 0, .empty, 1⟩ u) := by
    show _ = _
    unfold ownD
    rw [if_neg (by omega), if_neg (by omega), if_neg (by omega), if_neg (by omega), if_neg (by omega), if_pos hk]
  rcases a4 with ⟨b1, _⟩ | ⟨_, b⟩
  · exact absurd HE.out b1
  cases hq : numD top63 0 0 (l.drop s.pos) with
  | done y n =>
    rw [hq] at b HQ
    obtain ⟨rfl, b2, b3⟩ := b
    have hx := (numD_len _ _ _ _ _ _ hq).2.2
    unfold top63 at hx
    have hw : IntKind.i64.wrap (x : Int) = (x : Int) := i64_wrap_nat hx
    simp only [Rd.bind_done] at HQ
    rw [b3] at c2
    have B3 := Lib.hid b3
    have A1 := Lib.hid a1
    have A2 := Lib.hid a2
    have B2 := Lib.hid b2
    clear hq hx b3 hk a1 a2 b2
    by_cases hx1 : x < 1
    · have hxI : (x : Int) < 1 := by omega
      rw [if_pos hx1] at HQ
      go_wp2_with fail
      refine (fail_any Br _ s' 262 _ H1.out).mono ?_
      rintro e W2 ⟨rfl, g1, g2⟩
      rw [if_pos B3.out] at g1
      have G1 := Lib.hid g1
      have G2 := Lib.hid (H2.out.trans g2)
      have G3 := Lib.hid (D1.out.but g2 hne)
      have hf1 := G3.out.free 1
      obtain ⟨d0, d1, d2, d3, d4, hlt⟩ := G3.out.cells
      clear g1 g2
      go_wp2_with fail
      rw [← HPP.out]
      refine ⟨⟨x, 0, ⟨#[]⟩, 1⟩, _, rfl, G1.out.setOther _ _ hne, G3.out.setDi x, (But2.of G2.out).set _ _ rfl, A1.out, A2.out, a3, ?_⟩
      rw [HQ.out]
      exact ⟨rfl, Nat.le_refl _⟩
    · have hxI : ¬ (x : Int) < 1 := by omega
      rw [if_neg hx1] at HQ
      go_wp2_with fail
      rw [← HPP.out]
      refine ⟨⟨x, 0, ⟨#[]⟩, 1⟩, _, rfl, H1.out.setOther _ _ hne, D1.out.setDi x, (But2.of H2.out).set _ _ rfl, A1.out, A2.out, a3, ?_⟩
      rw [HQ.out]
      exact ⟨rfl, B2.out, B3.out⟩
  | short =>
    rw [hq] at b HQ
    obtain ⟨rfl, b3⟩ := b
    rw [b3] at c2
    have B3 := Lib.hid b3
    have A1 := Lib.hid a1
    have A2 := Lib.hid a2
    clear hq b3 hk a1 a2
    go_wp2_with fail
    rw [← HPP.out]
    refine ⟨⟨0, 0, ⟨#[]⟩, 1⟩, _, rfl, H1.out.setOther _ _ hne, D1.out.setDi 0, (But2.of H2.out).set _ _ rfl, A1.out, A2.out, a3, ?_⟩
    rw [HQ.out]
    exact ⟨B3.out, Nat.le_refl _⟩
  | bad =>
    rw [hq] at b HQ
    obtain ⟨rfl, b3⟩ := b
    rw [b3] at c2
    have B3 := Lib.hid b3
    have A1 := Lib.hid a1
    have A2 := Lib.hid a2
    clear hq b3 hk a1 a2
    go_wp2_with fail
    rw [← HPP.out]
    refine ⟨⟨0, 0, ⟨#[]⟩, 1⟩, _, rfl, H1.out.setOther _ _ hne, D1.out.setDi 0, (But2.of H2.out).set _ _ rfl, A1.out, A2.out, a3, ?_⟩
    rw [HQ.out]
    exact ⟨B3.out, Nat.le_refl _⟩

set_option maxRecDepth 100000 in
set_option maxHeartbeats 2000000 in
theorem field_err (l : List UInt8) (Br Bd : Nat) (v : Value) (s : Cs) (room kd : Nat) (W : World) (hr : RB W Br v s) (hd : DB W Bd (kd : Nat) 0 0 ⟨#[]⟩ (.slice none 0 0)) (hv : Bs W v l) (hl : l.length ≤ 100000000) (hp : s.pos ≤ l.length) (he : s.err = 0) (hk : kd = 10) :
    Calls Tryd.prog 60 #[.pointer (some ⟨Br, 0, none⟩), .pointer (some ⟨Bd, 0, none⟩)] W (FPost l Br Bd v s room kd W) := by
  obtain ⟨PP, hPP⟩ : ∃ PP, FPost l Br Bd v s room kd W = PP := ⟨_, rfl⟩
  rw [hPP]
  have HPP := Lib.hid hPP
  have HK := Lib.hid hk
  have HE := Lib.hid he
  have HR := Lib.hid hr
  have HD := Lib.hid hd
  have HV := Lib.hid hv
  have hne := hr.ne hd
  have hvs := hv.slice
  have HVS := Lib.hid hvs
  clear hPP hk he hvs
  have _ := hl
  have CN := Lib.hid (rsigned_all l Br v s W hr hv hl hp)
  have CT : Hid (∀ W2 s2, RB W2 Br v s2 → Bs W2 v l → s2.pos ≤ l.length → Calls Tryd.prog 56 #[.pointer (some ⟨Br, 0, none⟩), .int .i64 65535] W2 (RPost l Br v s2 (textD 65535 (l.drop s2.pos)) (⟨#[]⟩ : ByteArray) (fun x => .string x) W2)) := fun W2 s2 h1 h2 h3 => rtext_all l Br v s2 65535 W2 h1 h2 hl h3 (by omega)
  clear hr hv hd
  go_enter Tryd.func60, Tryd.ntmps60
  go_wp2_with fail
  refine CN.out.mono ?_
  rintro e W1 ⟨x, s', rfl, h1, h2, h3⟩
  have H1 := Lib.hid h1
  have H2 := Lib.hid h2
  have HA := Lib.hid h3
  have D1 := Lib.hid (HD.out.but h2 hne)
  have hf1 := D1.out.free 1
  have hf3 := D1.out.free 3
  obtain ⟨d0, d1, d2, d3, d4, hlt⟩ := D1.out.cells
  clear h1 h2 h3
  obtain ⟨a1, a2, a3, a4⟩ := HA.out
  have HW1 : Hid (RB (W1.setCell ⟨Bd, 1, none⟩ (.int .i64 x)) Br v s') := H1.out.setOther _ _ hne
  have HW2 : Hid (Bs (W1.setCell ⟨Bd, 1, none⟩ (.int .i64 x)) v l) := by
    obtain ⟨p, cap, e1, k1, k2, k3⟩ := HV.out.but HR.out HVS.out H2.out
    refine ⟨p, cap, e1, k1, k2, fun hn => ?_⟩
    obtain ⟨b, o, hp, hc⟩ := k3 hn
    refine ⟨b, o, hp, fun j y hj => ?_⟩
    have h0 := hc j y hj
    rw [World.cell?_setCell_other _ _ _ _ ?_]
    · exact h0
    · intro e
      simp only [Addr.mk.injEq] at e
      have h1 := hc 0 _ (List.getElem?_eq_getElem hn)
      obtain ⟨e1, -⟩ := e
      subst e1
      have hD : W1.heap[Bd]? = _ := D1.out
      rw [cell_of_row W1 _ _ _ _ _ hD] at h0
      match hoo : o + j, h0 with
      | 0, h0 => simp at h0
      | 1, h0 => simp at h0
      | 2, h0 => simp at h0
      | 3, h0 => simp at h0
      | 4, h0 => rw [show (#[Value.int IntKind.i64 (kd : Nat), .int .i64 0, .int .u64 0, .string ⟨#[]⟩, .slice none 0 0])[4]? = some (.slice none 0 0) from rfl] at h0; cases h0
      | o + 5, h0 => simp at h0
  have A1 := Lib.hid a1
  have A2 := Lib.hid a2
  have A3 := Lib.hid a3
  have A4 := Lib.hid a4
  clear a1 a2 a4 CN
  go_wp2_with fail
  refine (CT.out _ s' HW1.out HW2.out A3.out).mono ?_
  rintro e W2 ⟨y, s2, rfl, g1, g2, g3⟩
  have G1 := Lib.hid g1
  have G2 := Lib.hid (((But2.of (Bd := Bd) H2.out).set ⟨Bd, 1, none⟩ (.int .i64 x) rfl).trans (But2.of g2))
  have G3 := Lib.hid g3
  have D2 := Lib.hid ((D1.out.setDi x).but g2 hne)
  clear g1 g2 g3 CT
  have hf3 := D2.out.free 3
  obtain ⟨d0, d1, d2, d3, d4, hlt⟩ := D2.out.cells
  go_wp2_with fail
  rw [← HPP.out]
  obtain ⟨b1, b2, b3, b4⟩ := G3.out
  refine ⟨⟨x, 0, y, 0⟩, s2, rfl, G1.out.setOther _ _ hne, D2.out.setDs y, G2.out.set _ _ rfl, b1.trans A1.out, b2.trans A2.out, b3, ?_⟩
  have hk := HK.out
  unfold ownD
  rw [if_neg (by omega), if_neg (by omega), if_neg (by omega), if_neg (by omega), if_pos hk]
  rcases A4.out with ⟨c, _⟩ | ⟨_, c⟩
  · exact absurd HE.out c
  cases hq : sigD (l.drop s.pos) with
  | done z n =>
    rw [hq] at c
    obtain ⟨rfl, c2, c3⟩ := c
    simp only [Rd.bind_done]
    rw [List.drop_drop, ← c2]
    rcases b4 with ⟨u1, _⟩ | ⟨_, u⟩
    · exact absurd c3 u1
    cases ht : textD 65535 (l.drop s'.pos) with
    | done t m => rw [ht] at u; obtain ⟨rfl, u2, u3⟩ := u; exact ⟨rfl, by omega, u3⟩
    | short => rw [ht] at u; exact ⟨u.2, Nat.zero_le _⟩
    | bad => rw [ht] at u; exact ⟨u.2, Nat.zero_le _⟩
  | short =>
    rw [hq] at c
    rcases b4 with ⟨u1, _, u3⟩ | ⟨u1, _⟩
    · exact ⟨u3.trans c.2, Nat.zero_le _⟩
    · rw [c.2] at u1; cases u1
  | bad =>
    rw [hq] at c
    rcases b4 with ⟨u1, _, u3⟩ | ⟨u1, _⟩
    · exact ⟨u3.trans c.2, Nat.zero_le _⟩
    · rw [c.2] at u1; cases u1

theorem Bs.but2 {W W' : World} {Br Bd : Nat} {v vr : Value} {s : Cs} {l : List UInt8} {kd di db : Int} {ds : ByteArray} {q : Option Addr} {n c : Nat} (h : Bs W v l) (hr : RB W Br vr s) (hvr : ∃ q n c, vr = .slice q n c) (hd : DB W Bd kd di db ds (.slice q n c)) (hb : But2 Br Bd W W') : Bs W' v l := by
  obtain ⟨p, cap, hv, h1, h2, h3⟩ := h
  refine ⟨p, cap, hv, h1, h2, fun hn => ?_⟩
  obtain ⟨b, o, hp, hc⟩ := h3 hn
  have h0 := hc 0 _ (List.getElem?_eq_getElem hn)
  have hne : b ≠ Br := by
    intro e
    subst e
    rw [cell_of_row W b (o + 0) _ _ _ hr] at h0
    obtain ⟨q, n, c, rfl⟩ := hvr
    match o, h0 with
    | 0, h0 => simp at h0
    | 1, h0 => simp at h0
    | 2, h0 => simp at h0
    | 3, h0 => simp at h0
    | 4, h0 => simp at h0
    | o + 5, h0 => simp at h0
  have hne2 : b ≠ Bd := by
    intro e
    subst e
    rw [cell_of_row W b (o + 0) _ _ _ hd] at h0
    match o, h0 with
    | 0, h0 => simp at h0
    | 1, h0 => simp at h0
    | 2, h0 => simp at h0
    | 3, h0 => simp at h0
    | 4, h0 => simp at h0
    | o + 5, h0 => simp at h0
  exact ⟨b, o, hp, fun j x hj => hb.cell (hc j x hj) hne hne2⟩
theorem RB.drew {W : World} {Br : Nat} {v : Value} {s : Cs} (h : RB W Br v s) : RB W.drew Br v s := h
theorem DB.drew {W : World} {Bd : Nat} {kd di db : Int} {ds : ByteArray} {v : Value} (h : DB W Bd kd di db ds v) : DB W.drew Bd kd di db ds v := h
theorem Bs.drew {W : World} {v : Value} {l : List UInt8} (h : Bs W v l) : Bs W.drew v l := h
/-- behind k of eight bytes -/
def FloS (l : List UInt8) (s : Cs) (k : Nat) (s' : Cs) (B : Nat) : Prop :=
  s'.parts = s.parts ∧ s'.room = s.room ∧ s'.pos ≤ l.length ∧ B < 18446744073709551616 ∧
    ((s'.err = 0 ∧ s'.pos = s.pos + k ∧ B = leN ((l.drop s.pos).take k)) ∨ (s'.err = 260 ∧ l.length < s.pos + 8))
theorem leN_take {l : List UInt8} {k : Nat} {c : UInt8} (h : l[k]? = some c) : leN (l.take (k + 1)) = leN (l.take k) + c.toNat * 2 ^ (8 * k) ∧ leN (l.take k) < 2 ^ (8 * k) := by
  have hk := (List.getElem?_eq_some_iff.1 h).1
  have e : (l.take k).length = k := by rw [List.length_take]; omega
  have h1 := leN_lt (l.take k)
  rw [e] at h1
  have h2 : (256 : Nat) ^ k = 2 ^ (8 * k) := by rw [Nat.pow_mul]
  rw [List.take_add_one, h]
  simp only [Option.toList]
  rw [leN_snoc, e, h2]
  exact ⟨rfl, by rw [← h2]; exact h1⟩
theorem or_zero64 {B : Nat} (h : B < 18446744073709551616) : bits .or .u64 (B : Int) 0 = (B : Int) := by
  have := u64_or_nat B 0 h (by omega)
  rw [show ((0 : Nat) : Int) = 0 from rfl, Nat.or_zero] at this
  exact this
theorem run_shl8 (P : Program) (x : Nat) (j : Nat) (hj : j < 8) (h : x * 2 ^ (8 * j) < 18446744073709551616) (w : World) : (Op.shift .shl .u64 (x : Int) .i64 (IntKind.i64.wrap (8 * (j : Int)))).run P w = .ok (.int .u64 ((x * 2 ^ (8 * j) : Nat) : Int)) w := by
  rw [show IntKind.i64.wrap (8 * (j : Int)) = ((8 * j : Nat) : Int) by rw [IntWalk.i64_in _ (by omega)]; omega]
  unfold Op.shift
  rw [if_neg (by omega)]
  have e : min (8 * j) 64 = 8 * j := by omega
  simp only [Int.toNat_natCast, IntKind.bits, e, Sem.run_pure]
  rw [wrap64u, show (x : Int) * 2 ^ (8 * j) = ((x * 2 ^ (8 * j) : Nat) : Int) by simp]
  congr 2
  omega
theorem FloS.ok {l : List UInt8} {s s' : Cs} {k B : Nat} {c : UInt8} (h : FloS l s k s' B) (he : s'.err = 0) (hk : k < 8) (hc : l[s'.pos]? = some c) :
    byteR l s' = (c, { s' with pos := s'.pos + 1 }) ∧ FloS l s (k + 1) { s' with pos := s'.pos + 1 } (B + c.toNat * 2 ^ (8 * k)) ∧ B < 2 ^ (8 * k) ∧ B + c.toNat * 2 ^ (8 * k) < 18446744073709551616 := by
  obtain ⟨h1, h2, h3, h4, h5⟩ := h
  have hpl := (List.getElem?_eq_some_iff.1 hc).1
  rcases h5 with ⟨_, h6, h7⟩ | ⟨h6, _⟩
  · have hc' : (l.drop s.pos)[k]? = some c := by rw [List.getElem?_drop, ← h6]; exact hc
    obtain ⟨g1, g2⟩ := leN_take hc'
    have hlt : leN ((l.drop s.pos).take (k + 1)) < 18446744073709551616 := by
      have g3 := leN_lt ((l.drop s.pos).take (k + 1))
      have g4 : ((l.drop s.pos).take (k + 1)).length ≤ 8 := by rw [List.length_take]; omega
      have g5 : (256 : Nat) ^ ((l.drop s.pos).take (k + 1)).length ≤ 256 ^ 8 := Nat.pow_le_pow_right (by decide) g4
      have g6 : (256 : Nat) ^ 8 = 18446744073709551616 := by decide
      omega
    refine ⟨?_, ⟨h1, h2, hpl, by rw [h7, ← g1]; exact hlt, .inl ⟨he, ?_, ?_⟩⟩, by rw [h7]; exact g2, by rw [h7, ← g1]; exact hlt⟩
    · unfold byteR; rw [if_neg (by simp [he]), if_pos hpl]; simp [List.getD, hc]
    · show s'.pos + 1 = _; omega
    · rw [h7, ← g1]
  · rw [h6] at he; cases he
theorem FloS.no {l : List UInt8} {s s' : Cs} {k B : Nat} (h : FloS l s k s' B) (hk : k < 8) (he : ¬ (s'.err = 0 ∧ s'.pos < l.length)) :
    ∃ s2, byteR l s' = (0, s2) ∧ FloS l s (k + 1) s2 B := by
  obtain ⟨h1, h2, h3, h4, h5⟩ := h
  rcases h5 with ⟨h6, h7, _⟩ | ⟨h6, h7⟩
  · have hpl : ¬ s'.pos < l.length := fun x => he ⟨h6, x⟩
    refine ⟨{ s' with err := 260 }, ?_, h1, h2, h3, h4, .inr ⟨rfl, by omega⟩⟩
    unfold byteR; rw [if_neg (by simp [h6]), if_neg hpl]
  · refine ⟨s', ?_, h1, h2, h3, h4, .inr ⟨h6, h7⟩⟩
    unfold byteR; rw [if_pos (by rw [h6]; decide)]

set_option maxRecDepth 100000 in
set_option maxHeartbeats 2000000 in
theorem field_float (l : List UInt8) (Br Bd : Nat) (v : Value) (s : Cs) (room kd : Nat) (W : World) (hr : RB W Br v s) (hd : DB W Bd (kd : Nat) 0 0 ⟨#[]⟩ (.slice none 0 0)) (hv : Bs W v l) (hl : l.length ≤ 100000000) (hp : s.pos ≤ l.length) (he : s.err = 0) (hk : kd = 3) :
    Calls Tryd.prog 58 #[.pointer (some ⟨Br, 0, none⟩), .pointer (some ⟨Bd, 0, none⟩)] W (FPost l Br Bd v s room kd W) := by
  obtain ⟨PP, hPP⟩ : ∃ PP, FPost l Br Bd v s room kd W = PP := ⟨_, rfl⟩
  rw [hPP]
  have HPP := Lib.hid hPP
  have HK := Lib.hid hk
  have HE := Lib.hid he
  have HR := Lib.hid hr
  have HD := Lib.hid hd
  have HV := Lib.hid hv
  have hne := hr.ne hd
  have hvs := hv.slice
  have HVS := Lib.hid hvs
  clear hPP hk he hvs
  have _ := hl
  clear hr hv hd
  go_enter Tryd.func58, Tryd.ntmps58
  go_wp2_with fail
  go_loopw [6] (fun s6 wr => ∃ (k B : Nat) (s' : Cs), s6 = .int .i64 (k : Nat) ∧ k ≤ 8 ∧ Hid (RB wr Br v s') ∧ Hid (DB wr Bd (kd : Nat) 0 (B : Nat) ⟨#[]⟩ (.slice none 0 0)) ∧ Hid (But2 Br Bd W wr) ∧ Hid (FloS l s k s' B)) (fun s6 _ => (8 - intOf s6).toNat)
  case atStart => exact ⟨0, 0, s, rfl, by omega, HR.out, HD.out, But2.of (But.refl _ _), ⟨rfl, rfl, hp, by omega, .inl ⟨HE.out, rfl, rfl⟩⟩⟩
  case round =>
    obtain ⟨k, B, s', rfl, hk, R1, D1, B1, F1⟩ := hrel
    have hf2 := D1.out.free 2
    obtain ⟨d0, d1, d2, d3, d4, hlt⟩ := D1.out.cells
    have F1' := F1.out
    obtain ⟨f1, f2, f3, f4, f5⟩ := F1'
    by_cases hk8 : k = 8
    · subst hk8
      have HK2 := HK.out
      go_wp2_with fail
      rw [← HPP.out]
      refine ⟨⟨0, B, ⟨#[]⟩, 0⟩, s', rfl, R1.out, D1.out, B1.out, f1, f2, f3, ?_⟩
      unfold ownD
      rw [if_neg (by omega), if_pos HK2]
      rcases f5 with ⟨g1, g2, g3⟩ | ⟨g1, g2⟩
      · rw [if_neg (by rw [List.length_drop]; omega)]
        exact ⟨by rw [g3]; rfl, g2, g1⟩
      · rw [if_pos (by rw [List.length_drop]; omega)]
        exact ⟨g1, Nat.zero_le _⟩
    · have hkI : (k : Int) < 8 := by omega
      have HVr := Lib.hid (HV.out.but2 HR.out HVS.out HD.out B1.out)
      have CB := Lib.hid (fun W2 (h1 : RB W2 Br v s') (h2 : Bs W2 v l) => byte_any l Br v s' W2 h1 h2 hl (by omega))
      by_cases hok : s'.err = 0 ∧ s'.pos < l.length
      · obtain ⟨c, hc⟩ : ∃ c, l[s'.pos]? = some c := ⟨_, List.getElem?_eq_getElem hok.2⟩
        obtain ⟨q1, q2, q3, q4⟩ := F1.out.ok hok.1 (by omega) hc
        have HB := Lib.hid q1
        have F2 := Lib.hid q2
        obtain ⟨C, hC⟩ : ∃ C, c.toNat = C := ⟨_, rfl⟩
        have HC := Lib.hid hC
        rw [hC] at F2 q4
        have hC256 : C < 256 := by rw [← hC]; exact c.toNat_lt
        obtain ⟨Y, hY⟩ : ∃ Y, B + C * 2 ^ (8 * k) = Y := ⟨_, rfl⟩
        obtain ⟨S, hS⟩ : ∃ S, C * 2 ^ (8 * k) = S := ⟨_, rfl⟩
        have e3 : bits .or .u64 (B : Int) (S : Int) = (Y : Int) := by
          have h := or_add (z := (S : Int)) q3 q4 hY (by rw [← hS]; simp)
          rw [wrap64u, show (S : Int) % 18446744073709551616 = (S : Int) by omega] at h
          exact h
        have hsh : ∀ w', (Op.shift .shl .u64 (C : Int) .i64 (IntKind.i64.wrap (8 * (k : Int)))).run Tryd.prog w' = .ok (.int .u64 (S : Int)) w' := fun w' => by rw [run_shl8 _ _ _ (by omega) (by omega), hS]
        have hwC : IntKind.u64.wrap (C : Int) = (C : Int) := by rw [wrap64u]; omega
        clear hS
        rw [hY] at F2
        clear hC hY q1 q2 q3 q4 hc f1 f2 f5 hok
        have eQ : byteR l s' = byteR l s' := rfl
        clear eQ
        go_wp2_with fail
        go_region_with (first | (go_at_call 43; refine (CB.out _ R1.out.drew HVr.out.drew).mono ?_; rintro e W2 ⟨rfl, g1, g2⟩; rw [HB.out] at g1; rw [HB.out, HC.out]; have G1 := Lib.hid g1; have G2 := Lib.hid (B1.out.drew.trans (But2.of g2)); have D2 := Lib.hid (D1.out.drew.but g2 hne); have hf2' := D2.out.free 2; have hlt2 := D2.out.cells.2.2.2.2.2; have d2' := D2.out.cells.2.2.1; clear g1 g2))
        all_goals
          go_simp
          go_wp2_with fail
          go_roundw
          case rel => exact ⟨k + 1, Y, _, by go_num, by omega, G1.out.setOther _ _ hne, D2.out.setDb Y, G2.out.set _ _ rfl, F2.out⟩
          case measure => simp [intOf]; omega
      · obtain ⟨s2, q1, q2⟩ := F1.out.no (by omega) hok
        have HB := Lib.hid q1
        have F2 := Lib.hid q2
        have e3 : bits .or .u64 (B : Int) 0 = (B : Int) := or_zero64 f4
        have hw0 : IntKind.u64.wrap 0 = 0 := by rw [wrap64u]; rfl
        have hsh : ∀ w', (Op.shift .shl .u64 0 .i64 (IntKind.i64.wrap (8 * (k : Int)))).run Tryd.prog w' = .ok (.int .u64 0) w' := fun w' => by
          have h := run_shl8 Tryd.prog 0 k (by omega) (by omega) w'
          rw [Nat.zero_mul] at h
          exact h
        clear q1 q2 f1 f2 f5 hok
        go_wp2_with fail
        go_region_with (first | (go_at_call 43; refine (CB.out _ R1.out.drew HVr.out.drew).mono ?_; rintro e W2 ⟨rfl, g1, g2⟩; rw [HB.out] at g1; rw [HB.out]; have G1 := Lib.hid g1; have G2 := Lib.hid (B1.out.drew.trans (But2.of g2)); have D2 := Lib.hid (D1.out.drew.but g2 hne); have hf2' := D2.out.free 2; have hlt2 := D2.out.cells.2.2.2.2.2; have d2' := D2.out.cells.2.2.1; clear g1 g2))
        all_goals
          go_simp
          go_wp2_with fail
          go_roundw
          case rel => exact ⟨k + 1, B, _, by go_num, by omega, G1.out.setOther _ _ hne, D2.out.setDb B, G2.out.set _ _ rfl, F2.out⟩
          case measure => simp [intOf]; omega

def tabE : List MapEntry := [⟨.int .i64 0, (.func (.func 57) #[] #[]), 0⟩, ⟨.int .i64 12, (.func (.func 57) #[] #[]), 1⟩, ⟨.int .i64 13, (.func (.func 57) #[] #[]), 2⟩, ⟨.int .i64 1, (.func (.func 53) #[] #[]), 3⟩, ⟨.int .i64 2, (.func (.func 53) #[] #[]), 4⟩, ⟨.int .i64 4, (.func (.func 55) #[] #[]), 5⟩, ⟨.int .i64 5, (.func (.func 55) #[] #[]), 6⟩, ⟨.int .i64 7, (.func (.func 55) #[] #[]), 7⟩, ⟨.int .i64 3, (.func (.func 58) #[] #[]), 8⟩, ⟨.int .i64 6, (.func (.func 59) #[] #[]), 9⟩, ⟨.int .i64 10, (.func (.func 60) #[] #[]), 10⟩, ⟨.int .i64 11, (.func (.func 61) #[] #[]), 11⟩, ⟨.int .i64 9, (.func (.func 62) #[] #[]), 12⟩, ⟨.int .i64 8, (.func (.func 63) #[] #[]), 13⟩]
/-- the first n of them -/
def tabN (n : Nat) : Array MapEntry := (tabE.take n).toArray
theorem alloc_set (W : World) (o o' : Obj) : { (W.alloc o) with heap := (W.alloc o).heap.setIfInBounds W.heap.size o' } = W.alloc o' := by
  unfold World.alloc
  simp only
  congr 1
  apply Array.ext_getElem?
  intro i
  rw [Array.getElem?_setIfInBounds]
  by_cases h : W.heap.size = i
  · subst h; simp
  · rw [if_neg h]
    simp only [Array.getElem?_push]
    rw [if_neg (fun e => h e.symm), if_neg (fun e => h e.symm)]
theorem upd_new (W : World) (es : Array MapEntry) (n : Nat) (k : Int) (v : Value) (hf : Instr.findNow (.int .i64) (.int .i64 k) es.toList 0 = some none) :
    (Instr.mapUpdate 76 (.map (some W.heap.size)) (.int .i64 k) v).run Tryd.prog (W.alloc (.map es n)) = .ok () (W.alloc (.map (es.push ⟨.int .i64 k, v, n⟩) (n + 1))) := by
  have hb : (W.alloc (.map es n)).heap[W.heap.size]? = some (.map es n) := heap_alloc_new W _
  have hc : (Instr.checkKey false 10000 3 (.int .i64 k)).run Tryd.prog (W.alloc (.map es n)) = .ok () (W.alloc (.map es n)) := MapKept.run_checkKey (k := .int .i64 k) Tryd.underlying3 (by simp [MapKept.IsKey]) false 9999
  have hg := MapKept.run_getObj_map (P := Tryd.prog) hb
  have hs := MapKept.run_setObj_map (P := Tryd.prog) (.map (es.push ⟨.int .i64 k, v, n⟩) (n + 1)) hb
  rw [alloc_set] at hs
  unfold Instr.mapUpdate Instr.findKey
  simp [Sem.run_bind, run_underlying Tryd.underlying76, run_underlying Tryd.underlying3, Result.andThen, hg, hc, hf, hs]
def Tab (W : World) (Bt : Nat) : Prop := W.heap[Bt]? = some (.map (tabN 14) 14)
theorem upd0 (W : World) : (Instr.mapUpdate 76 (.map (some W.heap.size)) (.int .i64 0) (.func (.func 57) #[] #[])).run Tryd.prog (W.alloc (.map #[] 0)) = .ok () (W.alloc (.map (tabN 1) 1)) := upd_new W #[] 0 0 _ rfl
theorem upd1 (W : World) : (Instr.mapUpdate 76 (.map (some W.heap.size)) (.int .i64 12) (.func (.func 57) #[] #[])).run Tryd.prog (W.alloc (.map (tabN 1) 1)) = .ok () (W.alloc (.map (tabN 2) 2)) := upd_new W (tabN 1) 1 12 _ rfl
theorem upd2 (W : World) : (Instr.mapUpdate 76 (.map (some W.heap.size)) (.int .i64 13) (.func (.func 57) #[] #[])).run Tryd.prog (W.alloc (.map (tabN 2) 2)) = .ok () (W.alloc (.map (tabN 3) 3)) := upd_new W (tabN 2) 2 13 _ rfl
theorem upd3 (W : World) : (Instr.mapUpdate 76 (.map (some W.heap.size)) (.int .i64 1) (.func (.func 53) #[] #[])).run Tryd.prog (W.alloc (.map (tabN 3) 3)) = .ok () (W.alloc (.map (tabN 4) 4)) := upd_new W (tabN 3) 3 1 _ rfl
theorem upd4 (W : World) : (Instr.mapUpdate 76 (.map (some W.heap.size)) (.int .i64 2) (.func (.func 53) #[] #[])).run Tryd.prog (W.alloc (.map (tabN 4) 4)) = .ok () (W.alloc (.map (tabN 5) 5)) := upd_new W (tabN 4) 4 2 _ rfl
theorem upd5 (W : World) : (Instr.mapUpdate 76 (.map (some W.heap.size)) (.int .i64 4) (.func (.func 55) #[] #[])).run Tryd.prog (W.alloc (.map (tabN 5) 5)) = .ok () (W.alloc (.map (tabN 6) 6)) := upd_new W (tabN 5) 5 4 _ rfl
theorem upd6 (W : World) : (Instr.mapUpdate 76 (.map (some W.heap.size)) (.int .i64 5) (.func (.func 55) #[] #[])).run Tryd.prog (W.alloc (.map (tabN 6) 6)) = .ok () (W.alloc (.map (tabN 7) 7)) := upd_new W (tabN 6) 6 5 _ rfl
theorem upd7 (W : World) : (Instr.mapUpdate 76 (.map (some W.heap.size)) (.int .i64 7) (.func (.func 55) #[] #[])).run Tryd.prog (W.alloc (.map (tabN 7) 7)) = .ok () (W.alloc (.map (tabN 8) 8)) := upd_new W (tabN 7) 7 7 _ rfl
theorem upd8 (W : World) : (Instr.mapUpdate 76 (.map (some W.heap.size)) (.int .i64 3) (.func (.func 58) #[] #[])).run Tryd.prog (W.alloc (.map (tabN 8) 8)) = .ok () (W.alloc (.map (tabN 9) 9)) := upd_new W (tabN 8) 8 3 _ rfl
theorem upd9 (W : World) : (Instr.mapUpdate 76 (.map (some W.heap.size)) (.int .i64 6) (.func (.func 59) #[] #[])).run Tryd.prog (W.alloc (.map (tabN 9) 9)) = .ok () (W.alloc (.map (tabN 10) 10)) := upd_new W (tabN 9) 9 6 _ rfl
theorem upd10 (W : World) : (Instr.mapUpdate 76 (.map (some W.heap.size)) (.int .i64 10) (.func (.func 60) #[] #[])).run Tryd.prog (W.alloc (.map (tabN 10) 10)) = .ok () (W.alloc (.map (tabN 11) 11)) := upd_new W (tabN 10) 10 10 _ rfl
theorem upd11 (W : World) : (Instr.mapUpdate 76 (.map (some W.heap.size)) (.int .i64 11) (.func (.func 61) #[] #[])).run Tryd.prog (W.alloc (.map (tabN 11) 11)) = .ok () (W.alloc (.map (tabN 12) 12)) := upd_new W (tabN 11) 11 11 _ rfl
theorem upd12 (W : World) : (Instr.mapUpdate 76 (.map (some W.heap.size)) (.int .i64 9) (.func (.func 62) #[] #[])).run Tryd.prog (W.alloc (.map (tabN 12) 12)) = .ok () (W.alloc (.map (tabN 13) 13)) := upd_new W (tabN 12) 12 9 _ rfl
theorem upd13 (W : World) : (Instr.mapUpdate 76 (.map (some W.heap.size)) (.int .i64 8) (.func (.func 63) #[] #[])).run Tryd.prog (W.alloc (.map (tabN 13) 13)) = .ok () (W.alloc (.map (tabN 14) 14)) := upd_new W (tabN 13) 13 8 _ rfl

set_option maxHeartbeats 2000000 in
theorem fields_any (W : World) : Calls Tryd.prog 36 #[] W fun e w' => e = .returned (.map (some W.heap.size)) ∧ w' = W.alloc (.map (tabN 14) 14) := by
  have mk : ∀ w, (Instr.makeMap 76 none).run Tryd.prog w = .ok (.map (some w.heap.size)) (w.alloc (.map #[] 0)) := fun _ => rfl
  have u0 := upd0 W
  have u1 := upd1 W
  have u2 := upd2 W
  have u3 := upd3 W
  have u4 := upd4 W
  have u5 := upd5 W
  have u6 := upd6 W
  have u7 := upd7 W
  have u8 := upd8 W
  have u9 := upd9 W
  have u10 := upd10 W
  have u11 := upd11 W
  have u12 := upd12 W
  have u13 := upd13 W
  obtain ⟨PP, hPP⟩ : ∃ PP : Ending → World → Prop, (fun e w' => e = .returned (.map (some W.heap.size)) ∧ w' = W.alloc (.map (tabN 14) 14)) = PP := ⟨_, rfl⟩
  rw [hPP]
  have HPP := Lib.hid hPP
  clear hPP
  go_enter Tryd.func36, Tryd.ntmps36
  go_wp2_with fail
  rw [← HPP.out]
  exact ⟨rfl, rfl⟩
/-- the reader of a kind -/
def tabF (k : Nat) : Value :=
  if k = 0 ∨ k = 12 ∨ k = 13 then (.func (.func 57) #[] #[]) else if k = 1 ∨ k = 2 then (.func (.func 53) #[] #[]) else if k = 4 ∨ k = 5 ∨ k = 7 then (.func (.func 55) #[] #[]) else if k = 3 then (.func (.func 58) #[] #[]) else if k = 6 then (.func (.func 59) #[] #[]) else if k = 10 then (.func (.func 60) #[] #[]) else if k = 11 then (.func (.func 61) #[] #[]) else if k = 9 then (.func (.func 62) #[] #[]) else if k = 8 then (.func (.func 63) #[] #[]) else .nilFunc
theorem look_in {W : World} {Bt : Nat} (h : Tab W Bt) (k : Int) (i : Nat) (v : Value) (hf : Instr.findNow (.int .i64) (.int .i64 k) (tabN 14).toList 0 = some (some (i, v))) :
    (Instr.lookup 76 (.map (some Bt)) (.int .i64 k) false).run Tryd.prog W = .ok v W := by
  have hc : (Instr.checkKey false 10000 3 (.int .i64 k)).run Tryd.prog W = .ok () W := MapKept.run_checkKey (k := .int .i64 k) Tryd.underlying3 (by simp [MapKept.IsKey]) false 9999
  have hg := MapKept.run_getObj_map (P := Tryd.prog) h
  have he : (tabN 14).isEmpty = false := rfl
  unfold Instr.lookup Instr.findKey
  simp [Sem.run_bind, run_underlying Tryd.underlying76, run_underlying Tryd.underlying3, Result.andThen, hg, he, hc, hf]
theorem look_out {W : World} {Bt : Nat} (h : Tab W Bt) (k : Int) (hf : Instr.findNow (.int .i64) (.int .i64 k) (tabN 14).toList 0 = some none) :
    (Instr.lookup 76 (.map (some Bt)) (.int .i64 k) false).run Tryd.prog W = .ok .nilFunc W := by
  have hc : (Instr.checkKey false 10000 3 (.int .i64 k)).run Tryd.prog W = .ok () W := MapKept.run_checkKey (k := .int .i64 k) Tryd.underlying3 (by simp [MapKept.IsKey]) false 9999
  have hg := MapKept.run_getObj_map (P := Tryd.prog) h
  have he : (tabN 14).isEmpty = false := rfl
  have hz : (zeroValue 94).run Tryd.prog W = .ok .nilFunc W := by kernel_rfl
  unfold Instr.lookup Instr.findKey
  simp [Sem.run_bind, run_underlying Tryd.underlying76, run_underlying Tryd.underlying3, Result.andThen, hg, he, hc, hf, hz]
theorem find_out (k : Nat) (hk : 14 ≤ k) : Instr.findNow (.int .i64) (.int .i64 (k : Int)) (tabN 14).toList 0 = some none := by
  have h : ∀ c : Int, c < 14 → ((k : Int) == c) = false := fun c hc => by simp; omega
  simp [tabN, tabE, Instr.findNow, Instr.sameNow, h]
theorem tab_look {W : World} {Bt : Nat} (h : Tab W Bt) (k : Nat) : (Instr.lookup 76 (.map (some Bt)) (.int .i64 (k : Int)) false).run Tryd.prog W = .ok (tabF k) W := by
  by_cases hk : 14 ≤ k
  · rw [look_out h k (find_out k hk)]
    unfold tabF
    simp only [show ¬ (k = 0 ∨ k = 12 ∨ k = 13) by omega, show ¬ (k = 1 ∨ k = 2) by omega, show ¬ (k = 4 ∨ k = 5 ∨ k = 7) by omega, show ¬ k = 3 by omega, show ¬ k = 6 by omega, show ¬ k = 10 by omega, show ¬ k = 11 by omega, show ¬ k = 9 by omega, show ¬ k = 8 by omega, if_false]
  · have hc : k = 0 ∨ k = 1 ∨ k = 2 ∨ k = 3 ∨ k = 4 ∨ k = 5 ∨ k = 6 ∨ k = 7 ∨ k = 8 ∨ k = 9 ∨ k = 10 ∨ k = 11 ∨ k = 12 ∨ k = 13 := by omega
    rcases hc with rfl | rfl | rfl | rfl | rfl | rfl | rfl | rfl | rfl | rfl | rfl | rfl | rfl | rfl <;> exact look_in h _ _ _ rfl
end Go.Proofs.YtmncpbfghabamaaDoor
