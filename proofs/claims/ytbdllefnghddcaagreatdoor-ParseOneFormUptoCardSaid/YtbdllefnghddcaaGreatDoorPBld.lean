/- PARSE: how a tree is written, in plain Lean. PARSE: strings.Builder in a block of its own, alone or within parse.writer: written on, and told. PARSE: what a builder tells. -/
import Derived.Lib.Join
import Derived.Lib.ItoaMem
import Derived.Test.YtbdllefnghddcaaGreatDoorPScan2
import Derived.Test.YtbdllefnghddcaaGreatDoorPFitP
import Derived.Shelf.RegionOpenPlain
import Derived.Lib.Strings
import Derived.Lib.Slices
import Derived.Lib.Walk
import Derived.Lib.Builder
import Derived.Lib.AppendStr
import Derived.Lib.UnsafeStr
import Derived.Laws.Externs
import Derived.Test.YtbdllefnghddcaaGreatDoorPMem
namespace Go.Proofs.YtbdllefnghddcaaGreatDoor
section
open Go

def bs (s : ByteArray) : List UInt8 := s.data.toList
theorem ba_bs (s : ByteArray) : ba (bs s) = s := by cases s; rfl
theorem bs_ba (l : List UInt8) : bs (ba l) = l := by simp [bs, ba]
def commaB : List UInt8 := [44, 32]
def usesB (us : List Us) : List UInt8 := Lib.join (us.map fun u => bs u.name) commaB
def moreB : Bool → List Us → List UInt8
 | _, [] => []
 | first, u :: us => (if first then [] else commaB) ++ (bs u.name ++ moreB false us)
theorem moreB_false : ∀ us : List Us, moreB false us = Lib.joinTail commaB (us.map fun u => bs u.name)
 | [] => rfl
 | u :: us => by
  rw [moreB, moreB_false us]
  simp [Lib.joinTail]
theorem usesB_more (us : List Us) : usesB us = moreB true us := by
 cases us with
 | nil => rfl
 | cons u us =>
  rw [usesB, List.map_cons, Lib.join_cons, moreB, moreB_false]
  simp
def spB (l : List UInt8) : List UInt8 := 32 :: l
def spsB (ls : List (List UInt8)) : List UInt8 := (ls.map spB).flatten
def digW (n : Int) : List UInt8 := Lib.itoa n
def capsB (us : List Us) : List UInt8 := if us.length = 0 then [] else spsB [[99, 97, 112, 115], usesB us]
def whenW (w : Bool) (t : Wt) : List UInt8 := if w then spsB [[119, 104, 101, 110], wrW t] else []
def coreW (c : CoreT) : List UInt8 := spsB [bs c.word] ++ ((if c.has then spsB [(if c.minus then [45] else []) ++ digW c.num] else []) ++ capsB c.caps)
def subB (w : WrapT) : List UInt8 := bs w.word ++ (if w.sub.size = 0 then [] else 58 :: bs w.sub)
def wrapW (w : WrapT) : List UInt8 := spsB [[119, 105, 116, 104]] ++ ((if w.opn then spsB [[111, 112, 101, 110]] else []) ++ (spsB [subB w] ++ ((w.nums.map fun n => spsB [digW n]).flatten ++ (capsB w.caps ++ whenW w.when_ w.want))))
def roomW (d : HandT) : List UInt8 := if d.room then spsB [[105, 110, 98, 111, 120], digW d.inbox] ++ (if d.drop.name.size = 0 then [] else spsB [[100, 114, 111, 112], bs d.drop.name]) else []
def afterW (us : List Us) : List UInt8 := if us.length = 0 then [] else spsB [[97, 102, 116, 101, 114], usesB us]
def handW (d : HandT) : List UInt8 := [104, 97, 110, 100, 108, 101, 114, 32] ++ (bs d.name ++ ([32, 61] ++ ((if d.of_.name.size = 0 then coreW d.core else spsB [[111, 102], bs d.of_.name]) ++ ((d.wraps.map wrapW).flatten ++ (roomW d ++ (afterW d.after ++ [59, 10]))))))
def routeW (r : RouteT) : List UInt8 := [114, 111, 117, 116, 101, 32] ++ (quoteS (bs r.filter.name) ++ (whenW r.when_ r.want ++ ((if r.els then spsB [[101, 108, 115, 101]] else []) ++ (spsB [[45, 62], bs r.to.name] ++ [59, 10]))))
def printW (t : TreeT) : List UInt8 := (t.hands.map handW).flatten ++ (t.routes.map routeW).flatten
def printT (t : TreeT) : List UInt8 := if fitT t then printW t else []
def textW (t : Wt) : List UInt8 := if rightB t then wrW t else []
end
section
set_option maxHeartbeats 4000000
set_option maxRecDepth 100000
open Go Go.RowKit
attribute [local go_sem ↓] Go.wp_at_zero Go.wp_at_succ

def IsBT (T : TypeId) : Prop := T = 136 ∨ T = 138
theorem size_bld : (Tryz.prog.info? 136).map (·.size) = some 2 := by kernel_rfl
theorem lies_bld {T : TypeId} (h : IsBT T) : liesAt Tryz.prog Tryz.prog.depth T (2 / Tryz.prog.cellsOf T) 0 136 1 = true := by
 rcases h with rfl | rfl <;> kernel_rfl
theorem bt_ne {T : TypeId} (h : IsBT T) : T ≠ 5 := by
 rcases h with rfl | rfl <;> decide
structure Bd (T : TypeId) (base b : Nat) (W : World) (v : Value) (l : List UInt8) : Prop where
 lo : base ≤ b
 box : ∃ p : Option Addr, (p = none ∨ p = some ⟨b, 0, none⟩) ∧ W.heap[b]? = some (.cells #[.pointer p, v] T (0, 0))
 own : W.ownsRow base 5 1 v l.length (bc l)
 ne : v.ownBlock ≠ some b
structure Wro (base b : Nat) (W W' : World) : Prop where
 bel : Below base W W'
 keep : ∀ c, c < W.heap.size → c ≠ b → (∀ cs fz, W.heap[c]? ≠ some (.cells cs 5 fz)) → W'.heap[c]? = W.heap[c]?
theorem Bd.lt {T : TypeId} {base b : Nat} {W : World} {v : Value} {l : List UInt8} (h : Bd T base b W v l) : b < W.heap.size := by
 obtain ⟨p, -, hb⟩ := h.box
 exact (Array.getElem?_eq_some_iff.1 hb).1
theorem Wro.refl (base b : Nat) (W : World) : Wro base b W W := ⟨Below.refl _ _, fun _ _ _ _ => rfl⟩
theorem Wro.trans {base b : Nat} {W W' W'' : World} (h : Wro base b W W') (k : Wro base b W' W'') : Wro base b W W'' := by
 have hs := h.bel.size
 refine ⟨h.bel.trans k.bel, fun c hc hb hv => ?_⟩
 have e := h.keep c hc hb hv
 exact (k.keep c (by omega) hb fun cs fz => by rw [e]; exact hv cs fz).trans e
theorem Wro.of {base b : Nat} {W W' : World} (hb : Below W.heap.size W W') (hbase : base ≤ W.heap.size) : Wro base b W W' := ⟨hb.mono hbase, fun c hc _ _ => hb.block c hc⟩
theorem Wro.below {base b : Nat} {W W' W'' : World} (h : Wro base b W W') (hb : Below W'.heap.size W' W'') (hbase : base ≤ W.heap.size) : Wro base b W W'' := h.trans (.of hb (by have := h.bel.size; omega))
theorem Bd.below {T : TypeId} {base b : Nat} {W W' : World} {v : Value} {l : List UInt8} (h : Bd T base b W v l) (hb : Below W.heap.size W W') : Bd T base b W' v l := by
 have hl := h.lt
 obtain ⟨p, hp, hx⟩ := h.box
 exact ⟨h.lo, ⟨p, hp, (hb.block b hl).trans hx⟩, ownsRow_heap h.own fun c hc => hb.block c (h.own.lt c hc).2, h.ne⟩
theorem Bd.new (T : TypeId) (base : Nat) (W : World) (hb : base ≤ W.heap.size) : Bd T base W.heap.size (W.alloc (.cells #[.pointer none, .slice none 0 0] T)) (.slice none 0 0) [] :=
 ⟨hb, ⟨none, .inl rfl, heap_alloc_new W _⟩, World.ownsRow_nil _ _ _ _, fun h => by cases h⟩
theorem copycheck_any {T : TypeId} (hT : IsBT T) (b : Nat) (v : Value) (p : Option Addr) (W : World) (hp : p = none ∨ p = some ⟨b, 0, none⟩) (hx : W.heap[b]? = some (.cells #[.pointer p, v] T (0, 0))) :
  Calls Tryz.prog 159 #[.pointer (some ⟨b, 0, none⟩)] W fun e w' => e = .returned (.tuple #[]) ∧ w'.heap[b]? = some (.cells #[.pointer (some ⟨b, 0, none⟩), v] T (0, 0)) ∧ (∀ c, c ≠ b → w'.heap[c]? = W.heap[c]?) ∧ ∀ base, base ≤ b → Below base W w' := by
 obtain ⟨j, hj, hjs⟩ := Option.map_eq_some_iff.1 size_bld
 have hlies := lies_bld hT
 have c0 : W.cell? ⟨b, 0, none⟩ = some (.pointer p) := by rw [cell_of_row _ _ _ _ _ _ hx]; rfl
 have hfz := frozen_of_row W b 0 _ _ hx
 have hsh : W.shape? b = some (T, 2) := by simp [World.shape?, hx]
 rcases hp with rfl | rfl
 ·obtain ⟨PP, hPP⟩ : ∃ PP : Ending → World → Prop, (fun e w' => e = .returned (.tuple #[]) ∧ w'.heap[b]? = some (.cells #[.pointer (some ⟨b, 0, none⟩), v] T (0, 0)) ∧ (∀ c, c ≠ b → w'.heap[c]? = W.heap[c]?) ∧ ∀ base, base ≤ b → Below base W w') = PP := ⟨_, rfl⟩
  rw [hPP]
  have HPP := Lib.hid hPP
  have HX := Lib.hid hx
  have HL := Lib.hid hlies
  have HSH := Lib.hid hsh
  clear hPP hx hlies hsh
  go_enter Tryz.func159, Tryz.ntmps159
  go_wp2
  rw [Lib.run_to_unsafe W ⟨b, 0, none⟩ Tryz.underlying134 Tryz.underlying198 hj (by rw [hjs]; decide) HSH.out (Nat.zero_lt_succ 1)]
  simp only [Result.andThen]
  rw [Oper.upon_value]
  go_wp2
  rw [run_callFunc_extern Tryz.func170 (by kernel_rfl) (by kernel_rfl) (by kernel_rfl) (e := Extern.AbiNoEscape.same) (by kernel_rfl)]
  rw [Lib.run_noEscape]
  simp only [Result.andThen]
  rw [Oper.upon_value]
  go_wp2
  rw [Lib.run_from_unsafe W ⟨b, 0, none⟩ Tryz.underlying198 Tryz.underlying134 hj HSH.out HL.out]
  simp only [Result.andThen]
  rw [Oper.upon_value]
  go_wp2
  go_end0
  rw [← HPP.out]
  refine ⟨rfl, heap_setCell_same _ b 0 _ _ _ HX.out, fun c hc => ?_, fun base hbase => (Below.refl _ _).setCell (p := ⟨b, 0, none⟩) hbase _⟩
  exact heap_setCell_other _ ⟨b, 0, none⟩ c _ hc
 ·obtain ⟨PP, hPP⟩ : ∃ PP : Ending → World → Prop, (fun e w' => e = .returned (.tuple #[]) ∧ w'.heap[b]? = some (.cells #[.pointer (some ⟨b, 0, none⟩), v] T (0, 0)) ∧ (∀ c, c ≠ b → w'.heap[c]? = W.heap[c]?) ∧ ∀ base, base ≤ b → Below base W w') = PP := ⟨_, rfl⟩
  rw [hPP]
  have HPP := Lib.hid hPP
  have HX := Lib.hid hx
  clear hPP hx hlies hsh hfz
  go_enter Tryz.func159, Tryz.ntmps159
  go_wp2
  rw [Lib.run_neq_ptr_same W _ Tryz.underlying134 hj]
  go_wp2
  go_end0
  rw [← HPP.out]
  exact ⟨rfl, HX.out, fun _ _ => rfl, fun _ _ => Below.refl _ _⟩
def WsPost (T : TypeId) (base b : Nat) (W : World) (s : ByteArray) (l : List UInt8) (e : Ending) (w' : World) : Prop := e = .returned (.tuple #[.int .i64 s.size, .nilIface]) ∧ (∃ v', Bd T base b w' v' l) ∧ Wro base b W w'
theorem write_any {T : TypeId} {base b : Nat} {W : World} {v : Value} {l : List UInt8} (hT : IsBT T) (h : Bd T base b W v l) (s : ByteArray) (hlen : l.length + s.size ≤ 140737488355328) :
  Calls Tryz.prog 133 #[.pointer (some ⟨b, 0, none⟩), .string s] W (WsPost T base b W s (l ++ bs s)) := by
 obtain ⟨i0, hi, hz0, hz1, hz2⟩ := info_parts info_byte
 obtain ⟨PP, hPP⟩ : ∃ PP, WsPost T base b W s (l ++ bs s) = PP := ⟨_, rfl⟩
 rw [hPP]
 have HPP := Lib.hid hPP
 have hl := h.lt
 have HTN := Lib.hid (bt_ne hT)
 obtain ⟨hlo, ⟨p, hp, hx⟩, hown, hne⟩ := h
 have HC := Lib.hid (copycheck_any hT b v p W hp hx)
 have HOW := Lib.hid hown
 have HNE := Lib.hid hne
 clear hPP hx hp hown hne
 go_enter Tryz.func133, Tryz.ntmps133
 go_wp2_with (go_at_call 159; refine HC.out.mono ?_)
 rintro e w1 ⟨rfl, hx1, hk1, hb1⟩
 have HO1 := Lib.hid (ownsRow_heap HOW.out (fun c hc => hk1 c (fun e => HNE.out (by rw [hc, e]))))
 have hs1 := (hb1 base hlo).size
 obtain ⟨c0, c1⟩ := row2_ hx1
 have HX1 := Lib.hid hx1
 have HK1 := Lib.hid hk1
 have HB1 := Lib.hid hb1
 have HLO : Hid (base ≤ b) := hlo
 clear hx1 hk1 hb1 hlo
 go_wp2_with (at_builtin; refine Lib.wpList_append_own_string _ rfl _ _ 22 9 rfl base 5 i0 Tryz.underlying22 Tryz.underlying9 hi hz0 hz1 hz2 _ _ _ rfl HO1.out s rfl ?c3 ?c4 ?c5 ?_)
 case c3 => unfold maxLen; omega
 case c4 => omega
 case c5 => have := HLO.out; omega
 intro v' w2 hown' hgrow hloc
 have hlt : b < w1.heap.size := by omega
 have hb2 : w2.heap[b]? = some (.cells #[.pointer (some ⟨b, 0, none⟩), v] T (0, 0)) := by
  rw [hgrow.block b hlt (fun e => HNE.out e.symm)]
  exact HX1.out
 obtain ⟨d0, d1⟩ := row2_ hb2
 have f1 := frozen_of_row w2 b 1 _ _ hb2
 have HB2 := Lib.hid hb2
 have HO2 := Lib.hid hown'
 have HG2 := Lib.hid hgrow
 have HL2 := Lib.hid hloc
 obtain ⟨ao, n', cap, rfl⟩ : ∃ ao n' cap, v' = .slice ao n' cap := by
  rcases hown'.2 with ⟨hv, _⟩ | ⟨g, cap, cur, hv, _⟩
  ·exact ⟨_, _, _, hv⟩
  ·exact ⟨_, _, _, hv⟩
 clear hb2 hown' hgrow hloc
 go_wp2
 rw [← HPP.out]
 refine ⟨rfl, ⟨_, ⟨HLO.out, ⟨some ⟨b, 0, none⟩, .inr rfl, heap_setCell_same w2 b 1 _ _ _ HB2.out⟩, ?_, ?_⟩⟩, ?_, ?_⟩
 ·have hl2 : (l ++ bs s).length = l.length + s.size := by rw [List.length_append]; congr 1
  rw [hl2, bc_app]
  exact ownsRow_heap HO2.out fun c hc => heap_setCell_other _ ⟨b, 1, none⟩ c _ (fun e => by
   subst e
   rcases HO2.out.2 with ⟨hv, -⟩ | ⟨g, cap2, cur, hv, -, hg, -⟩
   ·rw [hv] at hc; cases hc
   ·rw [hv] at hc; injection hc with hc; subst hc; rw [HB2.out] at hg; injection hg with hg; injection hg with _ hg; exact HTN.out hg)
 ·intro e
  rcases HO2.out.2 with ⟨hv, -⟩ | ⟨g, cap2, cur, hv, -, hg, -⟩
  ·rw [hv] at e; cases e
  ·rw [hv] at e; injection e with e; subst e; rw [HB2.out] at hg; injection hg with hg; injection hg with _ hg; exact HTN.out hg
 ·exact ((HB1.out base HLO.out).grown HG2.out (by have := HLO.out; omega) (fun k hk => (HO1.out.lt k hk).1)).setCell (p := ⟨b, 1, none⟩) HLO.out _
 ·intro c hc hcb hty
  have e1 := HK1.out c hcb
  rw [heap_setCell_other _ ⟨b, 1, none⟩ c _ hcb]
  refine (HG2.out.block c (by omega) fun e => ?_).trans e1
  rcases HO1.out.2 with ⟨hv, -⟩ | ⟨g, cap2, cur, hv, -, hg, -⟩
  ·rw [hv] at e; cases e
  ·rw [hv] at e; injection e with e; subst e; rw [e1] at hg; exact hty _ _ hg
end
section
open Go Go.RowKit
attribute [local go_sem ↓] Go.wp_at_zero Go.wp_at_succ
theorem cells_uint8 : Tryz.prog.cellsOf 5 = 1 := by kernel_rfl
set_option maxRecDepth 100000 in
set_option maxHeartbeats 4000000 in
theorem string_any {T : TypeId} {base b : Nat} {W : World} {v : Value} {l : List UInt8} (h : Bd T base b W v l) (h0 : l ≠ [] ∨ v = .slice none 0 0) :
  Calls Tryz.prog 94 #[.pointer (some ⟨b, 0, none⟩)] W fun e w' => e = .returned (.string (ba l)) ∧ Below base W w' := by
 obtain ⟨PP, hPP⟩ : ∃ PP : Ending → World → Prop, (fun e w' => e = .returned (.string (ba l)) ∧ Below base W w') = PP := ⟨_, rfl⟩
 rw [hPP]
 have HPP := Lib.hid hPP
 obtain ⟨hlo, ⟨p, -, hx⟩, hown, hne⟩ := h
 have c1 : W.drew.cell? ⟨b, 1, none⟩ = some v := by rw [cell_of_row W.drew b 1 _ _ _ hx]; rfl
 have mixed : Tryz.prog.follows .mixedOrders = true := by kernel_rfl
 clear hPP
 rcases hown.2 with ⟨rfl, hz⟩ | ⟨g, cap, cur, rfl, hbg, hg, hnc, hcm, hcs, htake⟩
 ·obtain rfl : l = [] := List.eq_nil_of_length_eq_zero hz
  have hUS := fun (W : World) (q : Option Addr) => Lib.run_unsafeString_none (P := Tryz.prog) W 176 3 9 q
  have hSD : (Builtin.unsafeSliceData_ #[22] 176 #[.slice none 0 0]).run Tryz.prog W.drew = .ok (.pointer none) W.drew := rfl
  clear hown hz h0 hx
  go_enter Tryz.func94, Tryz.ntmps94
  go_wp2
  go_region_o
  all_goals (go_wp2; rw [← HPP.out]; exact ⟨rfl, Below.drew (Below.refl _ W)⟩)
 ·have hl0 : l ≠ [] := by
   rcases h0 with h0 | h0
   ·exact h0
   ·cases h0
  have hl1 : l.length ≠ 0 := by simpa using hl0
  have hSD : (Builtin.unsafeSliceData_ #[22] 176 #[.slice (some ⟨g, 0, none⟩) l.length cap]).run Tryz.prog W.drew = .ok (.pointer (some ⟨g, 0, none⟩)) W.drew :=
   Lib.run_unsafeSliceData_row _ _ _ _ _ _ (by omega)
  have hUS : (Builtin.unsafeString_ #[176, 3] 9 #[.pointer (some ⟨g, 0, none⟩), .int .i64 l.length]).run Tryz.prog W.drew = .ok (.string ⟨l.toArray⟩) (W.drew.freeze ⟨g, 0, none⟩ l.length) := by
   refine Lib.run_unsafeString_row W.drew 176 3 9 5 Tryz.underlying176 cells_uint8 g cur.size (by have hg' : W.drew.heap[g]? = some (.cells cur 5 (0, 0)) := hg; simp [World.shape?, hg']) l hl0 (by omega) (by unfold maxLen at hcm; omega) ?_
   intro j x hx
   exact hown.cells (g := g) rfl j (.int .u8 x.toNat) (by simp [bc, hx])
  clear hown h0 hg hcs htake hx
  go_enter Tryz.func94, Tryz.ntmps94
  go_wp2
  go_region_o
  all_goals (go_wp2; rw [← HPP.out]; exact ⟨rfl, Lib.below_freeze (Below.drew (Below.refl base W)) (p := ⟨g, 0, none⟩) hbg _⟩)
end
end Go.Proofs.YtbdllefnghddcaaGreatDoor
