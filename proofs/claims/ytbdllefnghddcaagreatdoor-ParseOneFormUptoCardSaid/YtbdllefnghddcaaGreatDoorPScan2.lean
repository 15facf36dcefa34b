/- SLICES OF BYTES: how they read, a cut of one, a text out of one. ROWS OF BYTES OF THE CALL's OWN; what Quote writes. THE PROGRAM's Kind and Text. -/
import Derived.Test.YtbdllefnghddcaaGreatDoorScanLeaf
import Derived.Laws.BytesArg
import Derived.Shelf.Bytes.SlEqualAll
import Derived.Below
import Derived.Deep.Draws
import Derived.Deep.AppendLies
import Derived.Laws.OwnMore
import Derived.OwnWalk
import Derived.Deep.MidRow
namespace Go.Proofs.YtbdllefnghddcaaGreatDoor
section
open Go Go.RowKit

def Bs (w : World) (v : Value) (l : List UInt8) : Prop :=
 ∃ p cap, v = .slice p l.length cap ∧ l.length ≤ cap ∧ cap ≤ 9223372036854775807 ∧ (0 < l.length → ∃ b o, p = some ⟨b, o, none⟩ ∧ ∀ j x, l[j]? = some x → w.cell? ⟨b, o + j, none⟩ = some (.int .u8 (x.toNat : Nat)))

theorem Bs.below {w w' : World} {v : Value} {l : List UInt8} (h : Bs w v l) (hb : Below w.heap.size w w') : Bs w' v l := by
 obtain ⟨p, cap, hv, h1, h2, hc⟩ := h
 refine ⟨p, cap, hv, h1, h2, fun hn => ?_⟩
 obtain ⟨b, o, hp, hc⟩ := hc hn
 exact ⟨b, o, hp, fun j x hj => (hb.cell (World.block_lt_of_cell? w _ (hc j x hj))).trans (hc j x hj)⟩
theorem Bs.drewN {w : World} {v : Value} {l : List UInt8} (h : Bs w v l) (n : Nat) : Bs (w.drewN n) v l := h
theorem Bs.grown {w w' : World} {v : Value} {l : List UInt8} {row : Option Nat} (h : Bs w v l) (hg : w.grownBy w' row) (hne : ∀ p n c, v = .slice (some p) n c → 0 < l.length → row ≠ some p.block) : Bs w' v l := by
 obtain ⟨p, cap, hv, h1, h2, hc⟩ := h
 refine ⟨p, cap, hv, h1, h2, fun hn => ?_⟩
 obtain ⟨b, o, rfl, hc'⟩ := hc hn
 refine ⟨b, o, rfl, fun j x hj => ?_⟩
 have h3 := hc' j x hj
 exact (World.cell?_of_block (hg.block b (World.block_lt_of_cell? w _ h3) (fun e => hne _ _ _ hv hn e.symm))).trans h3

def numsI (l : List UInt8) : List Int := l.map fun c => (c.toNat : Int)
theorem numsI_len (l : List UInt8) : (numsI l).length = l.length := by simp [numsI]
theorem bytesOf_nums (l : List UInt8) : Lib.bytesOf (numsI l) = l := by
 unfold Lib.bytesOf numsI
 rw [List.map_map]
 conv => rhs; rw [← List.map_id l]
 apply List.map_congr_left
 intro c _
 simp
theorem numsI_range (l : List UInt8) : ∀ x ∈ numsI l, 0 ≤ x ∧ x < 256 := by
 intro x hx
 obtain ⟨c, _, rfl⟩ := List.mem_map.1 hx
 have := c.toNat_lt
 omega
theorem numsI_getD {l : List UInt8} {i : Nat} (h : i < l.length) : (numsI l).getD i 0 = ((l[i]'h).toNat : Int) := by simp [numsI, List.getD, h]

theorem Bs.cellsI {w : World} {b o cap : Nat} {l : List UInt8} (h : Bs w (.slice (some ⟨b, o, none⟩) l.length cap) l) (i : Nat) (hi : i < l.length) : w.cell? ⟨b, o + i, none⟩ = some (.int .u8 ((numsI l).getD i 0)) := by
 obtain ⟨p, cap', hv, _, _, hc⟩ := h
 obtain ⟨b', o', hp, hc⟩ := hc (by omega)
 injection hv with e1 e2 e3
 rw [hp] at e1
 injection e1 with e1; injection e1 with e1 e2
 subst e1; subst e2
 rw [numsI_getD hi]
 exact hc i _ (List.getElem?_eq_getElem hi)
theorem Bs.cell {w : World} {b o cap n : Nat} {l : List UInt8} (h : Bs w (.slice (some ⟨b, o, none⟩) n cap) l) {i : Nat} {x : UInt8} (hi : l[i]? = some x) : w.cell? ⟨b, o + i, none⟩ = some (.int .u8 (x.toNat : Nat)) := by
 obtain ⟨p, cap', hv, _, _, hc⟩ := h
 obtain ⟨hlt, _⟩ := List.getElem?_eq_some_iff.1 hi
 obtain ⟨b', o', hp, hc⟩ := hc (by omega)
 injection hv with e1 e2 e3
 rw [hp] at e1
 injection e1 with e1; injection e1 with e1 e2
 subst e1; subst e2
 exact hc i x hi
theorem Bs.form {w : World} {v : Value} {l : List UInt8} (h : Bs w v l) (hn : 0 < l.length) : ∃ b o cap, v = .slice (some ⟨b, o, none⟩) l.length cap ∧ b < w.heap.size := by
 obtain ⟨p, cap, hv, _, _, hc⟩ := h
 obtain ⟨b, o, hp, hc⟩ := hc hn
 exact ⟨b, o, cap, by rw [hv, hp], World.block_lt_of_cell? w _ (hc 0 _ (List.getElem?_eq_getElem hn))⟩
theorem Bs.len {w : World} {p : Option Addr} {n cap : Nat} {l : List UInt8} (h : Bs w (.slice p n cap) l) : n = l.length ∧ l.length ≤ cap ∧ cap ≤ 9223372036854775807 := by
 obtain ⟨p', cap', hv, h1, h2, _⟩ := h
 injection hv with _ e2 e3
 subst e3
 exact ⟨e2, h1, h2⟩
theorem Bs.in_ {w : World} {p : Option Addr} {n cap : Nat} {l : List UInt8} (h : Bs w (.slice p n cap) l) : Lib.BytesIn w p n (numsI l) := by
 intro hn
 obtain ⟨e, _, _⟩ := h.len
 subst e
 obtain ⟨b, o, cap', hv, _⟩ := h.form hn
 injection hv with e1 _ _
 subst e1
 exact ⟨b, o, rfl, fun i hi => h.cellsI i hi⟩

theorem Bs.cut {w : World} {p : Option Addr} {n cap : Nat} {l : List UInt8} (h : Bs w (.slice p n cap) l) {k : Nat} (hk : k ≤ l.length) :
  ∃ q cq, (∀ w' : World, Sem.run Tryz.prog (Instr.slice 22 (.slice p n cap) (some (Value.int IntKind.i64 (k : Nat))) none none) w' = .ok (.slice q (l.drop k).length cq) w') ∧ Bs w (.slice q (l.drop k).length cq) (l.drop k) ∧
   ∀ b o, p = some ⟨b, o, none⟩ → ∃ o', q = some ⟨b, o', none⟩ := by
 obtain ⟨e, h1, h2⟩ := h.len
 subst e
 have c1 : (k : Int) ≤ (l.length : Int) := by omega
 have c2 : (l.length : Int) ≤ cap := by omega
 refine ⟨if cap = k then p else p.map (·.add k), cap - k, fun w' => ?_, ?_, ?_⟩
 ·rw [List.length_drop]
  by_cases h0 : cap = k
  ·subst h0
   have : l.length = cap := by omega
   go_simp
  ·have h0' : ¬ (cap = k) := h0
   cases p <;> go_simp
 ·refine ⟨_, _, rfl, by rw [List.length_drop]; omega, by omega, fun hn => ?_⟩
  rw [List.length_drop] at hn
  obtain ⟨b, o, cap', hv, _⟩ := h.form (by omega)
  injection hv with e1 _ _
  subst e1
  rw [if_neg (by omega)]
  refine ⟨b, o + k, ?_, fun j x hj => ?_⟩
  ·show some ((⟨b, o, none⟩ : Addr).add k) = _
   unfold Addr.add; split <;> simp_all
  ·rw [List.getElem?_drop] at hj
   rw [Nat.add_assoc]
   exact h.cell hj
 ·rintro b o rfl
  split
  ·exact ⟨o, rfl⟩
  ·refine ⟨o + k, ?_⟩
   show some ((⟨b, o, none⟩ : Addr).add k) = _
   unfold Addr.add; split <;> simp_all

theorem Bs.text {w : World} {p : Option Addr} {n cap : Nat} {l : List UInt8} (h : Bs w (.slice p n cap) l) : (convert 22 9 (.slice p n cap)).run Tryz.prog w = .ok (.string (ba l)) w := by
 have hi := h.in_
 obtain ⟨e, _, _⟩ := h.len
 rw [hi.convert (by rw [numsI_len, e]) cap _ _ _ Tryz.underlying22 Tryz.underlying5 Tryz.underlying9]
 congr 2
 have e : (strOfNums (numsI l)).data.toList = l := by
  rw [strOfNums_data]
  exact bytesOf_nums l
 have e2 : ba (strOfNums (numsI l)).data.toList = strOfNums (numsI l) := rfl
 rw [← e2, e]

theorem Bs.window {w : World} {p : Option Addr} {n cap : Nat} {l : List UInt8} (h : Bs w (.slice p n cap) l) {i j : Nat} (hij : i ≤ j) (hj : j ≤ l.length) :
  ∃ q cq, (∀ w' : World, Sem.run Tryz.prog (Instr.slice 22 (.slice p n cap) (some (Value.int IntKind.i64 (i : Nat))) (some (Value.int IntKind.i64 (j : Nat))) none) w' = .ok (.slice q (j - i) cq) w') ∧ Bs w (.slice q (j - i) cq) ((l.drop i).take (j - i)) := by
 obtain ⟨e, h1, h2⟩ := h.len
 subst e
 have c1 : (i : Int) ≤ (j : Int) := by omega
 have c2 : (j : Int) ≤ cap := by omega
 have c3 : (i : Int) ≤ cap := by omega
 have e : ((l.drop i).take (j - i)).length = j - i := by rw [List.length_take, List.length_drop]; omega
 refine ⟨if cap = i then p else p.map (·.add i), cap - i, fun w' => ?_, ?_⟩
 ·by_cases h0 : cap = i
  ·subst h0
   have : j = cap := by omega
   subst this
   go_simp
  ·have h0' : ¬ (cap = i) := h0
   cases p <;> go_simp
 ·refine ⟨_, cap - i, by rw [e], by rw [e]; omega, by omega, fun hn => ?_⟩
  rw [e] at hn
  obtain ⟨b, o, cap', hv, _⟩ := h.form (by omega)
  injection hv with e1 _ _
  subst e1
  rw [if_neg (by omega)]
  refine ⟨b, o + i, ?_, fun k x hk => ?_⟩
  ·show some ((⟨b, o, none⟩ : Addr).add i) = _
   unfold Addr.add; split <;> simp_all
  ·have hk' : l[i + k]? = some x := by
    have hkl : k < j - i := by
     rcases Nat.lt_or_ge k (j - i) with hh | hh
     ·exact hh
     ·rw [List.getElem?_eq_none (by rw [e]; exact hh)] at hk; cases hk
    rw [List.getElem?_take_of_lt hkl, List.getElem?_drop] at hk; exact hk
   rw [Nat.add_assoc]
   exact h.cell hk'
end
section
open Go Go.RowKit

theorem info_byte : (Tryz.prog.info? 5).map (fun i => (i.zero, i.size, i.bytes)) = some (some (.int .u8 0), 1, 1) := by kernel_rfl

def bc (l : List UInt8) : List Value := l.map fun b => Value.int .u8 (b.toNat : Nat)
theorem bc_len (l : List UInt8) : (bc l).length = l.length := by simp [bc]
theorem bc_app (l r : List UInt8) : bc (l ++ r) = bc l ++ bc r := by simp [bc]
theorem bc_one (l : List UInt8) : ∀ u ∈ bc l, u.oneCell' = true := by
 intro u hu
 obtain ⟨b, _, rfl⟩ := List.mem_map.1 hu
 rfl

theorem news_cells (w : World) (cs : List Value) (t : TypeId) : ∀ j u, cs[j]? = some u → (w.alloc (.cells cs.toArray t)).cell? ((⟨w.heap.size, 0, none⟩ : Addr).add j) = some u := by
 have h := World.news_of_block (w := w.alloc (.cells cs.toArray t)) (heap_alloc_new w _)
 exact fun j u hu => h j u (by simpa using hu)

theorem Bs.of_own {w : World} {base : Nat} {v : Value} {l : List UInt8} (h : w.ownsRow base 5 1 v l.length (bc l)) : Bs w v l := by
 rcases h.2 with ⟨rfl, h0⟩ | ⟨g, cap, cur, rfl, hb, hg, hn, hm, hs, ht⟩
 ·have : l = [] := List.eq_nil_of_length_eq_zero h0
  subst this
  exact ⟨none, 0, rfl, Nat.le_refl _, by omega, fun hn => by simp at hn⟩
 ·refine ⟨_, cap, rfl, hn, by unfold maxLen at hm; omega, fun _ => ⟨g, 0, rfl, fun j x hj => ?_⟩⟩
  have := h.cells (g := g) rfl j (.int .u8 (x.toNat : Nat)) (by simp [bc, hj])
  have hadd : (⟨g, 0, none⟩ : Addr).add j = ⟨g, 0 + j, none⟩ := by unfold Addr.add; split <;> simp_all
  rwa [hadd] at this
theorem own_text {w : World} {base : Nat} {v : Value} {l : List UInt8} (h : w.ownsRow base 5 1 v l.length (bc l)) :
  (convert 22 9 v).run Tryz.prog w = .ok (.string (ba l)) w := by
 have hb := Bs.of_own h
 obtain ⟨p, cap, rfl, _⟩ := id hb
 exact hb.text

theorem own_grow {w w1 : World} {base : Nat} {v v' : Value} {l news : List UInt8} {o : Obj} (hown : w.ownsRow base 5 1 v l.length (bc l)) (hb : base ≤ w.heap.size)
  (hown' : w1.ownsRow base 5 1 v' (l.length + news.length) (bc l ++ bc news)) (hgrow : (w.alloc o).grownBy w1 v.ownBlock) :
  w1.ownsRow base 5 1 v' (l ++ news).length (bc (l ++ news)) ∧ Below base w w1 := by
 refine ⟨by rw [List.length_append, bc_app]; exact hown', ?_⟩
 exact ((Below.refl _ _).alloc hb _).grown hgrow (by simp; omega) (fun j hj => (hown.lt j hj).1)

theorem own_grow_d {w w1 : World} {base : Nat} {v v' : Value} {l news : List UInt8} {o : Obj} (hown : w.ownsRow base 5 1 v l.length (bc l)) (hb : base ≤ w.heap.size)
  (hown' : w1.ownsRow base 5 1 v' (l.length + news.length) (bc l ++ bc news)) (hgrow : (w.alloc o).drew.grownBy w1 v.ownBlock) :
  w1.ownsRow base 5 1 v' (l ++ news).length (bc (l ++ news)) ∧ Below base w w1 := by
 refine ⟨by rw [List.length_append, bc_app]; exact hown', ?_⟩
 exact (((Below.refl _ _).alloc hb _).drew).grown hgrow (by simp; omega) (fun j hj => (hown.lt j hj).1)

theorem own_far {w w1 : World} {base : Nat} {v : Value} {n : Nat} {xs : List Value} {o : Obj} (hgrow : (w.alloc o).drew.grownBy w1 v.ownBlock) (hown : w.ownsRow base 5 1 v n xs) {b i : Nat} (hb : b < base) (hsz : base ≤ w.heap.size)
  {x : Value} (hc : w.cell? ⟨b, i, none⟩ = some x) : w1.cell? ⟨b, i, none⟩ = some x := by
 have h1 : (w.alloc o).cell? ⟨b, i, none⟩ = some x := by rw [World.cell?_alloc_lt w o ⟨b, i, none⟩ (by show b < _; omega)]; exact hc
 have h2 := World.cell?_of_block (a := ⟨b, i, none⟩) (hgrow.block b (by simp; omega) (fun e => by have := (hown.lt b e.symm).1; omega))
 exact h2.trans h1

def hxS (n : Nat) : UInt8 := if n < 10 then UInt8.ofNat (48 + n) else UInt8.ofNat (87 + n)
def escS (c : UInt8) : List UInt8 := if c = 34 ∨ c = 92 then [92, c] else if c.toNat < 32 ∨ 126 < c.toNat then [92, 120, hxS (c.toNat / 16), hxS (c.toNat % 16)] else [c]
def quoteS (l : List UInt8) : List UInt8 := 34 :: l.flatMap escS ++ [34]
def qK (l : List UInt8) (k : Nat) : List UInt8 := 34 :: (l.take k).flatMap escS
theorem escS_len (c : UInt8) : (escS c).length ≤ 4 := by unfold escS; split <;> (try split) <;> simp
theorem qK_len (l : List UInt8) : ∀ k, (qK l k).length ≤ 4 * k + 1
 | 0 => by simp [qK]
 | k + 1 => by
  have ih := qK_len l k
  unfold qK at ih ⊢
  rw [List.take_add_one, List.flatMap_append]
  cases h : l[k]? with
  | none => simp at ih ⊢; omega
  | some c => have := escS_len c; simp at ih ⊢; omega
theorem qK_zero (l : List UInt8) : qK l 0 = [34] := by simp [qK]
theorem qK_succ {l : List UInt8} {k : Nat} {c : UInt8} (h : l[k]? = some c) : qK l (k + 1) = qK l k ++ escS c := by
 unfold qK; rw [List.take_add_one, List.flatMap_append, h]; simp
theorem qK_all (l : List UInt8) : qK l l.length ++ [34] = quoteS l := by unfold qK quoteS; rw [List.take_length]
end
section
open Go Go.RowKit

theorem ba_bytes (l : List UInt8) : (ba l).data.toList = l := rfl
theorem ba_toList (l : List UInt8) : (ba l).toList = l := by rw [ByteArray.toList_eq]; rfl

theorem ret_s {a b : ByteArray} (h : a = b) : Ending.returned (.string a) = .returned (.string b) := by rw [h]
def wordB (k : Nat) : ByteArray := ba (wordsS.getD k [])
def wordsV : List Value := wordsS.map fun l => Value.string (ba l)
def Words (w : World) : Prop := w.rangeAt 4 0 wordsV
theorem Words.below {w w' : World} (h : Words w) (hb : Below w.heap.size w w') : Words w' := fun j v hv => by
 have h1 := h j v hv
 exact (hb.cell (World.block_lt_of_cell? w _ h1)).trans h1

theorem idx_word (w : World) : ∀ k : Nat, k < 22 → (Instr.index 185 (.agg wordsV.toArray) (.int .i64 (k : Nat))).run Tryz.prog w = .ok (.string (wordB k)) w
 | 0, _ => by kernel_rfl
 | 1, _ => by kernel_rfl
 | 2, _ => by kernel_rfl
 | 3, _ => by kernel_rfl
 | 4, _ => by kernel_rfl
 | 5, _ => by kernel_rfl
 | 6, _ => by kernel_rfl
 | 7, _ => by kernel_rfl
 | 8, _ => by kernel_rfl
 | 9, _ => by kernel_rfl
 | 10, _ => by kernel_rfl
 | 11, _ => by kernel_rfl
 | 12, _ => by kernel_rfl
 | 13, _ => by kernel_rfl
 | 14, _ => by kernel_rfl
 | 15, _ => by kernel_rfl
 | 16, _ => by kernel_rfl
 | 17, _ => by kernel_rfl
 | 18, _ => by kernel_rfl
 | 19, _ => by kernel_rfl
 | 20, _ => by kernel_rfl
 | 21, _ => by kernel_rfl
 | k + 22, h => by omega

theorem kFrom_step {k : Nat} (h : k < 22) (s : ByteArray) : kFrom (wordsS.drop k) (4 + k) s.data.toList = if ((wordB k).toList == s.toList) = true then 4 + k else kFrom (wordsS.drop (k + 1)) (4 + (k + 1)) s.data.toList := by
 have hk : k < wordsS.length := h
 rw [List.drop_eq_getElem_cons hk, kFrom]
 have e : wordsS[k] = wordsS.getD k [] := by simp [hk]
 unfold wordB
 rw [ba_toList, ← ByteArray.toList_eq, e]
 by_cases hc : wordsS.getD k [] = s.toList
 ·rw [if_pos hc, if_pos (by simpa using hc)]
 ·rw [if_neg hc, if_neg (by simpa using hc)]; rfl

set_option maxRecDepth 100000 in
set_option maxHeartbeats 1000000 in
theorem kind_any (s : ByteArray) (w : World) (hW : Words w) :
  Calls Tryz.prog 115 #[.string s] w fun e w' => e = .returned (.int .i64 (kindS s.data.toList : Nat)) ∧ w = w' := by
 have H0 := Lib.hid (show kindS s.data.toList = kFrom (wordsS.drop 0) (4 + 0) s.data.toList from rfl)
 have HS := Lib.hid (fun k h => kFrom_step (k := k) h s)
 generalize kindS s.data.toList = K at *
 go_enter Tryz.func115, Tryz.ntmps115
 go_wp2_with (refine wpList_load_mid rfl _ _ rfl 4 0 rfl wordsV _ hW Tryz.underlying185 rfl (by kernel_rfl) ?_)
 go_loop [3, 4, 6] (fun _ _ i => ∃ k : Nat, k ≤ 22 ∧ i = .int .i64 (k : Nat) ∧ Hid (K = kFrom (wordsS.drop k) (4 + k) s.data.toList)) (fun _ _ i => 22 - (intOf i).toNat)
 case atStart => exact ⟨0, by omega, rfl, H0⟩
 case round =>
  obtain ⟨k, hk, rfl, HK⟩ := hrel
  by_cases hlt : k < 22
  ·have hx := idx_word
   have hx : ∀ w, (Instr.index 185 (.agg wordsV.toArray) (.int .i64 (k : Nat))).run Tryz.prog w = .ok (.string (wordB k)) w := fun w => idx_word w k hlt
   have hs := HS.out k hlt
   cases he : ((wordB k).toList == s.toList)
   ·rw [he, if_neg (by simp)] at hs
    have HN : Hid (K = kFrom (wordsS.drop (k + 1)) (4 + (k + 1)) s.data.toList) := HK.out.trans hs
    clear hs
    go_wp2
    go_round
    case rel => exact ⟨k + 1, by omega, by go_num, HN⟩
    case measure => simp [intOf]; omega
   ·rw [he, if_pos rfl] at hs
    have HN : Hid (K = 4 + k) := HK.out.trans hs
    clear hs
    go_wp2
    go_ret
    exact ⟨ret_i (by rw [HN.out]; omega), rfl⟩
  ·have HN : Hid (K = 0) := by
    have : k = 22 := by omega
    subst this; exact HK.out
   go_wp2
   go_ret
   exact ⟨ret_i (by rw [HN.out]; rfl), rfl⟩

theorem textS_no {k : Int} (h : k < 4 ∨ 26 ≤ k) : textS k = [] := by
 unfold textS
 rcases h with h | h
 ·rw [if_pos h]
 ·rw [if_neg (by omega)]
  have : wordsS.length ≤ (k - 4).toNat := by show 22 ≤ _; omega
  simp [List.getD, List.getElem?_eq_none this]
theorem textS_in {k : Nat} (h : k < 22) : ba (textS ((k : Int) + 4)) = wordB k := by
 unfold textS wordB
 rw [if_neg (by omega), show ((k : Int) + 4 - 4).toNat = k by omega]
end
end Go.Proofs.YtbdllefnghddcaaGreatDoor
