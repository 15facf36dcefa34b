/- ROWS OF BYTES OF THE CALL's OWN; what Quote writes. -/
import Derived.Test.YtmbejmhnoeoohaaDoorScanBytes
import Derived.Deep.AppendLies
import Derived.Laws.OwnMore
import Derived.OwnWalk
namespace Go.Proofs.YtmbejmhnoeoohaaDoor
open Go Go.RowKit

theorem info_byte : (Tryd.prog.info? 5).map (fun i => (i.zero, i.size, i.bytes)) = some (some (.int .u8 0), 1, 1) := by kernel_rfl

/-- bytes as cells -/
def bc (l : List UInt8) : List Value := l.map fun b => Value.int .u8 (b.toNat : Nat)
theorem bc_len (l : List UInt8) : (bc l).length = l.length := by simp [bc]
theorem bc_app (l r : List UInt8) : bc (l ++ r) = bc l ++ bc r := by simp [bc]
theorem bc_one (l : List UInt8) : ∀ u ∈ bc l, u.oneCell' = true := by
  intro u hu
  obtain ⟨b, _, rfl⟩ := List.mem_map.1 hu
  rfl

theorem news_cells (w : World) (cs : List Value) (t : TypeId) : ∀ j u, cs[j]? = some u → (w.alloc (.cells cs.toArray t)).cell? ((⟨w.heap.size, 0, none⟩ : Addr).add j) = some u := by
  have h := World.news_of_block (w := w.alloc (.cells cs.toArray t)) (heap_alloc_new w _)
  exact fun j u hu => h j u (by simpa using hu)

/-- a row of bytes of the call's own reads so -/
theorem Bs.of_own {w : World} {base : Nat} {v : Value} {l : List UInt8} (h : w.ownsRow base 5 1 v l.length (bc l)) : Bs w v l := by
  rcases h.2 with ⟨rfl, h0⟩ | ⟨g, cap, cur, rfl, hb, hg, hn, hm, hs, ht⟩
  · have : l = [] := List.eq_nil_of_length_eq_zero h0
    subst this
    exact ⟨none, 0, rfl, Nat.le_refl _, by omega, fun hn => by simp at hn⟩
  · refine ⟨_, cap, rfl, hn, by unfold maxLen at hm; omega, fun _ => ⟨g, 0, rfl, fun j x hj => ?_⟩⟩
    have := h.cells (g := g) rfl j (.int .u8 (x.toNat : Nat)) (by simp [bc, hj])
    have hadd : (⟨g, 0, none⟩ : Addr).add j = ⟨g, 0 + j, none⟩ := by unfold Addr.add; split <;> simp_all
    rwa [hadd] at this
/-- .. turned into a text -/
theorem own_text {w : World} {base : Nat} {v : Value} {l : List UInt8} (h : w.ownsRow base 5 1 v l.length (bc l)) :
    (convert 22 9 v).run Tryd.prog w = .ok (.string (ba l)) w := by
  have hb := Bs.of_own h
  obtain ⟨p, cap, rfl, _⟩ := id hb
  exact hb.text

/-- 'append(own, news..)' out of a new literal, as the walk meets it -/
theorem own_grow {w w1 : World} {base : Nat} {v v' : Value} {l news : List UInt8} {o : Obj} (hown : w.ownsRow base 5 1 v l.length (bc l)) (hb : base ≤ w.heap.size)
    (hown' : w1.ownsRow base 5 1 v' (l.length + news.length) (bc l ++ bc news)) (hgrow : (w.alloc o).grownBy w1 v.ownBlock) :
    w1.ownsRow base 5 1 v' (l ++ news).length (bc (l ++ news)) ∧ Below base w w1 := by
  refine ⟨by rw [List.length_append, bc_app]; exact hown', ?_⟩
  exact ((Below.refl _ _).alloc hb _).grown hgrow (by simp; omega) (fun j hj => (hown.lt j hj).1)

theorem own_grow_d {w w1 : World} {base : Nat} {v v' : Value} {l news : List UInt8} {o : Obj} (hown : w.ownsRow base 5 1 v l.length (bc l)) (hb : base ≤ w.heap.size)
    (hown' : w1.ownsRow base 5 1 v' (l.length + news.length) (bc l ++ bc news)) (hgrow : (w.alloc o).drew.grownBy w1 v.ownBlock) :
    w1.ownsRow base 5 1 v' (l ++ news).length (bc (l ++ news)) ∧ Below base w w1 := by
  refine ⟨by rw [List.length_append, bc_app]; exact hown', ?_⟩
  exact (((Below.refl _ _).alloc hb _).drew).grown hgrow (by simp; omega) (fun j hj => (hown.lt j hj).1)

/-- what lay below the row is as it was -/
theorem own_far {w w1 : World} {base : Nat} {v : Value} {n : Nat} {xs : List Value} {o : Obj} (hgrow : (w.alloc o).drew.grownBy w1 v.ownBlock) (hown : w.ownsRow base 5 1 v n xs) {b i : Nat} (hb : b < base) (hsz : base ≤ w.heap.size)
    {x : Value} (hc : w.cell? ⟨b, i, none⟩ = some x) : w1.cell? ⟨b, i, none⟩ = some x := by
  have h1 : (w.alloc o).cell? ⟨b, i, none⟩ = some x := by rw [World.cell?_alloc_lt w o ⟨b, i, none⟩ (by show b < _; omega)]; exact hc
  have h2 := World.cell?_of_block (a := ⟨b, i, none⟩) (hgrow.block b (by simp; omega) (fun e => by have := (hown.lt b e.symm).1; omega))
  exact h2.trans h1

/-- a hexadecimal digit -/
def hxS (n : Nat) : UInt8 := if n < 10 then UInt8.ofNat (48 + n) else UInt8.ofNat (87 + n)
/-- a byte as it stands in a quoted text -/
def escS (c : UInt8) : List UInt8 := if c = 34 ∨ c = 92 then [92, c] else if c.toNat < 32 ∨ 126 < c.toNat then [92, 120, hxS (c.toNat / 16), hxS (c.toNat % 16)] else [c]
def quoteS (l : List UInt8) : List UInt8 := 34 :: l.flatMap escS ++ [34]
def qK (l : List UInt8) (k : Nat) : List UInt8 := 34 :: (l.take k).flatMap escS
theorem escS_len (c : UInt8) : (escS c).length ≤ 4 := by unfold escS; split <;> (try split) <;> simp
theorem qK_len (l : List UInt8) : ∀ k, (qK l k).length ≤ 4 * k + 1
  | 0 => by simp [qK]
  | k + 1 => by
    have ih := qK_len l k
    unfold qK at ih ⊢
    rw [List.take_add_one, List.flatMap_append]
    cases h : l[k]? with
    | none => simp at ih ⊢; omega
    | some c => have := escS_len c; simp at ih ⊢; omega
theorem qK_zero (l : List UInt8) : qK l 0 = [34] := by simp [qK]
theorem qK_succ {l : List UInt8} {k : Nat} {c : UInt8} (h : l[k]? = some c) : qK l (k + 1) = qK l k ++ escS c := by
  unfold qK; rw [List.take_add_one, List.flatMap_append, h]; simp
theorem qK_all (l : List UInt8) : qK l l.length ++ [34] = quoteS l := by unfold qK quoteS; rw [List.take_length]
end Go.Proofs.YtmbejmhnoeoohaaDoor
