/- PARSE: what a tree weighs, and how long its print is at most, in plain Lean. -/
import Derived.Lib.ItoaLen
import Derived.Test.YtbdllefnghddcaaGreatDoorParsePrT
namespace Go.Proofs.YtbdllefnghddcaaGreatDoor
section
open List (length_append length_cons)
open Go

def wgL {α : Type} (f : α → Nat) : List α → Nat
 | [] => 0
 | x :: r => f x + wgL f r
theorem wgL_mem {α : Type} {f : α → Nat} : ∀ {l : List α} {x : α}, x ∈ l → f x ≤ wgL f l
 | y :: r, x, h => by
  rw [wgL]
  rcases List.mem_cons.1 h with rfl | h
  ·omega
  ·have := wgL_mem (f := f) h; omega
theorem wgL_len {α : Type} {f : α → Nat} (h1 : ∀ x, 1 ≤ f x) : ∀ l : List α, l.length ≤ wgL f l
 | [] => Nat.le_refl _
 | x :: r => by
  have := wgL_len h1 r
  have := h1 x
  simp only [wgL, length_cons]; omega
theorem flat_wg {α : Type} {f : α → Nat} {g : α → List UInt8} {c : Nat} : ∀ l : List α, (∀ x ∈ l, (g x).length ≤ c * f x) → ((l.map g).flatten).length ≤ c * wgL f l
 | [], _ => by simp [wgL]
 | x :: r, h => by
  have h1 := flat_wg r fun y hy => h y (List.mem_cons_of_mem _ hy)
  have h2 := h x (List.mem_cons_self ..)
  rw [List.map_cons, List.flatten_cons, length_append, wgL, Nat.mul_add]; omega
def Us.wg (u : Us) : Nat := u.name.size + 1
def CoreT.wg (c : CoreT) : Nat := c.word.size + 1 + wgL Us.wg c.caps
def WrapT.wg (x : WrapT) : Nat := x.word.size + x.sub.size + 1 + x.nums.length + wgL Us.wg x.caps + cntW x.want
def HandT.wg (d : HandT) : Nat := d.name.size + d.of_.name.size + 1 + d.core.wg + wgL WrapT.wg d.wraps + d.drop.name.size + wgL Us.wg d.after
def RouteT.wg (r : RouteT) : Nat := r.filter.name.size + r.to.name.size + 1 + cntW r.want
def TreeT.wg (t : TreeT) : Nat := wgL HandT.wg t.hands + wgL RouteT.wg t.routes
theorem bs_len (s : ByteArray) : (bs s).length = s.size := by simp [bs]
theorem dig_len {n : Int} (h : NmN n) : (digW n).length ≤ 20 := by
 obtain ⟨u, rfl⟩ : ∃ u : Nat, n = u := ⟨n.toNat, by have := h.1; omega⟩
 unfold digW
 rw [Lib.itoa_nonneg, Lib.decDigits_length]
 exact Lib.nDigits_le20 u (by have := h.2; omega)
theorem moreB_len : ∀ (us : List Us) (b : Bool), (moreB b us).length ≤ 2 * wgL Us.wg us
 | [], _ => by simp [moreB]
 | u :: us, b => by
  have := moreB_len us false
  have h2 := bs_len u.name
  simp only [moreB, wgL, Us.wg, length_append, h2]
  cases b <;> simp [commaB] <;> omega
theorem uses_len (us : List Us) : (usesB us).length ≤ 2 * wgL Us.wg us := by rw [usesB_more]; exact moreB_len us true
theorem caps_len (us : List Us) : (capsB us).length ≤ 6 + 2 * wgL Us.wg us := by
 have := uses_len us
 unfold capsB
 split
 ·simp
 ·simp [spsB, spB]; omega
theorem core_len {c : CoreT} (h : NmN c.num) : (coreW c).length ≤ 40 * c.wg := by
 have h1 := dig_len h
 have h2 := caps_len c.caps
 have h3 := bs_len c.word
 unfold coreW CoreT.wg
 rw [length_append, length_append]
 have : (spsB [bs c.word]).length = 1 + c.word.size := by simp [spsB, spB]; omega
 have : (if c.has = true then spsB [(if c.minus = true then [45] else []) ++ digW c.num] else []).length ≤ 22 := by
  split
  ·split <;> simp [spsB, spB] <;> omega
  ·simp
 omega
theorem when_len (b : Bool) (t : Wt) : (whenW b t).length ≤ 6 + 15 * cntW t := by
 have := wrW_len t
 unfold whenW
 split
 ·simp [spsB, spB]; omega
 ·simp
theorem wrap_len {x : WrapT} (h : NmW x) : (wrapW x).length ≤ 40 * x.wg := by
 have h1 : ((x.nums.map fun n => spsB [digW n]).flatten).length ≤ 21 * wgL (fun _ : Int => 1) x.nums := flat_wg x.nums fun n hn => by
  have := dig_len (h.1 n hn)
  simp [spsB, spB]; omega
 have h2 : wgL (fun _ : Int => 1) x.nums = x.nums.length := by
  induction x.nums with
  | nil => rfl
  | cons a r ih => simp only [wgL, ih, length_cons]; omega
 have h3 := caps_len x.caps
 have h4 := when_len x.when_ x.want
 have h5 := bs_len x.word
 have h6 := bs_len x.sub
 have h7 := cntW_pos x.want
 unfold wrapW WrapT.wg
 simp only [length_append]
 have e1 : (spsB [[119, 105, 116, 104]]).length = 5 := rfl
 have e2 : (if x.opn = true then spsB [[111, 112, 101, 110]] else []).length ≤ 5 := by split <;> simp [spsB, spB]
 have e3 : (spsB [subB x]).length ≤ 2 + x.word.size + x.sub.size := by
  unfold subB
  split <;> simp [spsB, spB] <;> omega
 omega
theorem hand_len {d : HandT} (h : NmH d) : (handW d).length ≤ 80 * d.wg := by
 have h1 := core_len h.1
 have h2 : ((d.wraps.map wrapW).flatten).length ≤ 40 * wgL WrapT.wg d.wraps := flat_wg d.wraps fun x hx => wrap_len (h.2.2.1 x hx)
 have h3 := dig_len h.2.2.2.1
 have h4 := uses_len d.after
 have h5 := bs_len d.name
 have h6 := bs_len d.of_.name
 have h7 := bs_len d.drop.name
 unfold handW HandT.wg
 simp only [length_append]
 have e1 : (if d.of_.name.size = 0 then coreW d.core else spsB [[111, 102], bs d.of_.name]).length ≤ 40 * d.core.wg + 4 + d.of_.name.size := by
  split
  ·omega
  ·simp [spsB, spB]; omega
 have e2 : (roomW d).length ≤ 40 + d.drop.name.size := by
  unfold roomW
  split
  ·split <;> simp [spsB, spB] <;> omega
  ·simp
 have e3 : (afterW d.after).length ≤ 8 + 2 * wgL Us.wg d.after := by
  unfold afterW
  split
  ·simp
  ·simp [spsB, spB]; omega
 simp only [length_cons, List.length_nil]
 omega
theorem route_len (r : RouteT) : (routeW r).length ≤ 80 * r.wg := by
 have h1 : (quoteS (bs r.filter.name)).length ≤ 4 * r.filter.name.size + 2 := by
  have h : ((bs r.filter.name).flatMap escS).length ≤ 4 * (bs r.filter.name).length := by
   induction bs r.filter.name with
   | nil => simp
   | cons c l ih =>
    have := escS_len c
    rw [List.flatMap_cons, length_append, length_cons]; omega
  have h2 := bs_len r.filter.name
  unfold quoteS
  rw [length_append, length_cons, List.length_singleton]; omega
 have h2 := when_len r.when_ r.want
 have h3 := bs_len r.to.name
 unfold routeW RouteT.wg
 simp only [length_append]
 have e1 : (if r.els = true then spsB [[101, 108, 115, 101]] else []).length ≤ 5 := by split <;> simp [spsB, spB]
 have e2 : (spsB [[45, 62], bs r.to.name]).length = 4 + r.to.name.size := by simp [spsB, spB]; omega
 simp only [length_cons, List.length_nil]
 omega
theorem print_len {t : TreeT} (h : NmT t) : (printW t).length ≤ 80 * t.wg := by
 have h1 : ((t.hands.map handW).flatten).length ≤ 80 * wgL HandT.wg t.hands := flat_wg t.hands fun d hd => hand_len (h d hd)
 have h2 : ((t.routes.map routeW).flatten).length ≤ 80 * wgL RouteT.wg t.routes := flat_wg t.routes fun r _ => route_len r
 unfold printW TreeT.wg
 rw [length_append]; omega
end
end Go.Proofs.YtbdllefnghddcaaGreatDoor
