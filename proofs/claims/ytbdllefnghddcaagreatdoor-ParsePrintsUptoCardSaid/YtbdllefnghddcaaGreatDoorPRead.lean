/- PARSE: what a tree weighs, and how long its print is at most, in plain Lean. PARSE: the arguments opened: trees and patterns. -/
import Derived.Lib.ItoaLen
import Derived.Test.YtbdllefnghddcaaGreatDoorParsePrT
import Derived.Test.YtbdllefnghddcaaGreatDoorPFlat
namespace Go.Proofs.YtbdllefnghddcaaGreatDoor
section
open List (length_append length_cons)
open Go

def wgL {α : Type} (f : α → Nat) : List α → Nat
 | [] => 0
 | x :: r => f x + wgL f r
theorem wgL_mem {α : Type} {f : α → Nat} : ∀ {l : List α} {x : α}, x ∈ l → f x ≤ wgL f l
 | y :: r, x, h => by
  rw [wgL]
  rcases List.mem_cons.1 h with rfl | h
  ·omega
  ·have := wgL_mem (f := f) h; omega
theorem wgL_len {α : Type} {f : α → Nat} (h1 : ∀ x, 1 ≤ f x) : ∀ l : List α, l.length ≤ wgL f l
 | [] => Nat.le_refl _
 | x :: r => by
  have := wgL_len h1 r
  have := h1 x
  simp only [wgL, length_cons]; omega
theorem flat_wg {α : Type} {f : α → Nat} {g : α → List UInt8} {c : Nat} : ∀ l : List α, (∀ x ∈ l, (g x).length ≤ c * f x) → ((l.map g).flatten).length ≤ c * wgL f l
 | [], _ => by simp [wgL]
 | x :: r, h => by
  have h1 := flat_wg r fun y hy => h y (List.mem_cons_of_mem _ hy)
  have h2 := h x (List.mem_cons_self ..)
  rw [List.map_cons, List.flatten_cons, length_append, wgL, Nat.mul_add]; omega
def Us.wg (u : Us) : Nat := u.name.size + 1
def CoreT.wg (c : CoreT) : Nat := c.word.size + 1 + wgL Us.wg c.caps
def WrapT.wg (x : WrapT) : Nat := x.word.size + x.sub.size + 1 + x.nums.length + wgL Us.wg x.caps + cntW x.want
def HandT.wg (d : HandT) : Nat := d.name.size + d.of_.name.size + 1 + d.core.wg + wgL WrapT.wg d.wraps + d.drop.name.size + wgL Us.wg d.after
def RouteT.wg (r : RouteT) : Nat := r.filter.name.size + r.to.name.size + 1 + cntW r.want
def TreeT.wg (t : TreeT) : Nat := wgL HandT.wg t.hands + wgL RouteT.wg t.routes
theorem bs_len (s : ByteArray) : (bs s).length = s.size := by simp [bs]
theorem dig_len {n : Int} (h : NmN n) : (digW n).length ≤ 20 := by
 obtain ⟨u, rfl⟩ : ∃ u : Nat, n = u := ⟨n.toNat, by have := h.1; omega⟩
 unfold digW
 rw [Lib.itoa_nonneg, Lib.decDigits_length]
 exact Lib.nDigits_le20 u (by have := h.2; omega)
theorem moreB_len : ∀ (us : List Us) (b : Bool), (moreB b us).length ≤ 2 * wgL Us.wg us
 | [], _ => by simp [moreB]
 | u :: us, b => by
  have := moreB_len us false
  have h2 := bs_len u.name
  simp only [moreB, wgL, Us.wg, length_append, h2]
  cases b <;> simp [commaB] <;> omega
theorem uses_len (us : List Us) : (usesB us).length ≤ 2 * wgL Us.wg us := by rw [usesB_more]; exact moreB_len us true
theorem caps_len (us : List Us) : (capsB us).length ≤ 6 + 2 * wgL Us.wg us := by
 have := uses_len us
 unfold capsB
 split
 ·simp
 ·simp [spsB, spB]; omega
theorem core_len {c : CoreT} (h : NmN c.num) : (coreW c).length ≤ 40 * c.wg := by
 have h1 := dig_len h
 have h2 := caps_len c.caps
 have h3 := bs_len c.word
 unfold coreW CoreT.wg
 rw [length_append, length_append]
 have : (spsB [bs c.word]).length = 1 + c.word.size := by simp [spsB, spB]; omega
 have : (if c.has = true then spsB [(if c.minus = true then [45] else []) ++ digW c.num] else []).length ≤ 22 := by
  split
  ·split <;> simp [spsB, spB] <;> omega
  ·simp
 omega
theorem when_len (b : Bool) (t : Wt) : (whenW b t).length ≤ 6 + 15 * cntW t := by
 have := wrW_len t
 unfold whenW
 split
 ·simp [spsB, spB]; omega
 ·simp
theorem wrap_len {x : WrapT} (h : NmW x) : (wrapW x).length ≤ 40 * x.wg := by
 have h1 : ((x.nums.map fun n => spsB [digW n]).flatten).length ≤ 21 * wgL (fun _ : Int => 1) x.nums := flat_wg x.nums fun n hn => by
  have := dig_len (h.1 n hn)
  simp [spsB, spB]; omega
 have h2 : wgL (fun _ : Int => 1) x.nums = x.nums.length := by
  induction x.nums with
  | nil => rfl
  | cons a r ih => simp only [wgL, ih, length_cons]; omega
 have h3 := caps_len x.caps
 have h4 := when_len x.when_ x.want
 have h5 := bs_len x.word
 have h6 := bs_len x.sub
 have h7 := cntW_pos x.want
 unfold wrapW WrapT.wg
 simp only [length_append]
 have e1 : (spsB [[119, 105, 116, 104]]).length = 5 := rfl
 have e2 : (if x.opn = true then spsB [[111, 112, 101, 110]] else []).length ≤ 5 := by split <;> simp [spsB, spB]
 have e3 : (spsB [subB x]).length ≤ 2 + x.word.size + x.sub.size := by
  unfold subB
  split <;> simp [spsB, spB] <;> omega
 omega
theorem hand_len {d : HandT} (h : NmH d) : (handW d).length ≤ 80 * d.wg := by
 have h1 := core_len h.1
 have h2 : ((d.wraps.map wrapW).flatten).length ≤ 40 * wgL WrapT.wg d.wraps := flat_wg d.wraps fun x hx => wrap_len (h.2.2.1 x hx)
 have h3 := dig_len h.2.2.2.1
 have h4 := uses_len d.after
 have h5 := bs_len d.name
 have h6 := bs_len d.of_.name
 have h7 := bs_len d.drop.name
 unfold handW HandT.wg
 simp only [length_append]
 have e1 : (if d.of_.name.size = 0 then coreW d.core else spsB [[111, 102], bs d.of_.name]).length ≤ 40 * d.core.wg + 4 + d.of_.name.size := by
  split
  ·omega
  ·simp [spsB, spB]; omega
 have e2 : (roomW d).length ≤ 40 + d.drop.name.size := by
  unfold roomW
  split
  ·split <;> simp [spsB, spB] <;> omega
  ·simp
 have e3 : (afterW d.after).length ≤ 8 + 2 * wgL Us.wg d.after := by
  unfold afterW
  split
  ·simp
  ·simp [spsB, spB]; omega
 simp only [length_cons, List.length_nil]
 omega
theorem route_len (r : RouteT) : (routeW r).length ≤ 80 * r.wg := by
 have h1 : (quoteS (bs r.filter.name)).length ≤ 4 * r.filter.name.size + 2 := by
  have h : ((bs r.filter.name).flatMap escS).length ≤ 4 * (bs r.filter.name).length := by
   induction bs r.filter.name with
   | nil => simp
   | cons c l ih =>
    have := escS_len c
    rw [List.flatMap_cons, length_append, length_cons]; omega
  have h2 := bs_len r.filter.name
  unfold quoteS
  rw [length_append, length_cons, List.length_singleton]; omega
 have h2 := when_len r.when_ r.want
 have h3 := bs_len r.to.name
 unfold routeW RouteT.wg
 simp only [length_append]
 have e1 : (if r.els = true then spsB [[101, 108, 115, 101]] else []).length ≤ 5 := by split <;> simp [spsB, spB]
 have e2 : (spsB [[45, 62], bs r.to.name]).length = 4 + r.to.name.size := by simp [spsB, spB]; omega
 simp only [length_cons, List.length_nil]
 omega
theorem print_len {t : TreeT} (h : NmT t) : (printW t).length ≤ 80 * t.wg := by
 have h1 : ((t.hands.map handW).flatten).length ≤ 80 * wgL HandT.wg t.hands := flat_wg t.hands fun d hd => hand_len (h d hd)
 have h2 : ((t.routes.map routeW).flatten).length ≤ 80 * wgL RouteT.wg t.routes := flat_wg t.routes fun r _ => route_len r
 unfold printW TreeT.wg
 rw [length_append]; omega
end
section
open List (map_cons map_nil)
set_option maxRecDepth 100000
open Go Go.ChangeShapes Go.WideShapes Go.ChangeAt Go.RowKit Go.Deep

theorem co_int : Tryz.prog.cellsOf 3 = 1 := by kernel_rfl
theorem co_uint64 : Tryz.prog.cellsOf 75 = 1 := by kernel_rfl
theorem co_string : Tryz.prog.cellsOf 9 = 1 := by kernel_rfl
theorem co_bool : Tryz.prog.cellsOf 4 = 1 := by kernel_rfl
theorem co_slWant : Tryz.prog.cellsOf 39 = 1 := by kernel_rfl
theorem co_Want : Tryz.prog.cellsOf 41 = 3 := by kernel_rfl
theorem co_Use : Tryz.prog.cellsOf 74 = 2 := by kernel_rfl
theorem co_slUse : Tryz.prog.cellsOf 76 = 1 := by kernel_rfl
theorem co_sluint64 : Tryz.prog.cellsOf 88 = 1 := by kernel_rfl
theorem co_CoreDecl : Tryz.prog.cellsOf 78 = 6 := by kernel_rfl
theorem co_WrapDecl : Tryz.prog.cellsOf 90 = 10 := by kernel_rfl
theorem co_slWrapDecl : Tryz.prog.cellsOf 79 = 1 := by kernel_rfl
theorem co_HandlerDecl : Tryz.prog.cellsOf 81 = 16 := by kernel_rfl
theorem co_slHandlerDecl : Tryz.prog.cellsOf 23 = 1 := by kernel_rfl
theorem co_RouteDecl : Tryz.prog.cellsOf 84 = 10 := by kernel_rfl
theorem co_slRouteDecl : Tryz.prog.cellsOf 24 = 1 := by kernel_rfl
theorem co_Tree : Tryz.prog.cellsOf 26 = 2 := by kernel_rfl
theorem Fl.toP {w : World} {k n : Nat} {v : Value} {cs : List Value} (h : Fl w k v n cs) (hk : 0 < k) : FlP All w k v n cs := by
 obtain ⟨h0, p, cap, rfl, h1, h2, h3⟩ := h
 refine ⟨h0, p, cap, rfl, h1, h2, fun hn => ?_⟩
 rcases h3 with h3 | ⟨b, o, rfl, hc⟩
 ·omega
 ·have hpos : 0 < cs.length := by rw [h0]; exact Nat.mul_pos hn hk
  obtain ⟨u, hu⟩ : ∃ u, cs[0]? = some u := ⟨_, List.getElem?_eq_getElem hpos⟩
  exact ⟨b, o, trivial, World.block_lt_of_cell? w _ (hc 0 u hu), rfl, hc⟩
section
variable {H : Type} {enc_ : TypeId × Value → H} {w : World} {spare : Nat → Bool} {held : Bool} {base : Nat}
theorem rd_els {α : Type} {n k : Nat} {e : TypeId} (R : List Value → α → Prop) (wt : α → Nat) (B : Nat) (hR : ∀ cs x, cs.length = k → Rows.uptoBulk x.1 ≤ B → DataW.trod enc_ Tryz.prog w base spare held n e cs = some x → ∃ a, R cs a ∧ wt a ≤ Rows.uptoBulk x.1) :
  ∀ ys : List (List Value × (DataW H × List MemPlace)), (∀ y ∈ ys, y.1.length = k ∧ DataW.trod enc_ Tryz.prog w base spare held n e y.1 = some y.2) → Rows.uptoBulkAll (ys.map (·.2.1)) ≤ B →
   ∃ l : List α, l.length = ys.length ∧ (∀ (j : Nat) (cs : List Value) (a : α), (ys.map (·.1))[j]? = some cs → l[j]? = some a → R cs a) ∧ wgL wt l ≤ Rows.uptoBulkAll (ys.map (·.2.1))
 | [], _, _ => ⟨[], rfl, fun j cs a h => by simp at h, Nat.zero_le _⟩
 | y :: ys, h, hB => by
  simp only [map_cons, Rows.uptoBulkAll] at hB
  obtain ⟨l, h1, h2, h3⟩ := rd_els R wt B hR ys (fun z hz => h z (List.mem_cons_of_mem _ hz)) (by omega)
  obtain ⟨hl, ht⟩ := h y (List.mem_cons_self ..)
  obtain ⟨a, ha, hw⟩ := hR _ _ hl (by omega) ht
  refine ⟨a :: l, by simp [h1], fun j cs b hj hb => ?_, ?_⟩
  ·cases j with
   | zero =>
    simp only [map_cons, List.getElem?_cons_zero, Option.some.injEq] at hj hb
    subst hj; subst hb
    exact ha
   | succ j => exact h2 j cs b (by simpa using hj) (by simpa using hb)
  ·simp only [map_cons, Rows.uptoBulkAll, wgL]; omega
theorem rd_listP {α : Type} {fuel k : Nat} {t e : TypeId} {c : Value} {x : DataW H × List MemPlace} (R : Nat → List Value → α → Prop) (wt : α → Nat) (ht : Tryz.prog.underlying t = some (.slice e)) (hk : Tryz.prog.cellsOf e = k) (hk0 : 0 < k)
  (hR : ∀ n cs y, n + 1 = fuel → cs.length = k → Rows.uptoBulk y.1 ≤ Rows.uptoBulk x.1 → DataW.trod enc_ Tryz.prog w base spare held n e cs = some y → ∃ a, R n cs a ∧ wt a ≤ Rows.uptoBulk y.1) (h : DataW.trod enc_ Tryz.prog w base spare held fuel t [c] = some x) :
  ∃ (n : Nat) (l : List α), fuel = n + 1 ∧ ListP All w k (R n) c l ∧ wgL wt l + 1 ≤ Rows.uptoBulk x.1 := by
 obtain ⟨n, ys, rfl, hfl, hel, hsum⟩ := rd_flat ht hk hk0 h
 obtain ⟨l, h1, h2, h3⟩ := rd_els (R n) wt (Rows.uptoBulk x.1) (fun cs y => hR n cs y rfl) ys hel (by omega)
 refine ⟨n, l, rfl, ⟨ys.map (·.1), by simp [h1], by rw [h1]; exact hfl.toP hk0, fun cs hcs => ?_, h2⟩, by omega⟩
 obtain ⟨y, hy, rfl⟩ := List.mem_map.1 hcs
 exact (hel y hy).1
theorem rd_u64 {fuel : Nat} {c : Value} {x : DataW H × List MemPlace} (h : DataW.trod enc_ Tryz.prog w base spare held fuel 75 [c] = some x) : ∃ n : Int, c = .int .u64 n ∧ NmN n := by
 obtain ⟨z, rfl, hz⟩ := rd_int Tryz.underlying75 h
 refine ⟨z, rfl, ?_⟩
 simp [Lit.wf] at hz
 have e1 : IntKind.u64.min = 0 := rfl
 have e2 : IntKind.u64.max = 18446744073709551615 := rfl
 exact ⟨by omega, by omega⟩
theorem rd_use {fuel : Nat} {cs : List Value} {x : DataW H × List MemPlace} (h : DataW.trod enc_ Tryz.prog w base spare held fuel 74 cs = some x) : ∃ u : Us, cs = u.cells ∧ u.wg ≤ Rows.uptoBulk x.1 := by
 obtain ⟨hlen, m, hm, xs, hxl, hbk, hf⟩ := rd_struct' Tryz.underlying74 h
 rw [co_Use] at hlen
 match xs, (show xs.length = 2 from hxl) with
 | [y0, y1], _ =>
 match cs, hlen with
 | [c0, c1], _ =>
  obtain ⟨_, e0, Q0⟩ := hf 0 _ rfl
  injection e0 with e0
  subst e0
  have q0 : DataW.trod enc_ Tryz.prog w base spare held m 9 [c0] = some y0 := Q0 1 co_string
  clear Q0
  obtain ⟨_, e1, Q1⟩ := hf 1 _ rfl
  injection e1 with e1
  subst e1
  have q1 : DataW.trod enc_ Tryz.prog w base spare held m 3 [c1] = some y1 := Q1 1 co_int
  clear Q1
  clear hf hxl
  simp only [map_cons, map_nil, Rows.uptoBulkAll] at hbk
  obtain ⟨s, rfl, hs⟩ := rd_string' Tryz.underlying9 q0
  obtain ⟨z, rfl, -⟩ := rd_int Tryz.underlying3 q1
  exact ⟨⟨s, z⟩, rfl, by unfold Us.wg; show s.size + 1 ≤ _; omega⟩
theorem rd_uses {fuel : Nat} {c : Value} {x : DataW H × List MemPlace} (h : DataW.trod enc_ Tryz.prog w base spare held fuel 76 [c] = some x) : ∃ us : List Us, UsP All w c us ∧ wgL Us.wg us + 1 ≤ Rows.uptoBulk x.1 := by
 obtain ⟨n, us, -, ⟨css, h1, h2, h3, h4⟩, h5⟩ := rd_listP (fun _ cs u => cs = Us.cells u) Us.wg Tryz.underlying76 co_Use (by decide) (fun n cs x _ _ _ => rd_use) h
 refine ⟨us, ?_, h5⟩
 have e : css.flatten = us.flatMap Us.cells := by
  have e2 : css = us.map Us.cells := by
   apply List.ext_getElem?
   intro j
   rw [List.getElem?_map]
   by_cases hj : j < css.length
   ·have hj2 : j < us.length := by omega
    rw [List.getElem?_eq_getElem hj, List.getElem?_eq_getElem hj2]
    exact congrArg some (h4 j _ _ (List.getElem?_eq_getElem hj) (List.getElem?_eq_getElem hj2))
   ·rw [List.getElem?_eq_none (by omega), List.getElem?_eq_none (by omega)]; rfl
  rw [e2, List.flatMap_def]
 unfold UsP
 rw [← e]
 exact h2
theorem flat_one {α β : Type} (f : α → β) : ∀ l : List α, (l.flatMap fun u => [f u]) = l.map f
 | [] => rfl
 | a :: r => by rw [List.flatMap_cons, flat_one f r]; rfl
theorem rd_nums {fuel : Nat} {c : Value} {x : DataW H × List MemPlace} (h : DataW.trod enc_ Tryz.prog w base spare held fuel 88 [c] = some x) : ∃ ns : List Int, NumsP All w c ns ∧ (∀ n ∈ ns, NmN n) ∧ ns.length + 1 ≤ Rows.uptoBulk x.1 := by
 obtain ⟨n, us, -, ⟨css, h1, h2, h3, h4⟩, h5⟩ := rd_listP (fun _ cs (u : Int) => cs = [Value.int .u64 u] ∧ NmN u) (fun _ => 1) Tryz.underlying88 co_uint64 (by decide) (fun n cs x _ hl _ hx => by
  match cs, hl with
  | [c], _ =>
   obtain ⟨u, rfl, hu⟩ := rd_u64 hx
   exact ⟨u, ⟨rfl, hu⟩, bulk_one _⟩) h
 refine ⟨us, ?_, fun n hn => ?_, by have := wgL_len (f := fun _ : Int => 1) (fun _ => Nat.le_refl _) us; omega⟩
 ·have e : css.flatten = us.map (Value.int .u64) := by
   have e2 : css = us.map fun u => [Value.int .u64 u] := by
    apply List.ext_getElem?
    intro j
    rw [List.getElem?_map]
    by_cases hj : j < css.length
    ·have hj2 : j < us.length := by omega
     rw [List.getElem?_eq_getElem hj, List.getElem?_eq_getElem hj2]
     exact congrArg some (h4 j _ _ (List.getElem?_eq_getElem hj) (List.getElem?_eq_getElem hj2)).1
    ·rw [List.getElem?_eq_none (by omega), List.getElem?_eq_none (by omega)]; rfl
   rw [e2, ← List.flatMap_def]
   exact flat_one _ us
  unfold NumsP
  rw [← e]
  exact h2
 ·obtain ⟨j, hj⟩ := List.getElem?_of_mem hn
  have hj2 := (List.getElem?_eq_some_iff.1 hj).1
  exact (h4 j _ _ (List.getElem?_eq_getElem (by omega : j < css.length)) hj).2
theorem cntL_wg : ∀ l : List Wt, cntL l = wgL cntW l
 | [] => rfl
 | x :: r => by rw [cntL, wgL, cntL_wg r]
theorem rd_want : ∀ (fuel : Nat) (cs : List Value) (x : DataW H × List MemPlace), DataW.trod enc_ Tryz.prog w base spare held fuel 41 cs = some x → ∃ t : Wt, WtP All w fuel cs t ∧ cntW t ≤ Rows.uptoBulk x.1 := by
 intro fuel
 induction fuel using Nat.strongRecOn with
 | ind fuel ih =>
 intro cs x h
 obtain ⟨hlen, m, hm, xs, hxl, hbk, hf⟩ := rd_struct' Tryz.underlying41 h
 rw [co_Want] at hlen
 match xs, (show xs.length = 3 from hxl) with
 | [y0, y1, y2], _ =>
 match cs, hlen with
 | [c0, c1, c2], _ =>
  obtain ⟨_, e0, Q0⟩ := hf 0 _ rfl
  injection e0 with e0
  subst e0
  have q0 : DataW.trod enc_ Tryz.prog w base spare held m 3 [c0] = some y0 := Q0 1 co_int
  clear Q0
  obtain ⟨_, e1, Q1⟩ := hf 1 _ rfl
  injection e1 with e1
  subst e1
  have q1 : DataW.trod enc_ Tryz.prog w base spare held m 3 [c1] = some y1 := Q1 1 co_int
  clear Q1
  obtain ⟨_, e2, Q2⟩ := hf 2 _ rfl
  injection e2 with e2
  subst e2
  have q2 : DataW.trod enc_ Tryz.prog w base spare held m 39 [c2] = some y2 := Q2 1 co_slWant
  clear Q2
  clear hf hxl
  simp only [map_cons, map_nil, Rows.uptoBulkAll] at hbk
  subst hm
  obtain ⟨z0, rfl, -⟩ := rd_int Tryz.underlying3 q0
  obtain ⟨z1, rfl, -⟩ := rd_int Tryz.underlying3 q1
  obtain ⟨n, l, hn, ⟨css, h1, ⟨-, p, cap, rfl, h3, h4, h5⟩, h6, h7⟩, h8⟩ := rd_listP (fun n cs t => WtP All w n cs t) cntW Tryz.underlying39 co_Want (by decide) (fun n cs x hn _ _ hx => ih n (by omega) cs x hx) q2
  have b0 := bulk_one y0.1
  refine ⟨.mk z0 z1 l, ⟨p, cap, rfl, h3, h4, fun hpos => ?_⟩, by rw [cntW, cntL_wg]; omega⟩
  obtain ⟨b, o, -, hb, rfl, hc⟩ := h5 hpos
  refine ⟨b, o, trivial, hb, rfl, fun j t hj => ?_⟩
  obtain ⟨cs, hcs⟩ : ∃ cs, css[j]? = some cs := ⟨_, List.getElem?_eq_getElem (by have := (List.getElem?_eq_some_iff.1 hj).1; omega)⟩
  have hl := h6 cs (List.mem_of_getElem? hcs)
  have hw := h7 j cs t hcs hj
  have hf := flat_at h6 hcs
  match cs, hl with
  | [c0, c1, c2], _ =>
   have g0 := hc _ _ (hf 0 _ rfl)
   have g1 := hc _ _ (hf 1 _ rfl)
   have g2 := hc _ _ (hf 2 _ rfl)
   refine ⟨c0, c1, c2, by simpa using g0, by rw [Nat.add_assoc]; exact g1, by rw [Nat.add_assoc]; exact g2, ?_⟩
   rw [hn]
   exact hw.succ
theorem WtP.upTo {P : Nat → Prop} {w : World} {k K : Nat} {cs : List Value} {t : Wt} (h : WtP P w k cs t) (hk : k ≤ K) : WtP P w K cs t := by
 have := h.mono (K - k)
 rwa [show k + (K - k) = K by omega] at this
theorem rd_core {fuel : Nat} {cs : List Value} {x : DataW H × List MemPlace} (h : DataW.trod enc_ Tryz.prog w base spare held fuel 78 cs = some x) : ∃ c : CoreT, CoreP All w cs c ∧ NmN c.num ∧ c.wg ≤ Rows.uptoBulk x.1 := by
 obtain ⟨hlen, m, hm, xs, hxl, hbk, hf⟩ := rd_struct' Tryz.underlying78 h
 rw [co_CoreDecl] at hlen
 match xs, (show xs.length = 6 from hxl) with
 | [y0, y1, y2, y3, y4, y5], _ =>
 match cs, hlen with
 | [c0, c1, c2, c3, c4, c5], _ =>
  obtain ⟨_, e0, Q0⟩ := hf 0 _ rfl
  injection e0 with e0
  subst e0
  have q0 : DataW.trod enc_ Tryz.prog w base spare held m 9 [c0] = some y0 := Q0 1 co_string
  clear Q0
  obtain ⟨_, e1, Q1⟩ := hf 1 _ rfl
  injection e1 with e1
  subst e1
  have q1 : DataW.trod enc_ Tryz.prog w base spare held m 4 [c1] = some y1 := Q1 1 co_bool
  clear Q1
  obtain ⟨_, e2, Q2⟩ := hf 2 _ rfl
  injection e2 with e2
  subst e2
  have q2 : DataW.trod enc_ Tryz.prog w base spare held m 4 [c2] = some y2 := Q2 1 co_bool
  clear Q2
  obtain ⟨_, e3, Q3⟩ := hf 3 _ rfl
  injection e3 with e3
  subst e3
  have q3 : DataW.trod enc_ Tryz.prog w base spare held m 75 [c3] = some y3 := Q3 1 co_uint64
  clear Q3
  obtain ⟨_, e4, Q4⟩ := hf 4 _ rfl
  injection e4 with e4
  subst e4
  have q4 : DataW.trod enc_ Tryz.prog w base spare held m 76 [c4] = some y4 := Q4 1 co_slUse
  clear Q4
  obtain ⟨_, e5, Q5⟩ := hf 5 _ rfl
  injection e5 with e5
  subst e5
  have q5 : DataW.trod enc_ Tryz.prog w base spare held m 3 [c5] = some y5 := Q5 1 co_int
  clear Q5
  clear hf hxl
  simp only [map_cons, map_nil, Rows.uptoBulkAll] at hbk
  obtain ⟨s, rfl, hs⟩ := rd_string' Tryz.underlying9 q0
  obtain ⟨u1, rfl⟩ := rd_bool Tryz.underlying4 q1
  obtain ⟨u2, rfl⟩ := rd_bool Tryz.underlying4 q2
  obtain ⟨n, rfl, hn⟩ := rd_u64 q3
  obtain ⟨us, hu, hw⟩ := rd_uses q4
  obtain ⟨z, rfl, -⟩ := rd_int Tryz.underlying3 q5
  exact ⟨⟨s, u1, u2, n, us, z⟩, ⟨_, rfl, hu⟩, hn, by unfold CoreT.wg; show s.size + 1 + wgL Us.wg us ≤ _; omega⟩
theorem us_wg1 (u : Us) : 1 ≤ u.wg := by unfold Us.wg; omega
theorem us_sm {us : List Us} (h : wgL Us.wg us ≤ 1048576) : SmU us := fun u hu => by
 have := wgL_mem (f := Us.wg) hu
 have e : u.wg = u.name.size + 1 := rfl
 omega
theorem us_nm {us : List Us} (h : wgL Us.wg us ≤ 1048576) : NmU us := by
 have := wgL_len us_wg1 us
 unfold NmU; omega
theorem rd_wrap {K fuel : Nat} {cs : List Value} {x : DataW H × List MemPlace} (hK : fuel ≤ K) (hB : Rows.uptoBulk x.1 ≤ 1048576) (h : DataW.trod enc_ Tryz.prog w base spare held fuel 90 cs = some x) : ∃ c : WrapT, (WrapP All w K cs c ∧ NmW c ∧ SmW c) ∧ c.wg ≤ Rows.uptoBulk x.1 := by
 obtain ⟨hlen, m, hm, xs, hxl, hbk, hf⟩ := rd_struct' Tryz.underlying90 h
 rw [co_WrapDecl] at hlen
 match xs, (show xs.length = 8 from hxl) with
 | [y0, y1, y2, y3, y4, y5, y6, y7], _ =>
 match cs, hlen with
 | [c0, c1, c2, c3, c4, c5, c6, c7, c8, c9], _ =>
  obtain ⟨_, e0, Q0⟩ := hf 0 _ rfl
  injection e0 with e0
  subst e0
  have q0 : DataW.trod enc_ Tryz.prog w base spare held m 4 [c0] = some y0 := Q0 1 co_bool
  clear Q0
  obtain ⟨_, e1, Q1⟩ := hf 1 _ rfl
  injection e1 with e1
  subst e1
  have q1 : DataW.trod enc_ Tryz.prog w base spare held m 9 [c1] = some y1 := Q1 1 co_string
  clear Q1
  obtain ⟨_, e2, Q2⟩ := hf 2 _ rfl
  injection e2 with e2
  subst e2
  have q2 : DataW.trod enc_ Tryz.prog w base spare held m 9 [c2] = some y2 := Q2 1 co_string
  clear Q2
  obtain ⟨_, e3, Q3⟩ := hf 3 _ rfl
  injection e3 with e3
  subst e3
  have q3 : DataW.trod enc_ Tryz.prog w base spare held m 88 [c3] = some y3 := Q3 1 co_sluint64
  clear Q3
  obtain ⟨_, e4, Q4⟩ := hf 4 _ rfl
  injection e4 with e4
  subst e4
  have q4 : DataW.trod enc_ Tryz.prog w base spare held m 76 [c4] = some y4 := Q4 1 co_slUse
  clear Q4
  obtain ⟨_, e5, Q5⟩ := hf 5 _ rfl
  injection e5 with e5
  subst e5
  have q5 : DataW.trod enc_ Tryz.prog w base spare held m 4 [c5] = some y5 := Q5 1 co_bool
  clear Q5
  obtain ⟨_, e6, Q6⟩ := hf 6 _ rfl
  injection e6 with e6
  subst e6
  have q6 : DataW.trod enc_ Tryz.prog w base spare held m 41 [c6, c7, c8] = some y6 := Q6 3 co_Want
  clear Q6
  obtain ⟨_, e7, Q7⟩ := hf 7 _ rfl
  injection e7 with e7
  subst e7
  have q7 : DataW.trod enc_ Tryz.prog w base spare held m 3 [c9] = some y7 := Q7 1 co_int
  clear Q7
  clear hf hxl
  simp only [map_cons, map_nil, Rows.uptoBulkAll] at hbk
  obtain ⟨o, rfl⟩ := rd_bool Tryz.underlying4 q0
  obtain ⟨s, rfl, hs⟩ := rd_string' Tryz.underlying9 q1
  obtain ⟨s2, rfl, hs2⟩ := rd_string' Tryz.underlying9 q2
  obtain ⟨ns, hns, hnn, hnl⟩ := rd_nums q3
  obtain ⟨us, hu, hw⟩ := rd_uses q4
  obtain ⟨b, rfl⟩ := rd_bool Tryz.underlying4 q5
  obtain ⟨t, ht, htw⟩ := rd_want _ _ _ q6
  obtain ⟨z, rfl, -⟩ := rd_int Tryz.underlying3 q7
  have ht2 := ht.upTo (K := K) (by omega)
  exact ⟨⟨o, s, s2, ns, us, b, t, z⟩, ⟨⟨_, _, _, _, _, rfl, hns, hu, ht2⟩, ⟨hnn, us_nm (us := us) (by omega)⟩, by show s.size ≤ _; omega, by show s2.size ≤ _; omega, us_sm (us := us) (by omega)⟩, by show s.size + s2.size + 1 + ns.length + wgL Us.wg us + cntW t ≤ _; omega⟩
theorem rd_hand {K fuel : Nat} {cs : List Value} {x : DataW H × List MemPlace} (hK : fuel ≤ K) (hB : Rows.uptoBulk x.1 ≤ 1048576) (h : DataW.trod enc_ Tryz.prog w base spare held fuel 81 cs = some x) : ∃ c : HandT, (HandP All w K cs c ∧ NmH c ∧ SmH c) ∧ c.wg ≤ Rows.uptoBulk x.1 := by
 obtain ⟨hlen, m, hm, xs, hxl, hbk, hf⟩ := rd_struct' Tryz.underlying81 h
 rw [co_HandlerDecl] at hlen
 match xs, (show xs.length = 9 from hxl) with
 | [y0, y1, y2, y3, y4, y5, y6, y7, y8], _ =>
 match cs, hlen with
 | [c0, c1, c2, c3, c4, c5, c6, c7, c8, c9, c10, c11, c12, c13, c14, c15], _ =>
  obtain ⟨_, e0, Q0⟩ := hf 0 _ rfl
  injection e0 with e0
  subst e0
  have q0 : DataW.trod enc_ Tryz.prog w base spare held m 9 [c0] = some y0 := Q0 1 co_string
  clear Q0
  obtain ⟨_, e1, Q1⟩ := hf 1 _ rfl
  injection e1 with e1
  subst e1
  have q1 : DataW.trod enc_ Tryz.prog w base spare held m 74 [c1, c2] = some y1 := Q1 2 co_Use
  clear Q1
  obtain ⟨_, e2, Q2⟩ := hf 2 _ rfl
  injection e2 with e2
  subst e2
  have q2 : DataW.trod enc_ Tryz.prog w base spare held m 78 [c3, c4, c5, c6, c7, c8] = some y2 := Q2 6 co_CoreDecl
  clear Q2
  obtain ⟨_, e3, Q3⟩ := hf 3 _ rfl
  injection e3 with e3
  subst e3
  have q3 : DataW.trod enc_ Tryz.prog w base spare held m 79 [c9] = some y3 := Q3 1 co_slWrapDecl
  clear Q3
  obtain ⟨_, e4, Q4⟩ := hf 4 _ rfl
  injection e4 with e4
  subst e4
  have q4 : DataW.trod enc_ Tryz.prog w base spare held m 4 [c10] = some y4 := Q4 1 co_bool
  clear Q4
  obtain ⟨_, e5, Q5⟩ := hf 5 _ rfl
  injection e5 with e5
  subst e5
  have q5 : DataW.trod enc_ Tryz.prog w base spare held m 75 [c11] = some y5 := Q5 1 co_uint64
  clear Q5
  obtain ⟨_, e6, Q6⟩ := hf 6 _ rfl
  injection e6 with e6
  subst e6
  have q6 : DataW.trod enc_ Tryz.prog w base spare held m 74 [c12, c13] = some y6 := Q6 2 co_Use
  clear Q6
  obtain ⟨_, e7, Q7⟩ := hf 7 _ rfl
  injection e7 with e7
  subst e7
  have q7 : DataW.trod enc_ Tryz.prog w base spare held m 76 [c14] = some y7 := Q7 1 co_slUse
  clear Q7
  obtain ⟨_, e8, Q8⟩ := hf 8 _ rfl
  injection e8 with e8
  subst e8
  have q8 : DataW.trod enc_ Tryz.prog w base spare held m 3 [c15] = some y8 := Q8 1 co_int
  clear Q8
  clear hf hxl
  simp only [map_cons, map_nil, Rows.uptoBulkAll] at hbk
  obtain ⟨s, rfl, hs⟩ := rd_string' Tryz.underlying9 q0
  obtain ⟨uo, eo, ho⟩ := rd_use q1
  obtain ⟨c, ⟨cv, ec, hcu⟩, hcn, hcw⟩ := rd_core q2
  obtain ⟨n, ws, hn, hws, hww⟩ := rd_listP (fun _ cs c => WrapP All w K cs c ∧ NmW c ∧ SmW c) WrapT.wg Tryz.underlying79 co_WrapDecl (by decide) (fun n cs y hn _ hb hy => rd_wrap (by omega) (by omega) hy) q3
  obtain ⟨rm, rfl⟩ := rd_bool Tryz.underlying4 q4
  obtain ⟨ib, rfl, hib⟩ := rd_u64 q5
  obtain ⟨ud, ed, hd⟩ := rd_use q6
  obtain ⟨af, haf, haw⟩ := rd_uses q7
  obtain ⟨z, rfl, -⟩ := rd_int Tryz.underlying3 q8
  unfold Us.cells at eo ed
  injection eo with a1 eo
  injection eo with a2 _
  injection ed with d1 ed
  injection ed with d2 _
  subst a1; subst a2; subst d1; subst d2
  have eo1 : uo.wg = uo.name.size + 1 := rfl
  have ed1 : ud.wg = ud.name.size + 1 := rfl
  have ec1 : c.wg = c.word.size + 1 + wgL Us.wg c.caps := rfl
  obtain ⟨css, h1, h2, h3, h4⟩ := hws
  have hl : ListP All w 10 (WrapP All w K) c9 ws := ⟨css, h1, h2, h3, fun j cs x hj hx => (h4 j cs x hj hx).1⟩
  have hm : ∀ x ∈ ws, NmW x ∧ SmW x := fun x hx => by
   obtain ⟨j, hj⟩ := List.getElem?_of_mem hx
   obtain ⟨cs, hcs⟩ : ∃ cs, css[j]? = some cs := ⟨_, List.getElem?_eq_getElem (by have := (List.getElem?_eq_some_iff.1 hj).1; omega)⟩
   exact (h4 j cs x hcs hj).2
  exact ⟨⟨s, uo, c, ws, rm, ib, ud, af, z⟩, ⟨⟨_, _, _, _, _, _, _, _, rfl, ⟨cv, ec, hcu⟩, hl, haf⟩, ⟨hcn, us_nm (us := c.caps) (by omega), fun x hx => (hm x hx).1, hib, us_nm (us := af) (by omega)⟩, by show s.size ≤ _; omega, by show uo.name.size ≤ _; omega, by show c.word.size ≤ _; omega, us_sm (us := c.caps) (by omega), fun x hx => (hm x hx).2, by show ud.name.size ≤ _; omega, us_sm (us := af) (by omega)⟩,
   by show s.size + uo.name.size + 1 + c.wg + wgL WrapT.wg ws + ud.name.size + wgL Us.wg af ≤ _; omega⟩
theorem rd_route {K fuel : Nat} {cs : List Value} {x : DataW H × List MemPlace} (hK : fuel ≤ K) (hB : Rows.uptoBulk x.1 ≤ 1048576) (h : DataW.trod enc_ Tryz.prog w base spare held fuel 84 cs = some x) : ∃ c : RouteT, (RouteP All w K cs c ∧ SmR c) ∧ c.wg ≤ Rows.uptoBulk x.1 := by
 obtain ⟨hlen, m, hm, xs, hxl, hbk, hf⟩ := rd_struct' Tryz.underlying84 h
 rw [co_RouteDecl] at hlen
 match xs, (show xs.length = 6 from hxl) with
 | [y0, y1, y2, y3, y4, y5], _ =>
 match cs, hlen with
 | [c0, c1, c2, c3, c4, c5, c6, c7, c8, c9], _ =>
  obtain ⟨_, e0, Q0⟩ := hf 0 _ rfl
  injection e0 with e0
  subst e0
  have q0 : DataW.trod enc_ Tryz.prog w base spare held m 74 [c0, c1] = some y0 := Q0 2 co_Use
  clear Q0
  obtain ⟨_, e1, Q1⟩ := hf 1 _ rfl
  injection e1 with e1
  subst e1
  have q1 : DataW.trod enc_ Tryz.prog w base spare held m 4 [c2] = some y1 := Q1 1 co_bool
  clear Q1
  obtain ⟨_, e2, Q2⟩ := hf 2 _ rfl
  injection e2 with e2
  subst e2
  have q2 : DataW.trod enc_ Tryz.prog w base spare held m 41 [c3, c4, c5] = some y2 := Q2 3 co_Want
  clear Q2
  obtain ⟨_, e3, Q3⟩ := hf 3 _ rfl
  injection e3 with e3
  subst e3
  have q3 : DataW.trod enc_ Tryz.prog w base spare held m 4 [c6] = some y3 := Q3 1 co_bool
  clear Q3
  obtain ⟨_, e4, Q4⟩ := hf 4 _ rfl
  injection e4 with e4
  subst e4
  have q4 : DataW.trod enc_ Tryz.prog w base spare held m 74 [c7, c8] = some y4 := Q4 2 co_Use
  clear Q4
  obtain ⟨_, e5, Q5⟩ := hf 5 _ rfl
  injection e5 with e5
  subst e5
  have q5 : DataW.trod enc_ Tryz.prog w base spare held m 3 [c9] = some y5 := Q5 1 co_int
  clear Q5
  clear hf hxl
  simp only [map_cons, map_nil, Rows.uptoBulkAll] at hbk
  obtain ⟨uf, ef, hf⟩ := rd_use q0
  obtain ⟨b, rfl⟩ := rd_bool Tryz.underlying4 q1
  obtain ⟨t, ht, htw⟩ := rd_want _ _ _ q2
  obtain ⟨e, rfl⟩ := rd_bool Tryz.underlying4 q3
  obtain ⟨ut, et, hto⟩ := rd_use q4
  obtain ⟨z, rfl, -⟩ := rd_int Tryz.underlying3 q5
  have ht2 := ht.upTo (K := K) (by omega)
  unfold Us.cells at ef et
  injection ef with a1 ef
  injection ef with a2 _
  injection et with d1 et
  injection et with d2 _
  subst a1; subst a2; subst d1; subst d2
  have eo1 : uf.wg = uf.name.size + 1 := rfl
  have ed1 : ut.wg = ut.name.size + 1 := rfl
  exact ⟨⟨uf, b, t, e, ut, z⟩, ⟨⟨_, _, _, rfl, ht2⟩, by show ut.name.size ≤ _; omega, by show uf.name.size ≤ _; omega⟩, by show uf.name.size + ut.name.size + 1 + cntW t ≤ _; omega⟩
theorem read_tree {fuel : Nat} {cs : List Value} {x : DataW H × List MemPlace} (hB : Rows.uptoBulk x.1 ≤ 1048576) (h : DataW.trod enc_ Tryz.prog w base spare held fuel 26 cs = some x) :
  ∃ (k : Nat) (vh vr : Value) (t : TreeT), cs = [vh, vr] ∧ TreeP All w k vh vr t ∧ SmT t ∧ NmT t ∧ (printW t).length ≤ 140737488355328 ∧ t.wg ≤ 1048576 := by
 obtain ⟨hlen, m, hm, xs, hxl, hbk, hf⟩ := rd_struct' Tryz.underlying26 h
 rw [co_Tree] at hlen
 match xs, (show xs.length = 2 from hxl) with
 | [y0, y1], _ =>
 match cs, hlen with
 | [c0, c1], _ =>
  obtain ⟨_, e0, Q0⟩ := hf 0 _ rfl
  injection e0 with e0
  subst e0
  have q0 : DataW.trod enc_ Tryz.prog w base spare held m 23 [c0] = some y0 := Q0 1 co_slHandlerDecl
  clear Q0
  obtain ⟨_, e1, Q1⟩ := hf 1 _ rfl
  injection e1 with e1
  subst e1
  have q1 : DataW.trod enc_ Tryz.prog w base spare held m 24 [c1] = some y1 := Q1 1 co_slRouteDecl
  clear Q1
  clear hf hxl
  simp only [map_cons, map_nil, Rows.uptoBulkAll] at hbk
  obtain ⟨n, hs, hn, ⟨css, h1, h2, h3, h4⟩, hw⟩ := rd_listP (fun _ cs c => HandP All w fuel cs c ∧ NmH c ∧ SmH c) HandT.wg Tryz.underlying23 co_HandlerDecl (by decide) (fun n cs y hn _ hb hy => rd_hand (by omega) (by omega) hy) q0
  obtain ⟨n', rs, hn', ⟨rss, r1, r2, r3, r4⟩, hw'⟩ := rd_listP (fun _ cs c => RouteP All w fuel cs c ∧ SmR c) RouteT.wg Tryz.underlying24 co_RouteDecl (by decide) (fun n cs y hn _ hb hy => rd_route (by omega) (by omega) hy) q1
  have hl : ListP All w 16 (HandP All w fuel) c0 hs := ⟨css, h1, h2, h3, fun j cs x hj hx => (h4 j cs x hj hx).1⟩
  have hl' : ListP All w 10 (RouteP All w fuel) c1 rs := ⟨rss, r1, r2, r3, fun j cs x hj hx => (r4 j cs x hj hx).1⟩
  have hmm : ∀ x ∈ hs, NmH x ∧ SmH x := fun x hx => by
   obtain ⟨j, hj⟩ := List.getElem?_of_mem hx
   obtain ⟨cs, hcs⟩ : ∃ cs, css[j]? = some cs := ⟨_, List.getElem?_eq_getElem (by have := (List.getElem?_eq_some_iff.1 hj).1; omega)⟩
   exact (h4 j cs x hcs hj).2
  have hmr : ∀ x ∈ rs, SmR x := fun x hx => by
   obtain ⟨j, hj⟩ := List.getElem?_of_mem hx
   obtain ⟨cs, hcs⟩ : ∃ cs, rss[j]? = some cs := ⟨_, List.getElem?_eq_getElem (by have := (List.getElem?_eq_some_iff.1 hj).1; omega)⟩
   exact (r4 j cs x hcs hj).2
  have hN : NmT ⟨hs, rs⟩ := fun d hd => (hmm d hd).1
  have hwt : (⟨hs, rs⟩ : TreeT).wg ≤ 1048576 := by show wgL HandT.wg hs + wgL RouteT.wg rs ≤ _; omega
  have hp := print_len hN
  exact ⟨fuel, c0, c1, ⟨hs, rs⟩, rfl, ⟨hl, hl'⟩, ⟨fun d hd => (hmm d hd).2, hmr⟩, hN, by omega, hwt⟩
end
end
end Go.Proofs.YtbdllefnghddcaaGreatDoor
