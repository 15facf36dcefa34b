/- PARSE: a wrap: plain parts. PARSE: a route: plain parts. PARSE: a handler: plain parts. PARSE: a configuration: plain parts. PARSE, plain: what tokens of a scan are. -/
import Derived.Deep.AppendLies
import Derived.Deep.DeepCutAuto
import Derived.Deep.CutBlock
import Derived.Test.YtbdllefnghddcaaGreatDoorPCore
import Derived.Test.YtbdllefnghddcaaGreatDoorPMem
namespace Go.Proofs.YtbdllefnghddcaaGreatDoor
section
open Go Go.RowKit
attribute [local go_sem ↓] Go.wp_at_zero Go.wp_at_succ

def RepWr (P : Nat → Prop) (w : World) (v : Value) (x : WrapT) : Prop := ∃ (k : Nat) (cs : List Value), v = .agg cs.toArray ∧ WrapP P w k cs x
def RNum (_ : Nat → Prop) (_ : World) (cs : List Value) (n : Int) : Prop := cs = [.int .u64 n]
theorem goes_num : Goes RNum := fun _ _ _ _ _ _ _ h => h
theorem info_u64 : (Tryz.prog.info? 75).map (fun i => (i.zero, i.size, i.bytes)) = some (some (.int .u64 0), 1, 8) := by kernel_rfl
theorem numP_lt {S : Src} {a b : Nat} {n : Int} (h : numP S a = .ok n b) : a < b := by
 unfold numP at h
 split at h
 ·injection h with _ h; omega
 ·cases h
theorem field_use (x y : Value) (w : World) : Sem.run Tryz.prog (Instr.field 74 (.agg #[x, y]) 0) w = .ok x w := by kernel_rfl
theorem num_list {D : Nat} {W : World} {v : Value} {ns : List Int} (h : ORow RNum (D + 1) 75 1 W v ns) : NumsP (fun b => D < b) W v ns := by
 obtain ⟨css, h1, h2, h3, h4⟩ := h
 have e : css.flatten = ns.map (Value.int .u64) := by
  have : ∀ (css : List (List Value)) (ns : List Int), css.length = ns.length → (∀ (j : Nat) (cs : List Value) (x : Int), css[j]? = some cs → ns[j]? = some x → cs = [.int .u64 x]) → css.flatten = ns.map (Value.int .u64) := by
   intro css
   induction css with
   | nil => intro ns hl _; cases ns with
    | nil => rfl
    | cons u us => cases hl
   | cons c css ih => intro ns hl hc; cases ns with
    | nil => cases hl
    | cons u us =>
     rw [List.flatten_cons, List.map_cons, hc 0 c u rfl rfl, ih us (by simpa using hl) fun j cs x h1 h2 => hc (j + 1) cs x h1 h2]
     rfl
  exact this css ns h1 h4
 have := FlP.of_own h2
 rw [e] at this
 exact this
def wrapL (S : Src) (o : Bool) (u : Us) (sub : ByteArray) (nums : List Int) (caps : List Us) (b : Nat) : PR WrapT := (takeP S 13 b).bind fun w b => (if w = true then wantW S b else .ok wtZ b).bind fun want b => .ok ⟨o, u.name, sub, nums, caps, w, want, u.pos⟩ b
def wrapK (S : Src) (o : Bool) (u : Us) (sub : ByteArray) (nums : List Int) (b : Nat) : PR WrapT := (takeP S 5 b).bind fun c b => (if c = true then listP S b else .ok [] b).bind fun caps b => wrapL S o u sub nums caps b
theorem takeP_of (S : Src) (k a : Nat) : takeP S k a = .ok (decide (kindP S a = k)) (if kindP S a = k then a + 1 else a) := by unfold takeP; by_cases h : kindP S a = k <;> simp [h]
theorem wrapP_eq (S : Src) (a : Nat) : wrapP S a = (takeP S 11 a).bind fun o a => (nameP S a).bind fun u a => (takeP S 22 a).bind fun c a => (if c = true then (nameP S a).bind fun s a => .ok s.name a else .ok ByteArray.empty a).bind fun sub a => (numsP S 2 [] a).bind (wrapK S o u sub) := rfl
theorem set10w {W : World} {b : Nat} {t : TypeId} {o0 o1 o2 o3 o4 o5 o6 o7 o8 o9 : Value} (h : W.heap[b]? = some (.cells #[o0, o1, o2, o3, o4, o5, o6, o7, o8, o9] t (0, 0))) (c0 c1 c2 c3 c4 c5 c6 c7 c8 c9 : Value) :
  ((((((((((W.setCell ⟨b, 0, none⟩ c0).setCell ⟨b, 1, none⟩ c1).setCell ⟨b, 2, none⟩ c2).setCell ⟨b, 3, none⟩ c3).setCell ⟨b, 4, none⟩ c4).setCell ⟨b, 5, none⟩ c5).setCell ⟨b, 6, none⟩ c6).setCell ⟨b, 7, none⟩ c7).setCell ⟨b, 8, none⟩ c8).setCell ⟨b, 9, none⟩ c9).heap[b]? = some (.cells #[c0, c1, c2, c3, c4, c5, c6, c7, c8, c9] t (0, 0)) ∧ W.grownBy ((((((((((W.setCell ⟨b, 0, none⟩ c0).setCell ⟨b, 1, none⟩ c1).setCell ⟨b, 2, none⟩ c2).setCell ⟨b, 3, none⟩ c3).setCell ⟨b, 4, none⟩ c4).setCell ⟨b, 5, none⟩ c5).setCell ⟨b, 6, none⟩ c6).setCell ⟨b, 7, none⟩ c7).setCell ⟨b, 8, none⟩ c8).setCell ⟨b, 9, none⟩ c9) (some b) := by
 have g := gr_refl W (some b)
 have h0 : (W.setCell ⟨b, 0, none⟩ c0).heap[b]? = some (.cells #[c0, o1, o2, o3, o4, o5, o6, o7, o8, o9] t (0, 0)) := heap_setCell_same W b 0 _ _ _ h
 have g0 := gr_set g 0 c0
 generalize W.setCell ⟨b, 0, none⟩ c0 = W0 at h0 g0 ⊢
 have h1 : (W0.setCell ⟨b, 1, none⟩ c1).heap[b]? = some (.cells #[c0, c1, o2, o3, o4, o5, o6, o7, o8, o9] t (0, 0)) := heap_setCell_same W0 b 1 _ _ _ h0
 have g1 := gr_set g0 1 c1
 generalize W0.setCell ⟨b, 1, none⟩ c1 = W1 at h1 g1 ⊢
 have h2 : (W1.setCell ⟨b, 2, none⟩ c2).heap[b]? = some (.cells #[c0, c1, c2, o3, o4, o5, o6, o7, o8, o9] t (0, 0)) := heap_setCell_same W1 b 2 _ _ _ h1
 have g2 := gr_set g1 2 c2
 generalize W1.setCell ⟨b, 2, none⟩ c2 = W2 at h2 g2 ⊢
 have h3 : (W2.setCell ⟨b, 3, none⟩ c3).heap[b]? = some (.cells #[c0, c1, c2, c3, o4, o5, o6, o7, o8, o9] t (0, 0)) := heap_setCell_same W2 b 3 _ _ _ h2
 have g3 := gr_set g2 3 c3
 generalize W2.setCell ⟨b, 3, none⟩ c3 = W3 at h3 g3 ⊢
 have h4 : (W3.setCell ⟨b, 4, none⟩ c4).heap[b]? = some (.cells #[c0, c1, c2, c3, c4, o5, o6, o7, o8, o9] t (0, 0)) := heap_setCell_same W3 b 4 _ _ _ h3
 have g4 := gr_set g3 4 c4
 generalize W3.setCell ⟨b, 4, none⟩ c4 = W4 at h4 g4 ⊢
 have h5 : (W4.setCell ⟨b, 5, none⟩ c5).heap[b]? = some (.cells #[c0, c1, c2, c3, c4, c5, o6, o7, o8, o9] t (0, 0)) := heap_setCell_same W4 b 5 _ _ _ h4
 have g5 := gr_set g4 5 c5
 generalize W4.setCell ⟨b, 5, none⟩ c5 = W5 at h5 g5 ⊢
 have h6 : (W5.setCell ⟨b, 6, none⟩ c6).heap[b]? = some (.cells #[c0, c1, c2, c3, c4, c5, c6, o7, o8, o9] t (0, 0)) := heap_setCell_same W5 b 6 _ _ _ h5
 have g6 := gr_set g5 6 c6
 generalize W5.setCell ⟨b, 6, none⟩ c6 = W6 at h6 g6 ⊢
 have h7 : (W6.setCell ⟨b, 7, none⟩ c7).heap[b]? = some (.cells #[c0, c1, c2, c3, c4, c5, c6, c7, o8, o9] t (0, 0)) := heap_setCell_same W6 b 7 _ _ _ h6
 have g7 := gr_set g6 7 c7
 generalize W6.setCell ⟨b, 7, none⟩ c7 = W7 at h7 g7 ⊢
 have h8 : (W7.setCell ⟨b, 8, none⟩ c8).heap[b]? = some (.cells #[c0, c1, c2, c3, c4, c5, c6, c7, c8, o9] t (0, 0)) := heap_setCell_same W7 b 8 _ _ _ h7
 have g8 := gr_set g7 8 c8
 generalize W7.setCell ⟨b, 8, none⟩ c8 = W8 at h8 g8 ⊢
 have h9 : (W8.setCell ⟨b, 9, none⟩ c9).heap[b]? = some (.cells #[c0, c1, c2, c3, c4, c5, c6, c7, c8, c9] t (0, 0)) := heap_setCell_same W8 b 9 _ _ _ h8
 have g9 := gr_set g8 9 c9
 exact ⟨h9, g9⟩
theorem res_wrap {W : World} {B : Nat} {cs : Array Value} (h : W.heap[B]? = some (.cells cs 90 (0, 0))) (hs : cs.size = 10) (tmps : Array Value) (h4 : tmps.getD 2 undef = .pointer (some ⟨B, 0, none⟩)) :
  (results Tryz.f122 tmps).run Tryz.prog W = .ok (.agg cs) W := by
 have h4' : tmps[2]?.getD undef = .pointer (some ⟨B, 0, none⟩) := by simpa using h4
 have hl := run_loadVar_row (P := Tryz.prog) W B 90 90 cs (0, 0) _ h Tryz.underlying90 rfl (by rw [hs]; kernel_rfl)
 simp [results, Tryz.results122, h4', asAddr, hl]
section
variable {W0 Ws w6 w1' : World} {B X D : Nat} {T TY : TypeId} {S : Src} {tv nv : Value} {zs cs : Array Value} {a deep : Nat} {v v2 : Value} {nums : List Int} {n6 : Int} {o : Obj}
theorem num_step {g2 cap2 : Nat} (h : Dec W0 Ws w6 B X D T TY S tv nv zs cs a deep) (hr : ORow RNum (D + 1) 75 1 w6 v nums) {css : List (List Value)} (hc1 : css.length = nums.length) (hc3 : ∀ cs ∈ css, cs.length = 1) (hc4 : ∀ (j : Nat) (cs : List Value) (x : Int), css[j]? = some cs → nums[j]? = some x → RNum (fun b => D + 1 ≤ b ∧ some b ≠ v.ownBlock) w6 cs x)
  (hg : (w6.alloc o).grownBy w1' v.ownBlock) (hat : v.ownBlock = some g2 ∨ g2 = w6.heap.size + 1) (hown : w1'.ownsRow (D + 1) 75 1 (.slice (some ⟨g2, 0, none⟩) (nums.length + 1) cap2) (nums.length + 1) (css.flatten ++ [.int .u64 n6])) :
  Dec W0 Ws (w1'.setCell ⟨D, 3, none⟩ (.slice (some ⟨g2, 0, none⟩) (nums.length + 1) cap2)) B X D T TY S tv nv zs (cs.setIfInBounds 3 (.slice (some ⟨g2, 0, none⟩) (nums.length + 1) cap2)) a deep ∧ ORow RNum (D + 1) 75 1 (w1'.setCell ⟨D, 3, none⟩ (.slice (some ⟨g2, 0, none⟩) (nums.length + 1) cap2)) (.slice (some ⟨g2, 0, none⟩) (nums.length + 1) cap2) (nums ++ [n6]) ∧ w1'.cell? ⟨D, 3, none⟩ = cs[3]? ∧ w1'.frozen? ⟨D, 3, none⟩ = false ∧ D < w1'.heap.size := by
 have hl := hr.lt
 have hb := h.bx
 have hx := h.xd
 have hw := h.wx
 have hdl := h.dlt
 have hd : ∀ c, c ≤ D → w1'.heap[c]? = w6.heap[c]? := fun c hc => (hg.block c (by rw [World.size_alloc]; omega) (fun e => by have := (hl c e.symm).1; omega)).trans (Below.heap_alloc _ _ _ (by omega))
 have hA : At W0 w1' B T S tv nv a deep := h.at_.app hg (fun b e => by have := (hl b e).1; omega)
 have hN : ORow RNum (D + 1) 75 1 w1' (.slice (some ⟨g2, 0, none⟩) (nums.length + 1) cap2) (nums ++ [n6]) := ORow.snoc goes_num hr hc1 hc3 hc4 rfl rfl (by omega) hg (hat.imp (fun e => e.symm) (fun e => by rw [e, World.size_alloc]; rfl)) hown
 have hDec : Dec W0 Ws w1' B X D T TY S tv nv zs cs a deep := ⟨hA, g_app h.gr hg (fun b e => by have := (hl b e).1; omega), (hd X (by omega)).trans h.res, (hd D (Nat.le_refl _)).trans h.dec, hb, hx, hw⟩
 exact ⟨hDec.set 3 _, hN.kept goes_num fun b hlt hb' => Below.heap_setCell _ _ _ _ (fun e => by have e : b = D := e; omega), cell_of_row _ _ _ _ _ _ hDec.dec, hDec.free 3, hDec.dlt⟩
end
end
section
open Go Go.RowKit
attribute [local go_sem ↓] Go.wp_at_zero Go.wp_at_succ

def RepRo (P : Nat → Prop) (w : World) (v : Value) (x : RouteT) : Prop := ∃ (k : Nat) (cs : List Value), v = .agg cs.toArray ∧ RouteP P w k cs x
def routeL (S : Src) (a : Nat) (w : Bool) (x : Wt) (e : Bool) (b : Nat) : PR RouteT := (wantP S 21 b).bind fun _ b => (nameP S b).bind fun tu b => (wantP S 23 b).bind fun _ b => .ok ⟨⟨textT S (a + 1), (posP S (a + 1) : Nat)⟩, w, x, e, tu, (posP S a : Nat)⟩ b
theorem routeP_eq (S : Src) (a : Nat) : routeP S a = (wantP S 3 (a + 1)).bind fun _ b => (takeP S 13 b).bind fun w b => (if w = true then (wantW S b).bind fun x b => .ok (x, false) b else (takeP S 7 b).bind fun e b => .ok (wtZ, e) b : PR (Wt × Bool)).bind fun we b => routeL S a w we.1 we.2 b := rfl
theorem At.inc {W0 w : World} {B : Nat} {T : TypeId} {S : Src} {tv nv : Value} {a deep : Nat} (h : At W0 w B T S tv nv a deep) (hl : a < S.ts.length) : w.cell? ⟨B, 3, none⟩ = some (.int .i64 (a : Nat)) ∧ w.frozen? ⟨B, 3, none⟩ = false ∧ B < w.heap.size ∧ At W0 (w.setCell ⟨B, 3, none⟩ (.int .i64 ((a + 1 : Nat) : Int))) B T S tv nv (a + 1) deep ∧ w.grownBy (w.setCell ⟨B, 3, none⟩ (.int .i64 ((a + 1 : Nat) : Int))) (some B) := by
 obtain ⟨fp, fe, hbx⟩ := h.box
 obtain ⟨c0, c1, c2, c3, c4, c5, c6, hbl⟩ := hbx.cells
 have hgr : w.grownBy (w.setCell ⟨B, 3, none⟩ (.int .i64 ((a + 1 : Nat) : Int))) (some B) := g_set (g_refl w B) _
 exact ⟨c3, hbx.free 3, hbl, ⟨⟨fp, fe, heap_setCell_same w B 3 _ _ _ hbx⟩, h.bel.grown hgr h.bel.size (fun k hk => by injection hk with hk; have := h.lo; omega), h.lo, by omega⟩, hgr⟩
theorem At.toks {W0 w : World} {B : Nat} {T : TypeId} {S : Src} {tv nv : Value} {a deep : Nat} (h : At W0 w B T S tv nv a deep) : w.cell? ⟨B, 0, none⟩ = some tv := by
 obtain ⟨fp, fe, hbx⟩ := h.box
 exact hbx.cells.1
theorem Dec.far {W0 Ws w w' : World} {B X D R : Nat} {T TY : TypeId} {S : Src} {tv nv : Value} {zs cs : Array Value} {a deep : Nat} (h : Dec W0 Ws w B X D T TY S tv nv zs cs a deep) (hg : w.grownBy w' (some R)) (hR : D < R) : Dec W0 Ws w' B X D T TY S tv nv zs cs a deep := by
 have h1 := h.bx
 have h2 := h.xd
 have h3 := h.wx
 have hd := h.dlt
 exact ⟨h.at_.fin hg (by omega), g_fin h.gr hg (by omega), (hg.block X (by omega) (fun e => by injection e with e; omega)).trans h.res, (hg.block D hd (fun e => by injection e with e; omega)).trans h.dec, h1, h2, h3⟩
theorem set5t {W : World} {b : Nat} {t : TypeId} {o0 o1 o2 o3 o4 : Value} (h : W.heap[b]? = some (.cells #[o0, o1, o2, o3, o4] t (0, 0))) (c0 c1 c2 c3 c4 : Value) :
  (((((W.setCell ⟨b, 0, none⟩ c0).setCell ⟨b, 1, none⟩ c1).setCell ⟨b, 2, none⟩ c2).setCell ⟨b, 3, none⟩ c3).setCell ⟨b, 4, none⟩ c4).heap[b]? = some (.cells #[c0, c1, c2, c3, c4] t (0, 0)) ∧ W.grownBy (((((W.setCell ⟨b, 0, none⟩ c0).setCell ⟨b, 1, none⟩ c1).setCell ⟨b, 2, none⟩ c2).setCell ⟨b, 3, none⟩ c3).setCell ⟨b, 4, none⟩ c4) (some b) := by
 have g := gr_refl W (some b)
 have h0 : (W.setCell ⟨b, 0, none⟩ c0).heap[b]? = some (.cells #[c0, o1, o2, o3, o4] t (0, 0)) := heap_setCell_same W b 0 _ _ _ h
 have g0 := gr_set g 0 c0
 generalize W.setCell ⟨b, 0, none⟩ c0 = W0 at h0 g0 ⊢
 have h1 : (W0.setCell ⟨b, 1, none⟩ c1).heap[b]? = some (.cells #[c0, c1, o2, o3, o4] t (0, 0)) := heap_setCell_same W0 b 1 _ _ _ h0
 have g1 := gr_set g0 1 c1
 generalize W0.setCell ⟨b, 1, none⟩ c1 = W1 at h1 g1 ⊢
 have h2 : (W1.setCell ⟨b, 2, none⟩ c2).heap[b]? = some (.cells #[c0, c1, c2, o3, o4] t (0, 0)) := heap_setCell_same W1 b 2 _ _ _ h1
 have g2 := gr_set g1 2 c2
 generalize W1.setCell ⟨b, 2, none⟩ c2 = W2 at h2 g2 ⊢
 have h3 : (W2.setCell ⟨b, 3, none⟩ c3).heap[b]? = some (.cells #[c0, c1, c2, c3, o4] t (0, 0)) := heap_setCell_same W2 b 3 _ _ _ h2
 have g3 := gr_set g2 3 c3
 generalize W2.setCell ⟨b, 3, none⟩ c3 = W3 at h3 g3 ⊢
 have h4 : (W3.setCell ⟨b, 4, none⟩ c4).heap[b]? = some (.cells #[c0, c1, c2, c3, c4] t (0, 0)) := heap_setCell_same W3 b 4 _ _ _ h3
 have g4 := gr_set g3 4 c4
 exact ⟨h4, g4⟩
theorem res_route {W : World} {B : Nat} {cs : Array Value} (h : W.heap[B]? = some (.cells cs 84 (0, 0))) (hs : cs.size = 10) (tmps : Array Value) (h4 : tmps.getD 2 undef = .pointer (some ⟨B, 0, none⟩)) :
  (results Tryz.f71 tmps).run Tryz.prog W = .ok (.agg cs) W := by
 have h4' : tmps[2]?.getD undef = .pointer (some ⟨B, 0, none⟩) := by simpa using h4
 have hl := run_loadVar_row (P := Tryz.prog) W B 84 84 cs (0, 0) _ h Tryz.underlying84 rfl (by rw [hs]; kernel_rfl)
 simp [results, Tryz.results71, h4', asAddr, hl]
theorem set10r {W : World} {b : Nat} {t : TypeId} {o0 o1 o2 o3 o4 o5 o6 o7 o8 o9 : Value} (h : W.heap[b]? = some (.cells #[o0, o1, o2, o3, o4, o5, o6, o7, o8, o9] t (0, 0))) (c0 c1 c2 c3 c4 c5 c6 c7 c8 c9 : Value) :
  ((((((((((W.setCell ⟨b, 0, none⟩ c0).setCell ⟨b, 1, none⟩ c1).setCell ⟨b, 2, none⟩ c2).setCell ⟨b, 3, none⟩ c3).setCell ⟨b, 4, none⟩ c4).setCell ⟨b, 5, none⟩ c5).setCell ⟨b, 6, none⟩ c6).setCell ⟨b, 7, none⟩ c7).setCell ⟨b, 8, none⟩ c8).setCell ⟨b, 9, none⟩ c9).heap[b]? = some (.cells #[c0, c1, c2, c3, c4, c5, c6, c7, c8, c9] t (0, 0)) ∧ W.grownBy ((((((((((W.setCell ⟨b, 0, none⟩ c0).setCell ⟨b, 1, none⟩ c1).setCell ⟨b, 2, none⟩ c2).setCell ⟨b, 3, none⟩ c3).setCell ⟨b, 4, none⟩ c4).setCell ⟨b, 5, none⟩ c5).setCell ⟨b, 6, none⟩ c6).setCell ⟨b, 7, none⟩ c7).setCell ⟨b, 8, none⟩ c8).setCell ⟨b, 9, none⟩ c9) (some b) := by
 have g := gr_refl W (some b)
 have h0 : (W.setCell ⟨b, 0, none⟩ c0).heap[b]? = some (.cells #[c0, o1, o2, o3, o4, o5, o6, o7, o8, o9] t (0, 0)) := heap_setCell_same W b 0 _ _ _ h
 have g0 := gr_set g 0 c0
 generalize W.setCell ⟨b, 0, none⟩ c0 = W0 at h0 g0 ⊢
 have h1 : (W0.setCell ⟨b, 1, none⟩ c1).heap[b]? = some (.cells #[c0, c1, o2, o3, o4, o5, o6, o7, o8, o9] t (0, 0)) := heap_setCell_same W0 b 1 _ _ _ h0
 have g1 := gr_set g0 1 c1
 generalize W0.setCell ⟨b, 1, none⟩ c1 = W1 at h1 g1 ⊢
 have h2 : (W1.setCell ⟨b, 2, none⟩ c2).heap[b]? = some (.cells #[c0, c1, c2, o3, o4, o5, o6, o7, o8, o9] t (0, 0)) := heap_setCell_same W1 b 2 _ _ _ h1
 have g2 := gr_set g1 2 c2
 generalize W1.setCell ⟨b, 2, none⟩ c2 = W2 at h2 g2 ⊢
 have h3 : (W2.setCell ⟨b, 3, none⟩ c3).heap[b]? = some (.cells #[c0, c1, c2, c3, o4, o5, o6, o7, o8, o9] t (0, 0)) := heap_setCell_same W2 b 3 _ _ _ h2
 have g3 := gr_set g2 3 c3
 generalize W2.setCell ⟨b, 3, none⟩ c3 = W3 at h3 g3 ⊢
 have h4 : (W3.setCell ⟨b, 4, none⟩ c4).heap[b]? = some (.cells #[c0, c1, c2, c3, c4, o5, o6, o7, o8, o9] t (0, 0)) := heap_setCell_same W3 b 4 _ _ _ h3
 have g4 := gr_set g3 4 c4
 generalize W3.setCell ⟨b, 4, none⟩ c4 = W4 at h4 g4 ⊢
 have h5 : (W4.setCell ⟨b, 5, none⟩ c5).heap[b]? = some (.cells #[c0, c1, c2, c3, c4, c5, o6, o7, o8, o9] t (0, 0)) := heap_setCell_same W4 b 5 _ _ _ h4
 have g5 := gr_set g4 5 c5
 generalize W4.setCell ⟨b, 5, none⟩ c5 = W5 at h5 g5 ⊢
 have h6 : (W5.setCell ⟨b, 6, none⟩ c6).heap[b]? = some (.cells #[c0, c1, c2, c3, c4, c5, c6, o7, o8, o9] t (0, 0)) := heap_setCell_same W5 b 6 _ _ _ h5
 have g6 := gr_set g5 6 c6
 generalize W5.setCell ⟨b, 6, none⟩ c6 = W6 at h6 g6 ⊢
 have h7 : (W6.setCell ⟨b, 7, none⟩ c7).heap[b]? = some (.cells #[c0, c1, c2, c3, c4, c5, c6, c7, o8, o9] t (0, 0)) := heap_setCell_same W6 b 7 _ _ _ h6
 have g7 := gr_set g6 7 c7
 generalize W6.setCell ⟨b, 7, none⟩ c7 = W7 at h7 g7 ⊢
 have h8 : (W7.setCell ⟨b, 8, none⟩ c8).heap[b]? = some (.cells #[c0, c1, c2, c3, c4, c5, c6, c7, c8, o9] t (0, 0)) := heap_setCell_same W7 b 8 _ _ _ h7
 have g8 := gr_set g7 8 c8
 generalize W7.setCell ⟨b, 8, none⟩ c8 = W8 at h8 g8 ⊢
 have h9 : (W8.setCell ⟨b, 9, none⟩ c9).heap[b]? = some (.cells #[c0, c1, c2, c3, c4, c5, c6, c7, c8, c9] t (0, 0)) := heap_setCell_same W8 b 9 _ _ _ h8
 have g9 := gr_set g8 9 c9
 exact ⟨h9, g9⟩
end
section
open Go Go.RowKit
attribute [local go_sem ↓] Go.wp_at_zero Go.wp_at_succ

def RepHa (P : Nat → Prop) (w : World) (v : Value) (x : HandT) : Prop := ∃ (k : Nat) (cs : List Value), v = .agg cs.toArray ∧ HandP P w k cs x
def RWr (P : Nat → Prop) (w : World) (cs : List Value) (x : WrapT) : Prop := ∃ k, WrapP P w k cs x
theorem goes_wr : Goes RWr := fun _ _ _ _ hk _ _ ⟨k, h⟩ => ⟨k, h.kept hk⟩
theorem WrapP.mono {P : Nat → Prop} {w : World} {k : Nat} {cs : List Value} {x : WrapT} (h : WrapP P w k cs x) (d : Nat) : WrapP P w (k + d) cs x := by
 obtain ⟨v, u, w0, w1, w2, e, h1, h2, h3⟩ := h
 exact ⟨v, u, w0, w1, w2, e, h1, h2, h3.mono d⟩
theorem wr_uniform {P : Nat → Prop} {W : World} : ∀ (xs : List WrapT) (css : List (List Value)), css.length = xs.length → (∀ (j : Nat) (cs : List Value) (x : WrapT), css[j]? = some cs → xs[j]? = some x → RWr P W cs x) → ∃ K, ∀ (j : Nat) (cs : List Value) (x : WrapT), css[j]? = some cs → xs[j]? = some x → WrapP P W K cs x
 | [], _, _, _ => ⟨0, fun j cs x _ h => by simp at h⟩
 | x :: xs, [], h, _ => by cases h
 | x :: xs, c :: css, hl, h => by
  obtain ⟨K, hK⟩ := wr_uniform xs css (by simpa using hl) fun j cs y h1 h2 => h (j + 1) cs y h1 h2
  obtain ⟨k, hk⟩ := h 0 c x rfl rfl
  refine ⟨k + K, fun j cs y h1 h2 => ?_⟩
  cases j with
  | zero => injection h1 with h1; injection h2 with h2; subst h1; subst h2; exact hk.mono K
  | succ j =>
   have := (hK j cs y h1 h2).mono k
   rwa [Nat.add_comm] at this
theorem WrapP.form {P : Nat → Prop} {w : World} {k : Nat} {cs : List Value} {x : WrapT} (h : WrapP P w k cs x) : ∃ q1 n1 c1 q2 n2 c2 o3 m3 q3 n3 c3, cs = [.bool x.opn, .string x.word, .string x.sub, .slice q1 n1 c1, .slice q2 n2 c2, .bool x.when_, .int .i64 o3, .int .i64 m3, .slice q3 n3 c3, .int .i64 x.pos] := by
 obtain ⟨v, u, w0, w1, w2, e, h1, h2, h3⟩ := h
 obtain ⟨p1, c1, rfl⟩ := FlP.form h1
 obtain ⟨p2, c2, rfl⟩ := FlP.form h2
 obtain ⟨k', p3, c3, -, e3⟩ := h3.form
 injection e3 with e1 e3
 injection e3 with e2 e3
 injection e3 with e3
 subst e1; subst e2; subst e3
 exact ⟨_, _, _, _, _, _, _, _, _, _, _, e⟩
theorem wr_list {base : Nat} {W : World} {v : Value} {xs : List WrapT} (h : ORow RWr base 90 10 W v xs) : ∃ K, ListP (fun b => base ≤ b) W 10 (WrapP (fun b => base ≤ b) W K) v xs := by
 obtain ⟨css, h1, h2, h3, h4⟩ := h.list goes_wr
 obtain ⟨K, hK⟩ := wr_uniform xs css h1 h4
 exact ⟨K, css, h1, h2, h3, hK⟩
theorem bind_ok2 {α β : Type} {r : PR α} {g : α → Nat → PR β} {y : β} {c : Nat} (h : r.bind g = .ok y c) : ∃ x b, r = .ok x b ∧ g x b = .ok y c := by
 cases r with
 | ok x b => exact ⟨x, b, rfl, h⟩
 | bad p k => cases h
theorem takeP_le {S : Src} {k a b : Nat} {c : Bool} (h : takeP S k a = .ok c b) : a ≤ b := by
 unfold takeP at h
 split at h <;> (injection h with _ h; omega)
theorem moreU_le {S : Src} : ∀ (f : Nat) (acc : List Us) (a : Nat) (l : List Us) (b : Nat), moreU S f acc a = .ok l b → a ≤ b
 | 0, acc, a, l, b, h => by injection h with _ h; omega
 | f + 1, acc, a, l, b, h => by
  unfold moreU at h
  split at h
  ·obtain ⟨x, c, h1, h2⟩ := bind_ok2 h
   have := nameP_le h1
   have := moreU_le f _ _ _ _ h2
   omega
  ·injection h with _ h; omega
theorem listP_le {S : Src} {a b : Nat} {l : List Us} (h : listP S a = .ok l b) : a ≤ b := by
 unfold listP at h
 obtain ⟨x, c, h1, h2⟩ := bind_ok2 h
 have := nameP_le h1
 have := moreU_le _ _ _ _ _ h2
 omega
theorem numsP_le {S : Src} : ∀ (f : Nat) (acc : List Int) (a : Nat) (l : List Int) (b : Nat), numsP S f acc a = .ok l b → a ≤ b
 | 0, acc, a, l, b, h => by injection h with _ h; omega
 | f + 1, acc, a, l, b, h => by
  unfold numsP at h
  split at h
  ·obtain ⟨x, c, h1, h2⟩ := bind_ok2 h
   have := numP_lt h1
   have := numsP_le f _ _ _ _ h2
   omega
  ·injection h with _ h; omega
theorem wantW_le {S : Src} {a b : Nat} {x : Wt} (h : wantW S a = .ok x b) : a ≤ b := by
 unfold wantW eitherP bothP at h
 exact Nat.le_of_lt (rowP_lt (fun _ _ _ h => rowP_lt (oneP_lt _ _) _ _ _ h) _ _ _ h)
theorem wrapP_le {S : Src} {a b : Nat} {x : WrapT} (h : wrapP S a = .ok x b) : a ≤ b := by
 unfold wrapP at h
 obtain ⟨o, b1, h1, h⟩ := bind_ok2 h
 obtain ⟨u, b2, h2, h⟩ := bind_ok2 h
 obtain ⟨c, b3, h3, h⟩ := bind_ok2 h
 obtain ⟨sub, b4, h4, h⟩ := bind_ok2 h
 obtain ⟨nums, b5, h5, h⟩ := bind_ok2 h
 obtain ⟨c2, b6, h6, h⟩ := bind_ok2 h
 obtain ⟨caps, b7, h7, h⟩ := bind_ok2 h
 obtain ⟨w, b8, h8, h⟩ := bind_ok2 h
 obtain ⟨want, b9, h9, h⟩ := bind_ok2 h
 injection h with _ h
 have := takeP_le h1
 have := nameP_le h2
 have := takeP_le h3
 have e4 : b3 ≤ b4 := by
  split at h4
  ·obtain ⟨s, d, k1, k2⟩ := bind_ok2 h4
   have := nameP_le k1
   injection k2 with _ k2
   omega
  ·injection h4 with _ h4; omega
 have := numsP_le _ _ _ _ _ h5
 have := takeP_le h6
 have e7 : b6 ≤ b7 := by
  split at h7
  ·exact listP_le h7
  ·injection h7 with _ h7; omega
 have := takeP_le h8
 have e9 : b8 ≤ b9 := by
  split at h9
  ·exact wantW_le h9
  ·injection h9 with _ h9; omega
 omega
def handM (S : Src) (a : Nat) (nm of_ : Us) (c : CoreT) (ws : List WrapT) (r : Bool × Int × Us) (b : Nat) : PR HandT := (takeP S 4 b).bind fun t b => (if t = true then listP S b else .ok [] b).bind fun af b => (wantP S 23 b).bind fun _ b => .ok ⟨nm.name, of_, c, ws, r.1, r.2.1, r.2.2, af, (posP S a : Nat)⟩ b
def handL (S : Src) (a : Nat) (nm of_ : Us) (c : CoreT) (ws : List WrapT) (b : Nat) : PR HandT := (roomP S b).bind fun r b => handM S a nm of_ c ws r b
def handK (S : Src) (a : Nat) (nm of_ : Us) (c : CoreT) (b : Nat) : PR HandT := (wrapsP S (fuel S) [] b).bind fun ws b => handL S a nm of_ c ws b
theorem handlerP_eq (S : Src) (a : Nat) : handlerP S a = (nameP S (a + 1)).bind fun nm b => (wantP S 24 b).bind fun _ b => (takeP S 10 b).bind fun o b => (if o = true then (nameP S b).bind fun u b => .ok (u, coreZ) b else (coreP S b).bind fun c b => .ok (usZ, c) b : PR (Us × CoreT)).bind fun oc b => handK S a nm oc.1 oc.2 b := rfl
theorem wrapsP_succ (S : Src) (f : Nat) (acc : List WrapT) (a : Nat) : wrapsP S (f + 1) acc a = (takeP S 14 a).bind fun t a => if t = true then (wrapP S a).bind fun x a => wrapsP S f (acc ++ [x]) a else .ok acc a := rfl
theorem info_wrapd : (Tryz.prog.info? 90).map (fun i => (i.zero, i.size, i.bytes)) = some (some (.agg #[.bool false, .string ByteArray.empty, .string ByteArray.empty, .slice none 0 0, .slice none 0 0, .bool false, .int .i64 0, .int .i64 0, .slice none 0 0, .int .i64 0]), 10, 144) := by kernel_rfl
section
variable {W0 Ws w5 w6 w1' : World} {B X D base : Nat} {T TY : TypeId} {S : Src} {tv nv : Value} {zs cs : Array Value} {a deep i e k : Nat} {v : Value} {α : Type} {R : (Nat → Prop) → World → List Value → α → Prop} {xs : List α} {x : α} {new : List Value} {o : Obj} {g2 cap2 : Nat}
theorem row_step (hG : Goes R) (h : Dec W0 Ws w6 B X D T TY S tv nv zs cs a deep) (hr : ORow R base e k w5 v xs) (h56 : w5.heap.size ≤ w6.heap.size) (hbD : D < base) (hbw : base ≤ w5.heap.size) {css : List (List Value)} (hc1 : css.length = xs.length) (hc3 : ∀ cs ∈ css, cs.length = k) (hc4 : ∀ (j : Nat) (cs : List Value) (x : α), css[j]? = some cs → xs[j]? = some x → R (fun b => base ≤ b ∧ some b ≠ v.ownBlock) w6 cs x) (hx : R (fun b => w5.heap.size ≤ b) w6 new x) (hn : new.length = k)
  (hg : (w6.alloc o).grownBy w1' v.ownBlock) (hat : v.ownBlock = some g2 ∨ g2 = w6.heap.size + 1) (hown : w1'.ownsRow base e k (.slice (some ⟨g2, 0, none⟩) (xs.length + 1) cap2) (xs.length + 1) (css.flatten ++ new)) :
  Dec W0 Ws (w1'.setCell ⟨D, i, none⟩ (.slice (some ⟨g2, 0, none⟩) (xs.length + 1) cap2)) B X D T TY S tv nv zs (cs.setIfInBounds i (.slice (some ⟨g2, 0, none⟩) (xs.length + 1) cap2)) a deep ∧ ORow R base e k (w1'.setCell ⟨D, i, none⟩ (.slice (some ⟨g2, 0, none⟩) (xs.length + 1) cap2)) (.slice (some ⟨g2, 0, none⟩) (xs.length + 1) cap2) (xs ++ [x]) ∧ w1'.cell? ⟨D, i, none⟩ = cs[i]? ∧ w1'.frozen? ⟨D, i, none⟩ = false ∧ D < w1'.heap.size ∧ (∀ c, c < base → c < w6.heap.size → D < c → (w1'.setCell ⟨D, i, none⟩ (.slice (some ⟨g2, 0, none⟩) (xs.length + 1) cap2)).heap[c]? = w6.heap[c]?) ∧ base ≤ w1'.heap.size := by
 have hl := hr.lt
 have hb := h.bx
 have hx' := h.xd
 have hw := h.wx
 have hdl := h.dlt
 have hsz := hg.size
 rw [World.size_alloc] at hsz
 have hd : ∀ c, c < base → c < w6.heap.size → w1'.heap[c]? = w6.heap[c]? := fun c hc hc2 => (hg.block c (by rw [World.size_alloc]; omega) (fun e => by have := (hl c e.symm).1; omega)).trans (Below.heap_alloc _ _ _ (by omega))
 have hA : At W0 w1' B T S tv nv a deep := h.at_.app hg (fun b e => by have := (hl b e).1; omega)
 have hN := ORow.snoc hG hr hc1 hc3 hc4 hx hn hbw hg (hat.imp (fun e => e.symm) (fun e => by rw [e, World.size_alloc]; rfl)) hown
 have hDec : Dec W0 Ws w1' B X D T TY S tv nv zs cs a deep := ⟨hA, g_app h.gr hg (fun b e => by have := (hl b e).1; omega), (hd X (by omega) (by omega)).trans h.res, (hd D (by omega) (by omega)).trans h.dec, hb, hx', hw⟩
 exact ⟨hDec.set i _, hN.kept hG fun b hlt hb' => Below.heap_setCell _ _ _ _ (fun e => by have e : b = D := e; omega), cell_of_row _ _ _ _ _ _ hDec.dec, hDec.free i, hDec.dlt, fun c h1 h2 h3 => (Below.heap_setCell _ _ _ _ (fun e => by have e : c = D := e; omega)).trans (hd c h1 h2), by omega⟩
end
theorem set16h {W : World} {b : Nat} {t : TypeId} {o0 o1 o2 o3 o4 o5 o6 o7 o8 o9 o10 o11 o12 o13 o14 o15 : Value} (h : W.heap[b]? = some (.cells #[o0, o1, o2, o3, o4, o5, o6, o7, o8, o9, o10, o11, o12, o13, o14, o15] t (0, 0))) (c0 c1 c2 c3 c4 c5 c6 c7 c8 c9 c10 c11 c12 c13 c14 c15 : Value) :
  ((((((((((((((((W.setCell ⟨b, 0, none⟩ c0).setCell ⟨b, 1, none⟩ c1).setCell ⟨b, 2, none⟩ c2).setCell ⟨b, 3, none⟩ c3).setCell ⟨b, 4, none⟩ c4).setCell ⟨b, 5, none⟩ c5).setCell ⟨b, 6, none⟩ c6).setCell ⟨b, 7, none⟩ c7).setCell ⟨b, 8, none⟩ c8).setCell ⟨b, 9, none⟩ c9).setCell ⟨b, 10, none⟩ c10).setCell ⟨b, 11, none⟩ c11).setCell ⟨b, 12, none⟩ c12).setCell ⟨b, 13, none⟩ c13).setCell ⟨b, 14, none⟩ c14).setCell ⟨b, 15, none⟩ c15).heap[b]? = some (.cells #[c0, c1, c2, c3, c4, c5, c6, c7, c8, c9, c10, c11, c12, c13, c14, c15] t (0, 0)) ∧ W.grownBy ((((((((((((((((W.setCell ⟨b, 0, none⟩ c0).setCell ⟨b, 1, none⟩ c1).setCell ⟨b, 2, none⟩ c2).setCell ⟨b, 3, none⟩ c3).setCell ⟨b, 4, none⟩ c4).setCell ⟨b, 5, none⟩ c5).setCell ⟨b, 6, none⟩ c6).setCell ⟨b, 7, none⟩ c7).setCell ⟨b, 8, none⟩ c8).setCell ⟨b, 9, none⟩ c9).setCell ⟨b, 10, none⟩ c10).setCell ⟨b, 11, none⟩ c11).setCell ⟨b, 12, none⟩ c12).setCell ⟨b, 13, none⟩ c13).setCell ⟨b, 14, none⟩ c14).setCell ⟨b, 15, none⟩ c15) (some b) := by
 have g := gr_refl W (some b)
 have h0 : (W.setCell ⟨b, 0, none⟩ c0).heap[b]? = some (.cells #[c0, o1, o2, o3, o4, o5, o6, o7, o8, o9, o10, o11, o12, o13, o14, o15] t (0, 0)) := heap_setCell_same W b 0 _ _ _ h
 have g0 := gr_set g 0 c0
 generalize W.setCell ⟨b, 0, none⟩ c0 = W0 at h0 g0 ⊢
 have h1 : (W0.setCell ⟨b, 1, none⟩ c1).heap[b]? = some (.cells #[c0, c1, o2, o3, o4, o5, o6, o7, o8, o9, o10, o11, o12, o13, o14, o15] t (0, 0)) := heap_setCell_same W0 b 1 _ _ _ h0
 have g1 := gr_set g0 1 c1
 generalize W0.setCell ⟨b, 1, none⟩ c1 = W1 at h1 g1 ⊢
 have h2 : (W1.setCell ⟨b, 2, none⟩ c2).heap[b]? = some (.cells #[c0, c1, c2, o3, o4, o5, o6, o7, o8, o9, o10, o11, o12, o13, o14, o15] t (0, 0)) := heap_setCell_same W1 b 2 _ _ _ h1
 have g2 := gr_set g1 2 c2
 generalize W1.setCell ⟨b, 2, none⟩ c2 = W2 at h2 g2 ⊢
 have h3 : (W2.setCell ⟨b, 3, none⟩ c3).heap[b]? = some (.cells #[c0, c1, c2, c3, o4, o5, o6, o7, o8, o9, o10, o11, o12, o13, o14, o15] t (0, 0)) := heap_setCell_same W2 b 3 _ _ _ h2
 have g3 := gr_set g2 3 c3
 generalize W2.setCell ⟨b, 3, none⟩ c3 = W3 at h3 g3 ⊢
 have h4 : (W3.setCell ⟨b, 4, none⟩ c4).heap[b]? = some (.cells #[c0, c1, c2, c3, c4, o5, o6, o7, o8, o9, o10, o11, o12, o13, o14, o15] t (0, 0)) := heap_setCell_same W3 b 4 _ _ _ h3
 have g4 := gr_set g3 4 c4
 generalize W3.setCell ⟨b, 4, none⟩ c4 = W4 at h4 g4 ⊢
 have h5 : (W4.setCell ⟨b, 5, none⟩ c5).heap[b]? = some (.cells #[c0, c1, c2, c3, c4, c5, o6, o7, o8, o9, o10, o11, o12, o13, o14, o15] t (0, 0)) := heap_setCell_same W4 b 5 _ _ _ h4
 have g5 := gr_set g4 5 c5
 generalize W4.setCell ⟨b, 5, none⟩ c5 = W5 at h5 g5 ⊢
 have h6 : (W5.setCell ⟨b, 6, none⟩ c6).heap[b]? = some (.cells #[c0, c1, c2, c3, c4, c5, c6, o7, o8, o9, o10, o11, o12, o13, o14, o15] t (0, 0)) := heap_setCell_same W5 b 6 _ _ _ h5
 have g6 := gr_set g5 6 c6
 generalize W5.setCell ⟨b, 6, none⟩ c6 = W6 at h6 g6 ⊢
 have h7 : (W6.setCell ⟨b, 7, none⟩ c7).heap[b]? = some (.cells #[c0, c1, c2, c3, c4, c5, c6, c7, o8, o9, o10, o11, o12, o13, o14, o15] t (0, 0)) := heap_setCell_same W6 b 7 _ _ _ h6
 have g7 := gr_set g6 7 c7
 generalize W6.setCell ⟨b, 7, none⟩ c7 = W7 at h7 g7 ⊢
 have h8 : (W7.setCell ⟨b, 8, none⟩ c8).heap[b]? = some (.cells #[c0, c1, c2, c3, c4, c5, c6, c7, c8, o9, o10, o11, o12, o13, o14, o15] t (0, 0)) := heap_setCell_same W7 b 8 _ _ _ h7
 have g8 := gr_set g7 8 c8
 generalize W7.setCell ⟨b, 8, none⟩ c8 = W8 at h8 g8 ⊢
 have h9 : (W8.setCell ⟨b, 9, none⟩ c9).heap[b]? = some (.cells #[c0, c1, c2, c3, c4, c5, c6, c7, c8, c9, o10, o11, o12, o13, o14, o15] t (0, 0)) := heap_setCell_same W8 b 9 _ _ _ h8
 have g9 := gr_set g8 9 c9
 generalize W8.setCell ⟨b, 9, none⟩ c9 = W9 at h9 g9 ⊢
 have h10 : (W9.setCell ⟨b, 10, none⟩ c10).heap[b]? = some (.cells #[c0, c1, c2, c3, c4, c5, c6, c7, c8, c9, c10, o11, o12, o13, o14, o15] t (0, 0)) := heap_setCell_same W9 b 10 _ _ _ h9
 have g10 := gr_set g9 10 c10
 generalize W9.setCell ⟨b, 10, none⟩ c10 = W10 at h10 g10 ⊢
 have h11 : (W10.setCell ⟨b, 11, none⟩ c11).heap[b]? = some (.cells #[c0, c1, c2, c3, c4, c5, c6, c7, c8, c9, c10, c11, o12, o13, o14, o15] t (0, 0)) := heap_setCell_same W10 b 11 _ _ _ h10
 have g11 := gr_set g10 11 c11
 generalize W10.setCell ⟨b, 11, none⟩ c11 = W11 at h11 g11 ⊢
 have h12 : (W11.setCell ⟨b, 12, none⟩ c12).heap[b]? = some (.cells #[c0, c1, c2, c3, c4, c5, c6, c7, c8, c9, c10, c11, c12, o13, o14, o15] t (0, 0)) := heap_setCell_same W11 b 12 _ _ _ h11
 have g12 := gr_set g11 12 c12
 generalize W11.setCell ⟨b, 12, none⟩ c12 = W12 at h12 g12 ⊢
 have h13 : (W12.setCell ⟨b, 13, none⟩ c13).heap[b]? = some (.cells #[c0, c1, c2, c3, c4, c5, c6, c7, c8, c9, c10, c11, c12, c13, o14, o15] t (0, 0)) := heap_setCell_same W12 b 13 _ _ _ h12
 have g13 := gr_set g12 13 c13
 generalize W12.setCell ⟨b, 13, none⟩ c13 = W13 at h13 g13 ⊢
 have h14 : (W13.setCell ⟨b, 14, none⟩ c14).heap[b]? = some (.cells #[c0, c1, c2, c3, c4, c5, c6, c7, c8, c9, c10, c11, c12, c13, c14, o15] t (0, 0)) := heap_setCell_same W13 b 14 _ _ _ h13
 have g14 := gr_set g13 14 c14
 generalize W13.setCell ⟨b, 14, none⟩ c14 = W14 at h14 g14 ⊢
 have h15 : (W14.setCell ⟨b, 15, none⟩ c15).heap[b]? = some (.cells #[c0, c1, c2, c3, c4, c5, c6, c7, c8, c9, c10, c11, c12, c13, c14, c15] t (0, 0)) := heap_setCell_same W14 b 15 _ _ _ h14
 have g15 := gr_set g14 15 c15
 exact ⟨h15, g15⟩
theorem res_hand {W : World} {B : Nat} {cs : Array Value} (h : W.heap[B]? = some (.cells cs 81 (0, 0))) (hs : cs.size = 16) (tmps : Array Value) (h4 : tmps.getD 2 undef = .pointer (some ⟨B, 0, none⟩)) :
  (results Tryz.f70 tmps).run Tryz.prog W = .ok (.agg cs) W := by
 have h4' : tmps[2]?.getD undef = .pointer (some ⟨B, 0, none⟩) := by simpa using h4
 have hl := run_loadVar_row (P := Tryz.prog) W B 81 81 cs (0, 0) _ h Tryz.underlying81 rfl (by rw [hs]; kernel_rfl)
 simp [results, Tryz.results70, h4', asAddr, hl]
end
section
open Go Go.RowKit
attribute [local go_sem ↓] Go.wp_at_zero Go.wp_at_succ

def RHa (P : Nat → Prop) (w : World) (cs : List Value) (x : HandT) : Prop := ∃ k, HandP P w k cs x
theorem goes_ha : Goes RHa := fun _ _ _ _ hk _ _ ⟨k, h⟩ => ⟨k, h.kept hk⟩
def RRo (P : Nat → Prop) (w : World) (cs : List Value) (x : RouteT) : Prop := ∃ k, RouteP P w k cs x
theorem goes_ro : Goes RRo := fun _ _ _ _ hk _ _ ⟨k, h⟩ => ⟨k, h.kept hk⟩
def RAv {α : Type} (av : Nat → Prop) (R : (Nat → Prop) → World → List Value → α → Prop) (P : Nat → Prop) (w : World) (cs : List Value) (x : α) : Prop := R (fun b => P b ∧ av b) w cs x
theorem goes_av {α : Type} {av : Nat → Prop} {R : (Nat → Prop) → World → List Value → α → Prop} (hG : Goes R) : Goes (RAv av R) := fun _ _ w w' hk cs x h => hG _ _ w w' (fun b hb hl => ⟨(hk b hb.1 hl).1, (hk b hb.1 hl).2, hb.2⟩) cs x h
theorem ORow.turn {α : Type} {av av' : Nat → Prop} {R : (Nat → Prop) → World → List Value → α → Prop} {base : Nat} {e : TypeId} {k : Nat} {W W' : World} {v : Value} {xs : List α} (h : ORow (RAv av R) base e k W v xs) (hG : Goes R) (h1 : ∀ b, v.ownBlock = some b → W'.heap[b]? = W.heap[b]?) (h2 : ∀ b, b < W.heap.size → base ≤ b → av b → W'.heap[b]? = W.heap[b]? ∧ av' b) : ORow (RAv av' R) base e k W' v xs := by
 obtain ⟨css, k1, k2, k3, k4⟩ := h
 exact ⟨css, k1, ownsRow_heap k2 h1, k3, fun j cs x hc hx => hG _ _ W W' (fun b hb hlt => ⟨(h2 b hlt hb.1.1 hb.2).1, hb.1, (h2 b hlt hb.1.1 hb.2).2⟩) cs x (k4 j cs x hc hx)⟩
theorem ORow.plain {α : Type} {av : Nat → Prop} {R : (Nat → Prop) → World → List Value → α → Prop} {base : Nat} {e : TypeId} {k : Nat} {W : World} {v : Value} {xs : List α} (h : ORow (RAv av R) base e k W v xs) (hG : Goes R) : ORow R base e k W v xs := by
 obtain ⟨css, k1, k2, k3, k4⟩ := h
 exact ⟨css, k1, k2, k3, fun j cs x hc hx => hG _ _ W W (fun b hb _ => ⟨rfl, hb.1⟩) cs x (k4 j cs x hc hx)⟩
theorem wantP_le {S : Src} {k a b : Nat} {c : Unit} (h : wantP S k a = .ok c b) : a ≤ b := by
 unfold wantP at h
 split at h
 ·injection h with _ h; omega
 ·cases h
theorem routeP_lt {S : Src} {a b : Nat} {x : RouteT} (h : routeP S a = .ok x b) : a < b := by
 rw [routeP_eq] at h
 obtain ⟨o, b1, h1, h⟩ := bind_ok2 h
 obtain ⟨w, b2, h2, h⟩ := bind_ok2 h
 obtain ⟨we, b3, h3, h⟩ := bind_ok2 h
 unfold routeL at h
 obtain ⟨o, b4, h4, h⟩ := bind_ok2 h
 obtain ⟨u, b5, h5, h⟩ := bind_ok2 h
 obtain ⟨o, b6, h6, h⟩ := bind_ok2 h
 injection h with _ h
 have := wantP_le h1
 have := takeP_le h2
 have e3 : b2 ≤ b3 := by
  split at h3
  ·obtain ⟨s, d, k1, k2⟩ := bind_ok2 h3
   have := wantW_le k1
   injection k2 with _ k2
   omega
  ·obtain ⟨s, d, k1, k2⟩ := bind_ok2 h3
   have := takeP_le k1
   injection k2 with _ k2
   omega
 have := wantP_le h4
 have := nameP_le h5
 have := wantP_le h6
 omega
theorem wrapsP_le {S : Src} : ∀ (f : Nat) (acc : List WrapT) (a : Nat) (l : List WrapT) (b : Nat), wrapsP S f acc a = .ok l b → a ≤ b
 | 0, acc, a, l, b, h => by injection h with _ h; omega
 | f + 1, acc, a, l, b, h => by
  rw [wrapsP_succ] at h
  obtain ⟨t, c, h1, h⟩ := bind_ok2 h
  have := takeP_le h1
  split at h
  ·obtain ⟨x, d, h2, h3⟩ := bind_ok2 h
   have := wrapP_le h2
   have := wrapsP_le f _ _ _ _ h3
   omega
  ·injection h with _ h; omega
theorem coreP_le {S : Src} {a b : Nat} {x : CoreT} (h : coreP S a = .ok x b) : a ≤ b := by
 unfold coreP at h
 obtain ⟨u, b1, h1, h⟩ := bind_ok2 h
 obtain ⟨m, b2, h2, h⟩ := bind_ok2 h
 obtain ⟨hn, b3, h3, h⟩ := bind_ok2 h
 obtain ⟨c, b4, h4, h⟩ := bind_ok2 h
 obtain ⟨caps, b5, h5, h⟩ := bind_ok2 h
 injection h with _ h
 have := nameP_le h1
 have := takeP_le h2
 have e3 : b2 ≤ b3 := by
  split at h3
  ·obtain ⟨s, d, k1, k2⟩ := bind_ok2 h3
   have := numP_lt k1
   injection k2 with _ k2
   omega
  ·injection h3 with _ h3; omega
 have := takeP_le h4
 have e5 : b4 ≤ b5 := by
  split at h5
  ·exact listP_le h5
  ·injection h5 with _ h5; omega
 omega
theorem roomP_le {S : Src} {a b : Nat} {x : Bool × Int × Us} (h : roomP S a = .ok x b) : a ≤ b := by
 unfold roomP at h
 obtain ⟨r, b1, h1, h⟩ := bind_ok2 h
 have := takeP_le h1
 split at h
 ·obtain ⟨n, b2, h2, h⟩ := bind_ok2 h
  obtain ⟨d, b3, h3, h⟩ := bind_ok2 h
  obtain ⟨u, b4, h4, h⟩ := bind_ok2 h
  injection h with _ h
  have := numP_lt h2
  have := takeP_le h3
  have e4 : b3 ≤ b4 := by
   split at h4
   ·have := nameP_le h4; omega
   ·injection h4 with _ h4; omega
  omega
 ·injection h with _ h; omega
theorem handlerP_lt {S : Src} {a b : Nat} {x : HandT} (h : handlerP S a = .ok x b) : a < b := by
 rw [handlerP_eq] at h
 obtain ⟨nm, b1, h1, h⟩ := bind_ok2 h
 obtain ⟨o, b2, h2, h⟩ := bind_ok2 h
 obtain ⟨o2, b3, h3, h⟩ := bind_ok2 h
 obtain ⟨oc, b4, h4, h⟩ := bind_ok2 h
 unfold handK at h
 obtain ⟨ws, b5, h5, h⟩ := bind_ok2 h
 unfold handL at h
 obtain ⟨r, b6, h6, h⟩ := bind_ok2 h
 unfold handM at h
 obtain ⟨t, b7, h7, h⟩ := bind_ok2 h
 obtain ⟨af, b8, h8, h⟩ := bind_ok2 h
 obtain ⟨o3, b9, h9, h⟩ := bind_ok2 h
 injection h with _ h
 have := nameP_le h1
 have := wantP_le h2
 have := takeP_le h3
 have e4 : b3 ≤ b4 := by
  split at h4
  ·obtain ⟨s, d, k1, k2⟩ := bind_ok2 h4
   have := nameP_le k1
   injection k2 with _ k2
   omega
  ·obtain ⟨s, d, k1, k2⟩ := bind_ok2 h4
   have := coreP_le k1
   injection k2 with _ k2
   omega
 have := wrapsP_le _ _ _ _ _ h5
 have := roomP_le h6
 have := takeP_le h7
 have e8 : b7 ≤ b8 := by
  split at h8
  ·exact listP_le h8
  ·injection h8 with _ h8; omega
 have := wantP_le h9
 omega
theorem info_hand : (Tryz.prog.info? 81).map (fun i => (i.zero, i.size, i.bytes)) = some (some (.agg #[.string ByteArray.empty, .string ByteArray.empty, .int .i64 0, .string ByteArray.empty, .bool false, .bool false, .int .u64 0, .slice none 0 0, .int .i64 0, .slice none 0 0, .bool false, .int .u64 0, .string ByteArray.empty, .int .i64 0, .slice none 0 0, .int .i64 0]), 16, 200) := by kernel_rfl
theorem info_route : (Tryz.prog.info? 84).map (fun i => (i.zero, i.size, i.bytes)) = some (some (.agg #[.string ByteArray.empty, .int .i64 0, .bool false, .int .i64 0, .int .i64 0, .slice none 0 0, .bool false, .string ByteArray.empty, .int .i64 0, .int .i64 0]), 10, 112) := by kernel_rfl
section
variable {W0 Ws w5 w6 w1' : World} {B X D base : Nat} {T TY : TypeId} {S : Src} {tv nv : Value} {zs cs : Array Value} {a deep i e k e2 k2 : Nat} {v vB : Value} {α β : Type} {R : (Nat → Prop) → World → List Value → α → Prop} {RB : (Nat → Prop) → World → List Value → β → Prop} {xs : List α} {ys : List β} {x : α} {new : List Value} {o : Obj} {g2 cap2 : Nat}
theorem two_step (hG : Goes R) (hGB : Goes RB) (h : Dec W0 Ws w6 B X D T TY S tv nv zs cs a deep) (hr : ORow (RAv (fun b => some b ≠ vB.ownBlock) R) base e k w5 v xs) (hB : ORow (RAv (fun b => some b ≠ v.ownBlock) RB) base e2 k2 w5 vB ys) (hap : ∀ b, v.ownBlock = some b → vB.ownBlock ≠ some b) (h56 : w5.heap.size ≤ w6.heap.size) (hk : ∀ b, b < w5.heap.size → base ≤ b → w6.heap[b]? = w5.heap[b]?) (hbD : D < base) (hbw : base ≤ w5.heap.size) {css : List (List Value)} (hc1 : css.length = xs.length) (hc3 : ∀ cs ∈ css, cs.length = k) (hc4 : ∀ (j : Nat) (cs : List Value) (x : α), css[j]? = some cs → xs[j]? = some x → RAv (fun b => some b ≠ vB.ownBlock) R (fun b => base ≤ b ∧ some b ≠ v.ownBlock) w6 cs x) (hx : R (fun b => w5.heap.size ≤ b) w6 new x) (hn : new.length = k)
  (hg : (w6.alloc o).grownBy w1' v.ownBlock) (hat : v.ownBlock = some g2 ∨ g2 = w6.heap.size + 1) (hown : w1'.ownsRow base e k (.slice (some ⟨g2, 0, none⟩) (xs.length + 1) cap2) (xs.length + 1) (css.flatten ++ new)) :
  Dec W0 Ws (w1'.setCell ⟨D, i, none⟩ (.slice (some ⟨g2, 0, none⟩) (xs.length + 1) cap2)) B X D T TY S tv nv zs (cs.setIfInBounds i (.slice (some ⟨g2, 0, none⟩) (xs.length + 1) cap2)) a deep ∧ ORow (RAv (fun b => some b ≠ vB.ownBlock) R) base e k (w1'.setCell ⟨D, i, none⟩ (.slice (some ⟨g2, 0, none⟩) (xs.length + 1) cap2)) (.slice (some ⟨g2, 0, none⟩) (xs.length + 1) cap2) (xs ++ [x]) ∧ ORow (RAv (fun b => some b ≠ Value.ownBlock (.slice (some ⟨g2, 0, none⟩) (xs.length + 1) cap2)) RB) base e2 k2 (w1'.setCell ⟨D, i, none⟩ (.slice (some ⟨g2, 0, none⟩) (xs.length + 1) cap2)) vB ys ∧ (∀ b, Value.ownBlock (.slice (some ⟨g2, 0, none⟩) (xs.length + 1) cap2) = some b → vB.ownBlock ≠ some b) ∧ w1'.cell? ⟨D, i, none⟩ = cs[i]? ∧ w1'.frozen? ⟨D, i, none⟩ = false ∧ D < w1'.heap.size ∧ base ≤ w1'.heap.size := by
 have hlB := hB.lt
 have hx' : RAv (fun b => some b ≠ vB.ownBlock) R (fun b => w5.heap.size ≤ b) w6 new x := hG _ _ w6 w6 (fun b hb _ => ⟨rfl, hb, fun e => by have := (hlB b e.symm).2; omega⟩) _ _ hx
 obtain ⟨k1, k2', k3, k4, k5, -, k7⟩ := row_step (i := i) (goes_av hG) h hr h56 hbD hbw hc1 hc3 hc4 hx' hn hg hat hown
 have hne : ∀ c, c < w6.heap.size → some c ≠ v.ownBlock → some c ≠ Value.ownBlock (.slice (some ⟨g2, 0, none⟩) (xs.length + 1) cap2) := fun c hc hne e => by
  have e : c = g2 := by injection e
  rcases hat with e2 | e2
  ·exact hne (by rw [e, e2])
  ·omega
 have hb8 : ∀ c, c < w6.heap.size → base ≤ c → some c ≠ v.ownBlock → (w1'.setCell ⟨D, i, none⟩ (.slice (some ⟨g2, 0, none⟩) (xs.length + 1) cap2)).heap[c]? = w6.heap[c]? := fun c hc hb hne => (Below.heap_setCell _ _ _ _ (fun e => by have e : c = D := e; omega)).trans ((hg.block c (by rw [World.size_alloc]; omega) hne).trans (Below.heap_alloc _ _ _ hc))
 have hap2 : ∀ b, vB.ownBlock = some b → some b ≠ v.ownBlock := fun b hb e => hap b e.symm hb
 refine ⟨k1, k2', hB.turn hGB (fun b hb => ?_) (fun b hlt hbb hav => ?_), fun b hb hbB => ?_, k3, k4, k5, k7⟩
 ·have hl := hlB b hb
  exact (hb8 b (by omega) hl.1 (hap2 b hb)).trans (hk b hl.2 hl.1)
 ·exact ⟨(hb8 b (by omega) hbb hav).trans (hk b hlt hbb), hne b (by omega) hav⟩
 ·have hl := hlB b hbB
  exact hne b (by omega) (hap2 b hbB) hb.symm
end
theorem set2c {W : World} {b : Nat} {t : TypeId} {o0 o1 : Value} (h : W.heap[b]? = some (.cells #[o0, o1] t (0, 0))) (c0 c1 : Value) :
  ((W.setCell ⟨b, 0, none⟩ c0).setCell ⟨b, 1, none⟩ c1).heap[b]? = some (.cells #[c0, c1] t (0, 0)) ∧ W.grownBy ((W.setCell ⟨b, 0, none⟩ c0).setCell ⟨b, 1, none⟩ c1) (some b) := by
 have g := gr_refl W (some b)
 have h0 : (W.setCell ⟨b, 0, none⟩ c0).heap[b]? = some (.cells #[c0, o1] t (0, 0)) := heap_setCell_same W b 0 _ _ _ h
 have g0 := gr_set g 0 c0
 generalize W.setCell ⟨b, 0, none⟩ c0 = W0 at h0 g0 ⊢
 have h1 : (W0.setCell ⟨b, 1, none⟩ c1).heap[b]? = some (.cells #[c0, c1] t (0, 0)) := heap_setCell_same W0 b 1 _ _ _ h0
 have g1 := gr_set g0 1 c1
 exact ⟨h1, g1⟩
theorem res_conf {W : World} {B : Nat} {cs : Array Value} (h : W.heap[B]? = some (.cells cs 26 (0, 0))) (hs : cs.size = 2) (tmps : Array Value) (h4 : tmps.getD 2 undef = .pointer (some ⟨B, 0, none⟩)) :
  (results Tryz.f32 tmps).run Tryz.prog W = .ok (.agg cs) W := by
 have h4' : tmps[2]?.getD undef = .pointer (some ⟨B, 0, none⟩) := by simpa using h4
 have hl := run_loadVar_row (P := Tryz.prog) W B 26 26 cs (0, 0) _ h Tryz.underlying26 rfl (by rw [hs]; kernel_rfl)
 simp [results, Tryz.results32, h4', asAddr, hl]
end
section
open Go Go.RowKit

theorem kFrom_in : ∀ (ws : List (List UInt8)) (n : Nat) (s : List UInt8), kFrom ws n s = 0 ∨ (n ≤ kFrom ws n s ∧ kFrom ws n s < n + ws.length)
 | [], n, s => .inl rfl
 | x :: r, n, s => by
  unfold kFrom
  by_cases h : x = s
  ·rw [if_pos h]; right; rw [List.length_cons]; omega
  ·rw [if_neg h]
   rcases kFrom_in r (n + 1) s with h1 | h1
   ·exact .inl h1
   ·right; rw [List.length_cons]; omega
theorem kindS_in {s : List UInt8} (h : kindS s ≠ 0) : 1 ≤ kindS s ∧ kindS s ≤ 25 := by
 rcases kFrom_in wordsS 4 s with h1 | ⟨h1, h2⟩
 ·exact absurd h1 h
 ·have e : wordsS.length = 22 := rfl
  have e2 : kindS s = kFrom wordsS 4 s := rfl
  omega
theorem oneS_kind {l : List UInt8} {p : Nat} (h : (oneS l p).1 = 0) : 1 ≤ (oneS l p).2.kind ∧ (oneS l p).2.kind ≤ 25 := by
 cases l with
 | nil => simp [oneS] at h
 | cons c r =>
  by_cases h1 : clsS c.toNat = 1
  ·rw [oneS_word r p h1]
   split
   ·exact ⟨Nat.le_refl _, by show 1 ≤ 25; omega⟩
   ·exact kindS_in (by assumption)
  ·by_cases h2 : clsS c.toNat = 2
   ·rw [oneS_num r p h2]; exact ⟨by show 1 ≤ 2; omega, by show 2 ≤ 25; omega⟩
   ·by_cases h3 : c = 34
    ·subst h3
     cases hq : qS r with
     | none => rw [oneS_text_none r p hq] at h; simp at h
     | some x => rw [oneS_text_some r p hq]; exact ⟨by show 1 ≤ 3; omega, by show 3 ≤ 25; omega⟩
    ·by_cases h4 : 2 ≤ (c :: r).length ∧ kindS ((c :: r).take 2) ≠ 0
     ·rw [oneS_two p h1 h2 h3 h4]; exact kindS_in h4.2
     ·by_cases h5 : kindS [c] ≠ 0
      ·rw [oneS_mark p h1 h2 h3 h4 h5]; exact kindS_in h5
      ·rw [oneS_none p h1 h2 h3 h4 h5] at h; simp at h
theorem oneS_at (l : List UInt8) (p : Nat) : (oneS l p).2.pos = p := by
 cases l with
 | nil => rfl
 | cons c r =>
  show (oneC c r p).2.pos = p
  unfold oneC
  repeat' split
  all_goals rfl
def TokOk (n : Nat) (t : Tok) : Prop := 1 ≤ t.kind ∧ t.kind ≤ 25 ∧ t.pos ≤ t.stop ∧ t.stop ≤ n
theorem scanF_ok : ∀ (f : Nat) (l : List UInt8) (p r : Nat) (ts : List Tok), scanF f l p r = .toks ts → ts.length ≤ r ∧ ∀ t ∈ ts, TokOk (p + l.length) t
 | 0, l, p, r, ts, h => by
  injection h with h
  subst h
  exact ⟨Nat.zero_le _, fun t ht => absurd ht List.not_mem_nil⟩
 | f + 1, l, p, r, ts, h => by
  unfold scanF at h
  by_cases hl : l = []
  ·rw [if_pos hl] at h
   injection h with h
   subst h
   exact ⟨Nat.zero_le _, fun t ht => absurd ht List.not_mem_nil⟩
  ·rw [if_neg hl] at h
   cases hs : skipN l with
   | none => rw [hs] at h; cases h
   | some n =>
    rw [hs] at h
    have hn := skipN_le hs
    cases n with
    | succ n =>
     obtain ⟨h1, h2⟩ := scanF_ok f _ _ _ _ h
     refine ⟨h1, fun t ht => ?_⟩
     obtain ⟨k1, k2, k3, k4⟩ := h2 t ht
     rw [List.length_drop] at k4
     exact ⟨k1, k2, k3, by omega⟩
    | zero =>
     by_cases e1 : (oneS l p).1 = 61
     ·rw [if_pos e1] at h; cases h
     ·rw [if_neg e1] at h
      by_cases e2 : r = 0
      ·rw [if_pos e2] at h; cases h
      ·rw [if_neg e2] at h
       by_cases e3 : (oneS l p).1 ≠ 0
       ·rw [if_pos e3] at h; cases h
       ·rw [if_neg e3] at h
        have e3 : (oneS l p).1 = 0 := Classical.not_not.1 e3
        have hst := oneS_stop e3
        have hk := oneS_kind e3
        have hp := oneS_at l p
        cases hg : scanF f (l.drop ((oneS l p).2.stop - p)) (oneS l p).2.stop (r - 1) with
        | bad q e => rw [hg] at h; cases h
        | toks us =>
         rw [hg] at h
         injection h with h
         subst h
         obtain ⟨h1, h2⟩ := scanF_ok f _ _ _ _ hg
         refine ⟨by rw [List.length_cons]; omega, fun t ht => ?_⟩
         rcases List.mem_cons.1 ht with rfl | ht
         ·exact ⟨hk.1, hk.2, by omega, hst.2⟩
         ·obtain ⟨k1, k2, k3, k4⟩ := h2 t ht
          rw [List.length_drop] at k4
          exact ⟨k1, k2, k3, by omega⟩
theorem scanS_ok {l : List UInt8} {ts : List Tok} (h : scanS l = .toks ts) : l.length ≤ 65536 ∧ ts.length ≤ 16384 ∧ ∀ t ∈ ts, TokOk l.length t := by
 unfold scanS at h
 by_cases hl : 65536 < l.length
 ·rw [if_pos hl] at h; cases h
 ·rw [if_neg hl] at h
  obtain ⟨h1, h2⟩ := scanF_ok _ _ _ _ _ h
  exact ⟨by omega, h1, fun t ht => by have := h2 t ht; rwa [Nat.zero_add] at this⟩
end
end Go.Proofs.YtbdllefnghddcaaGreatDoor
