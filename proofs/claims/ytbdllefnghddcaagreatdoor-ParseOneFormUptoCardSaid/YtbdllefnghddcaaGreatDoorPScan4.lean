/- THE PROGRAM's next: what it makes in memory. THE PROGRAM's next, at a word. -/
import Derived.Test.YtbdllefnghddcaaGreatDoorScanSkip
import Derived.Deep.RegionHeld3
import Derived.Deep.RegionWith
namespace Go.Proofs.YtbdllefnghddcaaGreatDoor
section
open Go Go.RowKit

def tokV (t : Tok) : Value := .agg #[.int .i64 (t.kind : Nat), .int .i64 (t.pos : Nat), .int .i64 (t.stop : Nat), .int .u64 (t.num : Nat), .string (ba t.text)]
def NextPost (w : World) (l : List UInt8) (p : Nat) (e : Ending) (w' : World) : Prop :=
 ∃ t : Tok, e = .returned (.tuple #[tokV t, .int .i64 ((oneS (l.drop p) p).1 : Nat)]) ∧ ((oneS (l.drop p) p).1 = 0 → t = (oneS (l.drop p) p).2) ∧ Below w.heap.size w w'

theorem Bs.piece {w : World} {pv : Option Addr} {m cap : Nat} {l : List UInt8} (h : Bs w (.slice pv m cap) l) {p n : Nat} (hn : p + n ≤ l.length) :
  ∃ q cq, (∀ w' : World, Sem.run Tryz.prog (Instr.slice 22 (.slice pv m cap) (some (Value.int IntKind.i64 (p : Nat))) (some (Value.int IntKind.i64 ((p : Int) + (n : Int)))) none) w' = .ok (.slice q n cq) w') ∧ Bs w (.slice q n cq) ((l.drop p).take n) ∧
   (∀ W' : World, Below w.heap.size w W' → (convert 22 9 (.slice q n cq)).run Tryz.prog W' = .ok (.string (ba ((l.drop p).take n))) W') := by
 obtain ⟨q, cq, h1, h2⟩ := h.window (i := p) (j := p + n) (by omega) hn
 have e : p + n - p = n := by omega
 rw [e] at h2
 refine ⟨q, cq, fun w' => ?_, h2, fun W' hb => (h2.below hb).text⟩
 have := h1 w'
 rw [e] at this
 exact this

structure NW (w W : World) (k p s n : Nat) (x : ByteArray) : Prop where
 bel : Below w.heap.size w W
 res : W.heap[w.heap.size]? = some (.cells #[.int .i64 0, .int .i64 0, .int .i64 0, .int .u64 0, .string ⟨#[]⟩] 114 (0, 0))
 tok : W.heap[w.heap.size + 1]? = some (.cells #[.int .i64 (k : Nat), .int .i64 (p : Nat), .int .i64 (s : Nat), .int .u64 (n : Nat), .string x] 114 (0, 0))

theorem NW.start (w : World) (p q : Nat) : NW w (((w.alloc (.cells #[.int .i64 0, .int .i64 0, .int .i64 0, .int .u64 0, .string ⟨#[]⟩] 114)).alloc (.cells #[.int .i64 0, .int .i64 (p : Nat), .int .i64 (p : Nat), .int .u64 0, .string ⟨#[]⟩] 114)).drewN q) 0 p p 0 ⟨#[]⟩ :=
 ⟨below_drewN (((Below.refl _ _).alloc (Nat.le_refl _) _).alloc (by simp) _) q, by
  have h1 := heap_alloc_new w (.cells #[.int .i64 0, .int .i64 0, .int .i64 0, .int .u64 0, .string ⟨#[]⟩] 114)
  exact (Below.heap_alloc _ _ _ (by rw [World.size_alloc]; omega)).trans h1, by
  have h1 := heap_alloc_new (w.alloc (.cells #[.int .i64 0, .int .i64 0, .int .i64 0, .int .u64 0, .string ⟨#[]⟩] 114)) (.cells #[.int .i64 0, .int .i64 (p : Nat), .int .i64 (p : Nat), .int .u64 0, .string ⟨#[]⟩] 114)
  rw [World.size_alloc] at h1
  exact h1⟩

section
variable {w W : World} {k p s n : Nat} {x : ByteArray}
theorem NW.lt (h : NW w W k p s n x) : w.heap.size + 1 < W.heap.size := by
 rcases Nat.lt_or_ge (w.heap.size + 1) W.heap.size with hlt | hge
 ·exact hlt
 ·have := h.tok; rw [Array.getElem?_eq_none hge] at this; cases this
theorem NW.drewN (h : NW w W k p s n x) (q : Nat) : NW w (W.drewN q) k p s n x := ⟨below_drewN h.bel q, h.res, h.tok⟩
theorem NW.below {W' : World} (h : NW w W k p s n x) (hb : Below W.heap.size W W') : NW w W' k p s n x := by
 have hl := h.lt
 exact ⟨h.bel.trans (hb.mono (by omega)), (hb.block _ (by omega)).trans h.res, (hb.block _ (by omega)).trans h.tok⟩
theorem NW.set_ (h : NW w W k p s n x) (i : Nat) (u : Value) {cs : Array Value} (hcs : (#[.int .i64 (k : Nat), .int .i64 (p : Nat), .int .i64 (s : Nat), .int .u64 (n : Nat), .string x] : Array Value).setIfInBounds i u = cs) :
  Below w.heap.size w (W.setCell ⟨w.heap.size + 1, i, none⟩ u) ∧ (W.setCell ⟨w.heap.size + 1, i, none⟩ u).heap[w.heap.size]? = some (.cells #[.int .i64 0, .int .i64 0, .int .i64 0, .int .u64 0, .string ⟨#[]⟩] 114 (0, 0)) ∧
   (W.setCell ⟨w.heap.size + 1, i, none⟩ u).heap[w.heap.size + 1]? = some (.cells cs 114 (0, 0)) :=
 ⟨h.bel.setCell (p := ⟨w.heap.size + 1, i, none⟩) (by simp) u, (Below.heap_setCell _ _ _ _ (by simp)).trans h.res, by rw [heap_setCell_same W _ i _ _ _ h.tok, hcs]⟩
theorem NW.set0 (h : NW w W k p s n x) (k' : Nat) {u : Value} (hu : u = .int .i64 (k' : Nat)) : NW w (W.setCell ⟨w.heap.size + 1, 0, none⟩ u) k' p s n x := by
 subst hu; obtain ⟨a, b, c⟩ := h.set_ 0 (.int .i64 (k' : Nat)) rfl; exact ⟨a, b, c⟩
theorem NW.set2 (h : NW w W k p s n x) (s' : Nat) {u : Value} (hu : u = .int .i64 (s' : Nat)) : NW w (W.setCell ⟨w.heap.size + 1, 2, none⟩ u) k p s' n x := by
 subst hu; obtain ⟨a, b, c⟩ := h.set_ 2 (.int .i64 (s' : Nat)) rfl; exact ⟨a, b, c⟩
theorem NW.set3 (h : NW w W k p s n x) (n' : Nat) {u : Value} (hu : u = .int .u64 (n' : Nat)) : NW w (W.setCell ⟨w.heap.size + 1, 3, none⟩ u) k p s n' x := by
 subst hu; obtain ⟨a, b, c⟩ := h.set_ 3 (.int .u64 (n' : Nat)) rfl; exact ⟨a, b, c⟩
theorem NW.set4 (h : NW w W k p s n x) (x' : ByteArray) {u : Value} (hu : u = .string x') : NW w (W.setCell ⟨w.heap.size + 1, 4, none⟩ u) k p s n x' := by
 subst hu; obtain ⟨a, b, c⟩ := h.set_ 4 (.string x') rfl; exact ⟨a, b, c⟩
theorem NW.cells (h : NW w W k p s n x) : W.cell? ⟨w.heap.size + 1, 0, none⟩ = some (.int .i64 (k : Nat)) ∧ W.cell? ⟨w.heap.size + 1, 1, none⟩ = some (.int .i64 (p : Nat)) ∧ W.cell? ⟨w.heap.size + 1, 2, none⟩ = some (.int .i64 (s : Nat)) ∧
  W.cell? ⟨w.heap.size + 1, 3, none⟩ = some (.int .u64 (n : Nat)) ∧ W.cell? ⟨w.heap.size + 1, 4, none⟩ = some (.string x) := by
 refine ⟨?_, ?_, ?_, ?_, ?_⟩ <;> (rw [cell_of_row W _ _ _ _ _ h.tok]; rfl)
theorem NW.frozen (h : NW w W k p s n x) (i : Nat) : W.frozen? ⟨w.heap.size + 1, i, none⟩ = false := by have := h.tok; simp [World.frozen?, this]
theorem NW.cellR (h : NW w W k p s n x) : W.cell? ⟨w.heap.size, 0, none⟩ = some (.int .i64 0) ∧ W.cell? ⟨w.heap.size, 1, none⟩ = some (.int .i64 0) ∧ W.cell? ⟨w.heap.size, 2, none⟩ = some (.int .i64 0) ∧
  W.cell? ⟨w.heap.size, 3, none⟩ = some (.int .u64 0) ∧ W.cell? ⟨w.heap.size, 4, none⟩ = some (.string ⟨#[]⟩) := by
 refine ⟨?_, ?_, ?_, ?_, ?_⟩ <;> (rw [cell_of_row W _ _ _ _ _ h.res]; rfl)
theorem NW.frozenR (h : NW w W k p s n x) (i : Nat) : W.frozen? ⟨w.heap.size, i, none⟩ = false := by have := h.res; simp [World.frozen?, this]
end
theorem NW.drew_ {w W : World} {k p s n : Nat} {x : ByteArray} (h : NW w W k p s n x) : NW w W.drew k p s n x := ⟨h.bel.drew, h.res, h.tok⟩
theorem keepC {w W : World} {k p s n : Nat} {x T : ByteArray} {g p0 : Nat} {v V : Value} (hcv : ∀ W' : World, Below w.heap.size w W' → (convert 22 9 V).run Tryz.prog W' = .ok (.string T) W') (hS : Scn w g v p0) (h : NW w W k p s n x) :
  W.cell? ⟨g, 0, none⟩ = some v ∧ W.cell? ⟨w.heap.size + 1, 1, none⟩ = some (.int .i64 (p : Nat)) ∧ W.cell? ⟨w.heap.size + 1, 2, none⟩ = some (.int .i64 (s : Nat)) ∧ (convert 22 9 V).run Tryz.prog W = .ok (.string T) W :=
 ⟨(hS.below h.bel).cell0, h.cells.2.1, h.cells.2.2.1, hcv _ h.bel⟩
theorem wp_world {P : Program} {c : Code} {Q : Exit → Act → World → Prop} {a : Act} {W : World} (R : World → Prop) (h : R W) (H : ∀ W, R W → Code.wp P c Q a W) : Code.wp P c Q a W := H W h
theorem k_world {K : Act → World → Prop} {a : Act} {W : World} (R : World → Prop) (h : R W) (H : ∀ W, R W → K a W) : K a W := H W h
theorem next_err {w W : World} {l : List UInt8} {p e : Nat} {t : Tok} (he : (oneS (l.drop p) p).1 = e) (h0 : ¬ e = 0) (hb : Below w.heap.size w W) : NextPost w l p (.returned (.tuple #[tokV t, .int .i64 (e : Nat)])) W :=
 ⟨t, by rw [he], fun h => absurd (he.symm.trans h) h0, hb⟩
theorem next_ok {w W : World} {l : List UInt8} {p : Nat} {t : Tok} (he : oneS (l.drop p) p = (0, t)) (hb : Below w.heap.size w W) : NextPost w l p (.returned (.tuple #[tokV t, .int .i64 0])) W :=
 ⟨t, by rw [he]; rfl, fun _ => by rw [he], hb⟩
theorem next_done {w W : World} {k p s n : Nat} {x : ByteArray} (h : NW w W k p s n x) (a0 a1 a2 a3 a4 : Value) :
  (((((W.setCell ⟨w.heap.size, 0, none⟩ a0).setCell ⟨w.heap.size, 1, none⟩ a1).setCell ⟨w.heap.size, 2, none⟩ a2).setCell ⟨w.heap.size, 3, none⟩ a3).setCell ⟨w.heap.size, 4, none⟩ a4).heap[w.heap.size]? = some (.cells #[a0, a1, a2, a3, a4] 114 (0, 0)) ∧
  Below w.heap.size w (((((W.setCell ⟨w.heap.size, 0, none⟩ a0).setCell ⟨w.heap.size, 1, none⟩ a1).setCell ⟨w.heap.size, 2, none⟩ a2).setCell ⟨w.heap.size, 3, none⟩ a3).setCell ⟨w.heap.size, 4, none⟩ a4) := by
 have h0 := heap_setCell_same W w.heap.size 0 _ _ a0 h.res
 have h1 := heap_setCell_same _ w.heap.size 1 _ _ a1 h0
 have h2 := heap_setCell_same _ w.heap.size 2 _ _ a2 h1
 have h3 := heap_setCell_same _ w.heap.size 3 _ _ a3 h2
 have h4 := heap_setCell_same _ w.heap.size 4 _ _ a4 h3
 refine ⟨h4, ?_⟩
 have b := fun {W1 : World} (hb : Below w.heap.size w W1) (i : Nat) (u : Value) => hb.setCell (p := ⟨w.heap.size, i, none⟩) (Nat.le_refl _) u
 exact b (b (b (b (b h.bel 0 a0) 1 a1) 2 a2) 3 a3) 4 a4
theorem resT {W : World} {B : Nat} {cs : Array Value} (h : W.heap[B]? = some (.cells cs 114 (0, 0))) (hs : cs.size = 5) (tmps : Array Value) (h2 : tmps.getD 2 undef = .pointer (some ⟨B, 0, none⟩)) :
  (results Tryz.f69 tmps).run Tryz.prog W = .ok (.tuple #[.agg cs, tmps.getD 3 undef]) W := by
 have h2' : tmps[2]?.getD undef = .pointer (some ⟨B, 0, none⟩) := by simpa using h2
 have hl := run_loadVar_row (P := Tryz.prog) W B 114 114 cs (0, 0) _ h Tryz.underlying114 rfl (by rw [hs]; kernel_rfl)
 simp [results, Tryz.results69, h2', asAddr, hl]
theorem k_calls {P : Program} {f : FuncId} {args : Array Value} {Q : Ending → World → Prop} {W : World} (R : World → Prop) (h : R W) (H : ∀ W, R W → Calls P f args W Q) : Calls P f args W Q := H W h
theorem keep1 {w W : World} {k p s n : Nat} {x : ByteArray} {g p0 : Nat} {v : Value} (hS : Scn w g v p0) (h : NW w W k p s n x) : W.cell? ⟨g, 1, none⟩ = some (.int .i64 (p0 : Nat)) := (hS.below h.bel).cell1
end
section
open Go Go.RowKit

set_option maxRecDepth 100000 in
set_option maxHeartbeats 8000000 in
theorem next_word (g : Nat) (v : Value) (l : List UInt8) (p : Nat) (c : UInt8) (w : World) (hE : Env w) (hV : Bs w v l) (hS : Scn w g v p) (hl : l.length ≤ 1048577) (hp : p < l.length) (hc : l[p]? = some c) (hcl : clsS c.toNat = 1) :
  Calls Tryz.prog 69 #[.pointer (some ⟨g, 0, none⟩)] w (NextPost w l p) := by
 obtain ⟨b, o, cap, rfl, hbl⟩ := hV.form (by omega)
 obtain ⟨q, cq, hcut, hR, hq⟩ := hV.cut (k := p) (by omega)
 obtain ⟨o2, rfl⟩ := hq b o rfl
 clear hq
 have hdr := drop_one hc
 obtain ⟨n, hn⟩ : ∃ n, runS alnB (l.drop p) = n := ⟨_, rfl⟩
 have hn0 : 0 < n := by rw [← hn, hdr]; exact runS_pos _ _ _ (by simp [alnB, hcl])
 have hnl : n ≤ (l.drop p).length := by rw [← hn]; exact runS_le _ _
 rw [List.length_drop] at hnl
 obtain ⟨q3, cq3, hwin, hW3, hcv⟩ := hV.piece (p := p) (n := n) (by omega)
 have HO : Hid (oneS (l.drop p) p = if kindS ((l.drop p).take n) = 0 then (if 32 < n then 63 else 0, ⟨1, p, p + n, 0, []⟩) else (0, ⟨kindS ((l.drop p).take n), p, p + n, 0, []⟩)) := by
  show _ = _
  rw [hdr, oneS_word _ _ hcl, ← hdr, hn]
 have CR : Hid (∀ w', Below w.heap.size w w' → Calls Tryz.prog 114 #[.pointer (some ⟨g, 0, none⟩), .bool true] w' (RunPost w' n)) := fun w' hb => by
  have := run_any g _ l p true w' (hV.below hb) hl hp (hS.below hb).cell0 (hS.below hb).cell1
  rwa [show runS (runP true) (l.drop p) = n from hn] at this
 obtain ⟨K, hK⟩ : ∃ K, kindS ((l.drop p).take n) = K := ⟨_, rfl⟩
 rw [hK] at HO
 have CK : Hid (∀ w', Below w.heap.size w w' → Calls Tryz.prog 115 #[.string (ba ((l.drop p).take n))] w' fun e w2 => e = .returned (.int .i64 (K : Nat)) ∧ w' = w2) := fun w' hb => by
  have := kind_any (ba ((l.drop p).take n)) w' (hE.1.below hb)
  rwa [ba_bytes, hK] at this
 obtain ⟨PP, hPP⟩ : ∃ PP, NextPost w l p = PP := ⟨_, rfl⟩
 rw [hPP]
 have HPP := Lib.hid hPP
 clear hPP
 obtain ⟨R, hRd⟩ : ∃ R, l.drop p = R := ⟨_, rfl⟩
 rw [hRd] at hcut hR hdr CK hcv
 obtain ⟨T, hT⟩ : ∃ T, ba (R.take n) = T := ⟨_, rfl⟩
 rw [hT] at CK hcv
 have hRc : w.cell? ⟨b, o2, none⟩ = some (.int .u8 (c.toNat : Nat)) := by have := hR.cell (i := 0) (x := c) (by rw [hdr]; rfl); simpa using this
 have hRl : 0 < R.length := by rw [hdr]; simp
 have hp' : (p : Int) < (l.length : Int) := by omega
 have CC := Lib.hid (fun w => class_any c w)
 rw [hcl] at CC
 have hc0 := hS.cell0
 have hc1 := hS.cell1
 have hg := hS.lt
 have hne1 : ¬ g = w.heap.size + 1 := by omega
 clear hdr hcl hc hn hK hT
 have HS := Lib.hid hS
 have HCV := Lib.hid hcv
 have hw1 : IntKind.i64.wrap ((p : Int) + (n : Int)) = (p : Int) + (n : Int) := IntWalk.i64_in _ (by omega)
 clear hRd hR hS hV hE hcv hW3
 go_enter Tryz.func69, Tryz.ntmps69
 go_wp2
 go_region_held3 (fun w' => w'.cell? ⟨g, 1, none⟩ = some (.int .i64 (p : Nat))) (go_keep) (fail)
 go_wp2
 go_quiet (fail)
 go_wp2_with (go_at_call 110; refine (CC.out _).mono ?_; rintro e w2 ⟨rfl, rfl⟩)
 refine wp_world (fun W => NW w W 0 p p 0 ⟨#[]⟩) (by exact NW.start w p _) (fun W HN => ?_)
 have ⟨k0, k1, k2, k3, k4⟩ := HN.cells
 have f2 := HN.frozen 2
 have HNh := Lib.hid HN
 clear HN
 go_region_with (first | (go_at_call 114; refine (CR.out _ (by exact below_drewN HNh.out.bel _)).mono ?_; rintro e w2 ⟨rfl, q4, rfl⟩))
 all_goals
  go_wp2
  refine wp_world (fun W => NW w W 0 p (p + n) 0 ⟨#[]⟩) (by exact (HNh.out.drewN _).set2 _ (by go_num)) (fun W2 HN2 => ?_)
  clear k0 k1 k2 k3 k4 f2 HNh
  have ⟨k0, k1, k2, k3, k4⟩ := HN2.cells
  have g0 := (HS.out.below HN2.bel).cell0
  have f0 := HN2.frozen 0
  have HN2h := Lib.hid HN2
  have hcv2 : (convert 22 9 (.slice q3 n cq3)).run Tryz.prog W2.drew = .ok (.string T) W2.drew := HCV.out _ HN2.bel.drew
  clear HN2
  go_region_held3 (fun w' => w'.cell? ⟨g, 0, none⟩ = some (.slice (some ⟨b, o, none⟩) l.length cap) ∧ w'.cell? ⟨w.heap.size + 1, 1, none⟩ = some (.int .i64 (p : Nat)) ∧ w'.cell? ⟨w.heap.size + 1, 2, none⟩ = some (.int .i64 ((p : Int) + (n : Int))) ∧ (convert 22 9 (.slice q3 n cq3)).run Tryz.prog w' = .ok (.string T) w') (first | exact keepC HCV.out HS.out HN2h.out.drew_ | exact keepC HCV.out HS.out (HN2h.out.set0 K rfl).drew_) (first | (go_at_call 115; refine (CK.out _ (by exact below_drewN HN2h.out.bel _)).mono ?_; rintro e w2 ⟨rfl, rfl⟩))
  all_goals
   refine k_world (fun W => NW w W K p (p + n) 0 ⟨#[]⟩) (by exact (HN2h.out.set0 K rfl).drew_) (fun W3 HN3 => ?_)
   clear k0 k1 k2 k3 k4 f0 g0 HN2h hcv2
   have ⟨k0, k1, k2, k3, k4⟩ := HN3.cells
   have ⟨r0, r1, r2, r3, r4⟩ := HN3.cellR
   have f0 := HN3.frozen 0
   have f0r := HN3.frozenR
   have HN3h := Lib.hid HN3
   clear HN3
   by_cases h0 : K = 0
   ·subst h0
    by_cases h32 : 32 < n
    ·have HE : Hid ((oneS (l.drop p) p).1 = 63) := by show _ = _; rw [HO.out, if_pos rfl, if_pos h32]
     have h32' : (32 : Int) < (n : Int) := by omega
     go_wp2
     refine bodyPost_ret (resT (next_done (HN3h.out.set0 1 rfl) _ _ _ _ _).1 rfl _ rfl) rfl ?_
     rw [← HPP.out]
     exact next_err (t := ⟨1, p, p + n, 0, []⟩) HE.out (by decide) (next_done (HN3h.out.set0 1 rfl) _ _ _ _ _).2
    ·have HE : Hid (oneS (l.drop p) p = (0, ⟨1, p, p + n, 0, []⟩)) := by show _ = _; rw [HO.out, if_pos rfl, if_neg h32]
     have h32' : ¬ (32 : Int) < (n : Int) := by omega
     go_wp2
     refine bodyPost_ret (resT (next_done (HN3h.out.set0 1 rfl) _ _ _ _ _).1 rfl _ rfl) rfl ?_
     rw [← HPP.out]
     exact next_ok (t := ⟨1, p, p + n, 0, []⟩) HE.out (next_done (HN3h.out.set0 1 rfl) _ _ _ _ _).2
   ·have HE : Hid (oneS (l.drop p) p = (0, ⟨K, p, p + n, 0, []⟩)) := by show _ = _; rw [HO.out, if_neg h0]
    have h0' : ((K : Int) == 0) = false := beq_eq_false_iff_ne.2 (by omega)
    go_wp2
    refine bodyPost_ret (resT (next_done HN3h.out _ _ _ _ _).1 rfl _ rfl) rfl ?_
    rw [← HPP.out]
    exact next_ok (t := ⟨K, p, p + n, 0, []⟩) HE.out (next_done HN3h.out _ _ _ _ _).2
end
end Go.Proofs.YtbdllefnghddcaaGreatDoor
