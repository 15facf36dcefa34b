/- THE REFERENCE's shortest. -/
import Derived.Test.YtfkbnemhkkbjgaaDoorTopicRefF
import Derived.Deep.RegionHeld3
namespace Go.Proofs.YtfkbnemhkkbjgaaDoor
open Go Go.RowKit

def shortB : List ByteArray → List ByteArray → Option (List ByteArray)
  | [], [] => some []
  | [], y :: _ => if y.toList == [35] then some [] else none
  | x :: _, [] => if x.toList == [35] then some [] else none
  | x :: f, y :: g =>
    if x.toList == [35] then some (leastB (y :: g)) else if y.toList == [35] then some (leastB (x :: f))
    else if x.toList == [43] then (shortB f g).map (leastV y :: ·)
    else if y.toList == [43] || y.toList == x.toList then (shortB f g).map (x :: ·) else none

/-- what shortest hands back -/
def ShortPost (w : World) (r : Option (List ByteArray)) (e : Ending) (w' : World) : Prop :=
  (∃ v, e = .returned (.tuple #[v, .bool r.isSome]) ∧ Sl w' v (r.getD [])) ∧ Below w.heap.size w w'

theorem Sl.nil (w : World) : Sl w (.slice none 0 0) [] := ⟨none, 0, rfl, Nat.le_refl _, by omega, .inl rfl⟩

theorem run_rest (n b o cap : Nat) (hc : n + 1 ≤ cap) (w : World) :
    (Sem.run Tryd.prog (Instr.slice 23 (.slice (some ⟨b, o, none⟩) (n + 1) cap) (some (Value.int IntKind.i64 1)) none none) w) = .ok (.slice (if cap = 1 then some ⟨b, o, none⟩ else some ⟨b, o + 1, none⟩) n (cap - 1)) w := by
  have c1 : (1 : Int) ≤ (n : Int) + 1 := by omega
  have c2 : (n : Int) + 1 ≤ cap := by omega
  go_simp

theorem shortB_len : ∀ (f g l : List ByteArray), shortB f g = some l → l.length ≤ f.length + g.length
  | [], [], l, h => by simp [shortB] at h; simp [← h]
  | [], y :: g, l, h => by
    unfold shortB at h; split at h <;> simp at h; simp [← h]
  | x :: f, [], l, h => by
    unfold shortB at h; split at h <;> simp at h; simp [← h]
  | x :: f, y :: g, l, h => by
    unfold shortB at h
    split at h
    · simp at h; have := leastB_len (y :: g); simp at this; simp [← h]; omega
    · split at h
      · simp at h; have := leastB_len (x :: f); simp at this; simp [← h]; omega
      · split at h
        · obtain ⟨r, hr, rfl⟩ := Option.map_eq_some_iff.1 h
          have := shortB_len f g r hr; simp; omega
        · split at h
          · obtain ⟨r, hr, rfl⟩ := Option.map_eq_some_iff.1 h
            have := shortB_len f g r hr; simp; omega
          · simp at h
theorem short_none {w w1 : World} {v : Value} {r : Option (List ByteArray)} (hr : r = none) (hS : Sl w1 v []) (hb : Below w.heap.size w w1) : ShortPost w r (.returned (.tuple #[v, .bool false])) w1 := by
  subst hr; exact ⟨⟨v, rfl, hS⟩, hb⟩
theorem short_some {w w1 : World} {v : Value} {r : Option (List ByteArray)} {l : List ByteArray} (hr : r = some l) (hS : Sl w1 v l) (hb : Below w.heap.size w w1) : ShortPost w r (.returned (.tuple #[v, .bool true])) w1 := by
  subst hr; exact ⟨⟨v, rfl, hS⟩, hb⟩
theorem short_tail {w w1 w2 : World} {v2 : Value} {lv : ByteArray} {rest : List ByteArray} {r : Option (List ByteArray)} (hb : Below (w.drewN 1).heap.size (w.drewN 1) w1) (hr : r = some (lv :: rest))
    (hown : w2.ownsRow w1.heap.size 9 1 v2 (1 + rest.length) ([.string lv] ++ rest.map Value.string)) (hg : (w1.alloc (.cells #[.string lv] 9)).grownBy w2 (some w1.heap.size)) : ShortPost w r (.returned (.tuple #[v2, .bool true])) w2 := by
  have hb1 : Below w.heap.size w w1 := by
    have : Below w.heap.size w (w.drewN 1) := (Below.refl _ _).drew
    exact this.trans hb
  refine short_some hr (Sl.of_owns (base := w1.heap.size) (l := lv :: rest) ?_) ((hb1.alloc hb1.size _).grown hg (by have := hb1.size; simp; omega) (fun k hk => by cases hk; exact hb1.size))
  rw [List.length_cons, Nat.add_comm]
  exact hown

set_option maxHeartbeats 2000000 in
theorem refShortest_stepA (x y : ByteArray) (f g : List ByteArray) (v1 v2 : Value) (w : World) (h1 : Sl w v1 (x :: f)) (h2 : Sl w v2 (y :: g)) (hf : f.length ≤ 10000000) (hg : g.length ≤ 10000000)
    (IH : Hid (∀ (v1 v2 : Value) (w : World), Sl w v1 f → Sl w v2 g → Calls Tryd.prog 36 #[v1, v2] w (ShortPost w (shortB f g))))
    (hx1 : (x.toList == [35]) = false) (hy1 : (y.toList == [35]) = false) (hx2 : (x.toList == [43]) = true) (hy2 : (y.toList == [43]) = true) :
    Calls Tryd.prog 36 #[v1, v2] w (ShortPost w (shortB (x :: f) (y :: g))) := by
  obtain ⟨i0, hi, hz0, hz1, hz2⟩ := info_parts info_string
  obtain ⟨p, cap, rfl, hc, hm, hp⟩ := h1
  obtain ⟨p2, cap2, rfl, hc2, hm2, hp2⟩ := h2
  obtain ⟨b, o, rfl, hcell⟩ := hp.resolve_left (by simp)
  obtain ⟨b2, o2, rfl, hcell2⟩ := hp2.resolve_left (by simp)
  have h10 := hcell 0 x rfl
  have h20 := hcell2 0 y rfl
  simp only [Nat.add_zero] at h10 h20
  have R1 := Sl.rest hc hm hcell
  have R2 := Sl.rest hc2 hm2 hcell2
  have s1 := run_rest f.length b o cap hc
  have s2 := run_rest g.length b2 o2 cap2 hc2
  generalize (if cap = 1 then some (⟨b, o, none⟩ : Addr) else some ⟨b, o + 1, none⟩) = q1 at R1 s1
  generalize (if cap2 = 1 then some (⟨b2, o2, none⟩ : Addr) else some ⟨b2, o2 + 1, none⟩) = q2 at R2 s2
  clear hcell hcell2 hp hp2 hc hc2 hm hm2
  have e1 : (0 : Int) < (f.length : Int) + 1 := by omega
  have e2 : (0 : Int) < (g.length : Int) + 1 := by omega
  have e3 : (((f.length : Int) + 1) == 0) = false := by simp; omega
  have e4 : (((g.length : Int) + 1) == 0) = false := by simp; omega
  have n1 := neS hx1
  have n2 := neS hy1
  have HX : Hid (shortB (x :: f) (y :: g) = (shortB f g).map (⟨#[]⟩ :: ·)) := by show _ = _; simp [shortB, hx1, hy1, hx2, leastV, hy2]
  have n3 := neSf hx2
  have n4 := neSf hy2
  go_enter Tryd.func36, Tryd.ntmps36
  go_wp2
  go_region_held3 (fun _ => True) (trivial) (first | (go_at_call 36; refine (IH.out _ _ _ (R1.drewN _) (R2.drewN _)).mono ?_; rintro e w1 ⟨⟨v, rfl, hS⟩, hB⟩))
  cases hr : shortB f g with
  | none =>
    rw [hr] at hS HX
    clear s1 s2 R1 R2 h10 h20
    go_wp2
    go_ret2
    exact short_none HX.out (Sl.nil _) ((Below.refl _ _).drew.trans hB)
  | some rest =>
    have hlen := shortB_len _ _ _ hr
    rw [hr] at hS HX
    clear s1 s2 R1 R2 h10 h20
    go_wp2_with (at_builtin; refine wpList_append_sl _ rfl _ _ rfl w1.heap.size i0 hi hz0 hz1 hz2 _ _ _ rfl (World.ownsRow_lit _ _ 1 (Nat.le_refl _) (by decide) rfl) _ rfl _ (hS.below ((Below.refl _ _).alloc (Nat.le_refl _) _)) (by simp at hlen ⊢; omega) (by simp) ?_; intro v' w2 hown hgrow)
    have HT := short_tail hB HX.out hown hgrow
    go_wp2
    go_ret2
    exact HT

set_option maxHeartbeats 2000000 in
theorem refShortest_stepB (x y : ByteArray) (f g : List ByteArray) (v1 v2 : Value) (w : World) (h1 : Sl w v1 (x :: f)) (h2 : Sl w v2 (y :: g)) (hf : f.length ≤ 10000000) (hg : g.length ≤ 10000000)
    (IH : Hid (∀ (v1 v2 : Value) (w : World), Sl w v1 f → Sl w v2 g → Calls Tryd.prog 36 #[v1, v2] w (ShortPost w (shortB f g))))
    (hx1 : (x.toList == [35]) = false) (hy1 : (y.toList == [35]) = false) (hx2 : (x.toList == [43]) = true) (hy2 : (y.toList == [43]) = false) :
    Calls Tryd.prog 36 #[v1, v2] w (ShortPost w (shortB (x :: f) (y :: g))) := by
  obtain ⟨i0, hi, hz0, hz1, hz2⟩ := info_parts info_string
  obtain ⟨p, cap, rfl, hc, hm, hp⟩ := h1
  obtain ⟨p2, cap2, rfl, hc2, hm2, hp2⟩ := h2
  obtain ⟨b, o, rfl, hcell⟩ := hp.resolve_left (by simp)
  obtain ⟨b2, o2, rfl, hcell2⟩ := hp2.resolve_left (by simp)
  have h10 := hcell 0 x rfl
  have h20 := hcell2 0 y rfl
  simp only [Nat.add_zero] at h10 h20
  have R1 := Sl.rest hc hm hcell
  have R2 := Sl.rest hc2 hm2 hcell2
  have s1 := run_rest f.length b o cap hc
  have s2 := run_rest g.length b2 o2 cap2 hc2
  generalize (if cap = 1 then some (⟨b, o, none⟩ : Addr) else some ⟨b, o + 1, none⟩) = q1 at R1 s1
  generalize (if cap2 = 1 then some (⟨b2, o2, none⟩ : Addr) else some ⟨b2, o2 + 1, none⟩) = q2 at R2 s2
  clear hcell hcell2 hp hp2 hc hc2 hm hm2
  have e1 : (0 : Int) < (f.length : Int) + 1 := by omega
  have e2 : (0 : Int) < (g.length : Int) + 1 := by omega
  have e3 : (((f.length : Int) + 1) == 0) = false := by simp; omega
  have e4 : (((g.length : Int) + 1) == 0) = false := by simp; omega
  have n1 := neS hx1
  have n2 := neS hy1
  have HX : Hid (shortB (x :: f) (y :: g) = (shortB f g).map (y :: ·)) := by show _ = _; simp [shortB, hx1, hy1, hx2, leastV, hy2]
  have n3 := neSf hx2
  have n4 := neS hy2
  go_enter Tryd.func36, Tryd.ntmps36
  go_wp2
  go_region_held3 (fun _ => True) (trivial) (first | (go_at_call 36; refine (IH.out _ _ _ (R1.drewN _) (R2.drewN _)).mono ?_; rintro e w1 ⟨⟨v, rfl, hS⟩, hB⟩))
  cases hr : shortB f g with
  | none =>
    rw [hr] at hS HX
    clear s1 s2 R1 R2 h10 h20
    go_wp2
    go_ret2
    exact short_none HX.out (Sl.nil _) ((Below.refl _ _).drew.trans hB)
  | some rest =>
    have hlen := shortB_len _ _ _ hr
    rw [hr] at hS HX
    clear s1 s2 R1 R2 h10 h20
    go_wp2_with (at_builtin; refine wpList_append_sl _ rfl _ _ rfl w1.heap.size i0 hi hz0 hz1 hz2 _ _ _ rfl (World.ownsRow_lit _ _ 1 (Nat.le_refl _) (by decide) rfl) _ rfl _ (hS.below ((Below.refl _ _).alloc (Nat.le_refl _) _)) (by simp at hlen ⊢; omega) (by simp) ?_; intro v' w2 hown hgrow)
    have HT := short_tail hB HX.out hown hgrow
    go_wp2
    go_ret2
    exact HT

set_option maxHeartbeats 2000000 in
theorem refShortest_stepC (x y : ByteArray) (f g : List ByteArray) (v1 v2 : Value) (w : World) (h1 : Sl w v1 (x :: f)) (h2 : Sl w v2 (y :: g)) (hf : f.length ≤ 10000000) (hg : g.length ≤ 10000000)
    (IH : Hid (∀ (v1 v2 : Value) (w : World), Sl w v1 f → Sl w v2 g → Calls Tryd.prog 36 #[v1, v2] w (ShortPost w (shortB f g))))
    (hx1 : (x.toList == [35]) = false) (hy1 : (y.toList == [35]) = false) (hx2 : (x.toList == [43]) = false) (hy2 : (y.toList == [43]) = true) :
    Calls Tryd.prog 36 #[v1, v2] w (ShortPost w (shortB (x :: f) (y :: g))) := by
  obtain ⟨i0, hi, hz0, hz1, hz2⟩ := info_parts info_string
  obtain ⟨p, cap, rfl, hc, hm, hp⟩ := h1
  obtain ⟨p2, cap2, rfl, hc2, hm2, hp2⟩ := h2
  obtain ⟨b, o, rfl, hcell⟩ := hp.resolve_left (by simp)
  obtain ⟨b2, o2, rfl, hcell2⟩ := hp2.resolve_left (by simp)
  have h10 := hcell 0 x rfl
  have h20 := hcell2 0 y rfl
  simp only [Nat.add_zero] at h10 h20
  have R1 := Sl.rest hc hm hcell
  have R2 := Sl.rest hc2 hm2 hcell2
  have s1 := run_rest f.length b o cap hc
  have s2 := run_rest g.length b2 o2 cap2 hc2
  generalize (if cap = 1 then some (⟨b, o, none⟩ : Addr) else some ⟨b, o + 1, none⟩) = q1 at R1 s1
  generalize (if cap2 = 1 then some (⟨b2, o2, none⟩ : Addr) else some ⟨b2, o2 + 1, none⟩) = q2 at R2 s2
  clear hcell hcell2 hp hp2 hc hc2 hm hm2
  have e1 : (0 : Int) < (f.length : Int) + 1 := by omega
  have e2 : (0 : Int) < (g.length : Int) + 1 := by omega
  have e3 : (((f.length : Int) + 1) == 0) = false := by simp; omega
  have e4 : (((g.length : Int) + 1) == 0) = false := by simp; omega
  have n1 := neS hx1
  have n2 := neS hy1
  have HX : Hid (shortB (x :: f) (y :: g) = (shortB f g).map (x :: ·)) := by show _ = _; simp [shortB, hx1, hy1, hx2, hy2]
  have n3 := neS hx2
  have n4 := neSf hy2
  go_enter Tryd.func36, Tryd.ntmps36
  go_wp2
  go_region_held3 (fun _ => True) (trivial) (first | (go_at_call 36; refine (IH.out _ _ _ (R1.drewN _) (R2.drewN _)).mono ?_; rintro e w1 ⟨⟨v, rfl, hS⟩, hB⟩))
  cases hr : shortB f g with
  | none =>
    rw [hr] at hS HX
    clear s1 s2 R1 R2 h10 h20
    go_wp2
    go_ret2
    exact short_none HX.out (Sl.nil _) ((Below.refl _ _).drew.trans hB)
  | some rest =>
    have hlen := shortB_len _ _ _ hr
    rw [hr] at hS HX
    clear s1 s2 R1 R2 h10 h20
    go_wp2_with (at_builtin; refine wpList_append_sl _ rfl _ _ rfl w1.heap.size i0 hi hz0 hz1 hz2 _ _ _ rfl (World.ownsRow_lit _ _ 1 (Nat.le_refl _) (by decide) rfl) _ rfl _ (hS.below ((Below.refl _ _).alloc (Nat.le_refl _) _)) (by simp at hlen ⊢; omega) (by simp) ?_; intro v' w2 hown hgrow)
    have HT := short_tail hB HX.out hown hgrow
    go_wp2
    go_ret2
    exact HT

set_option maxHeartbeats 2000000 in
theorem refShortest_stepD (x y : ByteArray) (f g : List ByteArray) (v1 v2 : Value) (w : World) (h1 : Sl w v1 (x :: f)) (h2 : Sl w v2 (y :: g)) (hf : f.length ≤ 10000000) (hg : g.length ≤ 10000000)
    (IH : Hid (∀ (v1 v2 : Value) (w : World), Sl w v1 f → Sl w v2 g → Calls Tryd.prog 36 #[v1, v2] w (ShortPost w (shortB f g))))
    (hx1 : (x.toList == [35]) = false) (hy1 : (y.toList == [35]) = false) (hx2 : (x.toList == [43]) = false) (hy2 : (y.toList == [43]) = false) :
    Calls Tryd.prog 36 #[v1, v2] w (ShortPost w (shortB (x :: f) (y :: g))) := by
  obtain ⟨i0, hi, hz0, hz1, hz2⟩ := info_parts info_string
  obtain ⟨p, cap, rfl, hc, hm, hp⟩ := h1
  obtain ⟨p2, cap2, rfl, hc2, hm2, hp2⟩ := h2
  obtain ⟨b, o, rfl, hcell⟩ := hp.resolve_left (by simp)
  obtain ⟨b2, o2, rfl, hcell2⟩ := hp2.resolve_left (by simp)
  have h10 := hcell 0 x rfl
  have h20 := hcell2 0 y rfl
  simp only [Nat.add_zero] at h10 h20
  have R1 := Sl.rest hc hm hcell
  have R2 := Sl.rest hc2 hm2 hcell2
  have s1 := run_rest f.length b o cap hc
  have s2 := run_rest g.length b2 o2 cap2 hc2
  generalize (if cap = 1 then some (⟨b, o, none⟩ : Addr) else some ⟨b, o + 1, none⟩) = q1 at R1 s1
  generalize (if cap2 = 1 then some (⟨b2, o2, none⟩ : Addr) else some ⟨b2, o2 + 1, none⟩) = q2 at R2 s2
  clear hcell hcell2 hp hp2 hc hc2 hm hm2
  have e1 : (0 : Int) < (f.length : Int) + 1 := by omega
  have e2 : (0 : Int) < (g.length : Int) + 1 := by omega
  have e3 : (((f.length : Int) + 1) == 0) = false := by simp; omega
  have e4 : (((g.length : Int) + 1) == 0) = false := by simp; omega
  have n1 := neS hx1
  have n2 := neS hy1
  have n3 := neS hx2
  have n4 := neS hy2
  cases hxy : (y.toList == x.toList)
  · have HX : Hid (shortB (x :: f) (y :: g) = none) := by show _ = _; simp only [shortB, hx1, hy1, hx2, hy2, hxy]; rfl
    have n5 := neS hxy
    go_enter Tryd.func36, Tryd.ntmps36
    go_wp2
    go_ret2
    exact short_none HX.out (Sl.nil _) (Below.refl _ _)
  · have HX : Hid (shortB (x :: f) (y :: g) = (shortB f g).map (x :: ·)) := by show _ = _; simp only [shortB, hx1, hy1, hx2, hy2, hxy]; rfl
    have n5 := neSf hxy
    go_enter Tryd.func36, Tryd.ntmps36
    go_wp2
    go_region_held3 (fun _ => True) (trivial) (first | (go_at_call 36; refine (IH.out _ _ _ (R1.drewN _) (R2.drewN _)).mono ?_; rintro e w1 ⟨⟨v, rfl, hS⟩, hB⟩))
    cases hr : shortB f g with
    | none =>
      rw [hr] at hS HX
      clear s1 s2 R1 R2 h10 h20
      go_wp2
      go_ret2
      exact short_none HX.out (Sl.nil _) ((Below.refl _ _).drew.trans hB)
    | some rest =>
      have hlen := shortB_len _ _ _ hr
      rw [hr] at hS HX
      clear s1 s2 R1 R2 h10 h20
      go_wp2_with (at_builtin; refine wpList_append_sl _ rfl _ _ rfl w1.heap.size i0 hi hz0 hz1 hz2 _ _ _ rfl (World.ownsRow_lit _ _ 1 (Nat.le_refl _) (by decide) rfl) _ rfl _ (hS.below ((Below.refl _ _).alloc (Nat.le_refl _) _)) (by simp at hlen ⊢; omega) (by simp) ?_; intro v' w2 hown hgrow)
      have HT := short_tail hB HX.out hown hgrow
      go_wp2
      go_ret2
      exact HT

set_option maxHeartbeats 2000000 in
theorem refShortest_any : ∀ (f g : List ByteArray) (v1 v2 : Value) (w : World), Sl w v1 f → Sl w v2 g → f.length ≤ 10000000 → g.length ≤ 10000000 →
    Calls Tryd.prog 36 #[v1, v2] w (ShortPost w (shortB f g))
  | [], [], v1, v2, w, h1, h2, _, _ => by
    obtain ⟨p, cap, rfl, _⟩ := h1
    obtain ⟨p2, cap2, rfl, _⟩ := h2
    have HX : Hid (shortB [] [] = some []) := rfl
    go_enter Tryd.func36, Tryd.ntmps36
    go_wp2
    go_ret2
    exact short_some HX.out (Sl.nil _) (Below.refl _ _)
  | [], y :: g, v1, v2, w, h1, h2, _, hg => by
    have RL := Lib.hid (refLeast_any [] v1 w h1 (by simp))
    obtain ⟨p, cap, rfl, _⟩ := h1
    obtain ⟨p2, cap2, rfl, _, _, hp2⟩ := h2
    obtain ⟨b2, o2, rfl, hcell2⟩ := hp2.resolve_left (by simp)
    have h20 := hcell2 0 y rfl
    simp only [Nat.add_zero] at h20
    have e2 : (0 : Int) < (g.length : Int) + 1 := by omega
    have e3 : ((0 : Int) == (g.length : Int) + 1) = false := by simp; omega
    clear hcell2 hp2
    cases hy1 : (y.toList == [35])
    · have HX : Hid (shortB [] (y :: g) = none) := by show _ = _; simp [shortB, hy1]
      go_enter Tryd.func36, Tryd.ntmps36
      go_wp2
      go_ret2
      exact short_none HX.out (Sl.nil _) (Below.refl _ _)
    · have HX : Hid (shortB [] (y :: g) = some (leastB [])) := by show _ = _; simp [shortB, hy1, leastB]
      go_enter Tryd.func36, Tryd.ntmps36
      go_wp2_with (go_at_call 44; refine (RL.out).mono ?_; rintro e w1 ⟨v, rfl, hS, hB⟩)
      go_ret2
      exact short_some HX.out hS hB
  | x :: f, [], v1, v2, w, h1, h2, hf, _ => by
    have RL := Lib.hid (refLeast_any [] v2 w h2 (by simp))
    obtain ⟨p2, cap2, rfl, _⟩ := h2
    obtain ⟨p, cap, rfl, _, _, hp⟩ := h1
    obtain ⟨b, o, rfl, hcell⟩ := hp.resolve_left (by simp)
    have h10 := hcell 0 x rfl
    simp only [Nat.add_zero] at h10
    have e2 : (0 : Int) < (f.length : Int) + 1 := by omega
    have e3 : (((f.length : Int) + 1) == 0) = false := by simp; omega
    clear hcell hp
    cases hx1 : (x.toList == [35])
    · have HX : Hid (shortB (x :: f) [] = none) := by show _ = _; simp [shortB, hx1]
      go_enter Tryd.func36, Tryd.ntmps36
      go_wp2
      go_ret2
      exact short_none HX.out (Sl.nil _) (Below.refl _ _)
    · have HX : Hid (shortB (x :: f) [] = some (leastB [])) := by show _ = _; simp [shortB, hx1, leastB]
      go_enter Tryd.func36, Tryd.ntmps36
      go_wp2_with (go_at_call 44; refine (RL.out).mono ?_; rintro e w1 ⟨v, rfl, hS, hB⟩)
      go_ret2
      exact short_some HX.out hS hB
  | x :: f, y :: g, v1, v2, w, h1, h2, hf, hg => by
    simp only [List.length_cons] at hf hg
    have IH : Hid (∀ (v1 v2 : Value) (w : World), Sl w v1 f → Sl w v2 g → Calls Tryd.prog 36 #[v1, v2] w (ShortPost w (shortB f g))) :=
      fun v1 v2 w h1 h2 => refShortest_any f g v1 v2 w h1 h2 (by omega) (by omega)
    cases hx1 : (x.toList == [35])
    · cases hy1 : (y.toList == [35])
      · cases hx2 : (x.toList == [43]) <;> cases hy2 : (y.toList == [43])
        · exact refShortest_stepD x y f g v1 v2 w h1 h2 (by omega) (by omega) IH hx1 hy1 hx2 hy2
        · exact refShortest_stepC x y f g v1 v2 w h1 h2 (by omega) (by omega) IH hx1 hy1 hx2 hy2
        · exact refShortest_stepB x y f g v1 v2 w h1 h2 (by omega) (by omega) IH hx1 hy1 hx2 hy2
        · exact refShortest_stepA x y f g v1 v2 w h1 h2 (by omega) (by omega) IH hx1 hy1 hx2 hy2
      · have RL := Lib.hid (refLeast_any (x :: f) v1 w h1 (by simp; omega))
        have HX : Hid (shortB (x :: f) (y :: g) = some (leastB (x :: f))) := by show _ = _; simp only [shortB, hx1, hy1]; rfl
        clear IH
        obtain ⟨p, cap, rfl, _, _, hp⟩ := h1
        obtain ⟨p2, cap2, rfl, _, _, hp2⟩ := h2
        obtain ⟨b, o, rfl, hcell⟩ := hp.resolve_left (by simp)
        obtain ⟨b2, o2, rfl, hcell2⟩ := hp2.resolve_left (by simp)
        have h10 := hcell 0 x rfl
        have h20 := hcell2 0 y rfl
        simp only [Nat.add_zero] at h10 h20
        have e1 : (0 : Int) < (f.length : Int) + 1 := by omega
        have e2 : (0 : Int) < (g.length : Int) + 1 := by omega
        clear hcell hp hcell2 hp2
        simp only [List.length_cons] at RL
        go_enter Tryd.func36, Tryd.ntmps36
        go_wp2_with (go_at_call 44; refine (RL.out).mono ?_; rintro e w1 ⟨v, rfl, hS, hB⟩)
        go_ret2
        exact short_some HX.out hS hB
    · have RL := Lib.hid (refLeast_any (y :: g) v2 w h2 (by simp; omega))
      have HX : Hid (shortB (x :: f) (y :: g) = some (leastB (y :: g))) := by show _ = _; simp only [shortB, hx1]; rfl
      clear IH
      obtain ⟨p, cap, rfl, _, _, hp⟩ := h1
      obtain ⟨p2, cap2, rfl, _, _, hp2⟩ := h2
      obtain ⟨b, o, rfl, hcell⟩ := hp.resolve_left (by simp)
      have h10 := hcell 0 x rfl
      simp only [Nat.add_zero] at h10
      have e1 : (0 : Int) < (f.length : Int) + 1 := by omega
      clear hcell hp hp2
      simp only [List.length_cons] at RL
      go_enter Tryd.func36, Tryd.ntmps36
      go_wp2_with (go_at_call 44; refine (RL.out).mono ?_; rintro e w1 ⟨v, rfl, hS, hB⟩)
      go_ret2
      exact short_some HX.out hS hB
end Go.Proofs.YtfkbnemhkkbjgaaDoor
